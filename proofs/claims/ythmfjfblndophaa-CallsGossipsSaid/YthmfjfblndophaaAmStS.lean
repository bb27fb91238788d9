/- The staged evaluator is sound: what it answers the abstract machine answers. -/
import Derived.Test.YthmfjfblndophaaAmSt
namespace Go.AM

/-- The value is what is known of it. -/
def Is (s : SV) (v : Value) : Prop := s = .top ∨ s.val = v

theorem Is.rfl' (s : SV) : Is s s.val := .inr rfl

/-- The temporaries, and what is known of them. -/
def TE (N : Nat) (t : Array Value) (env : SEnv) : Prop := t.size = N ∧ ∀ i, Is (env i) (t.getD i undef)

theorem liftV_val (v : Value) : (liftV v).val = v := by cases v <;> rfl

theorem TE.ev {N : Nat} {t : Array Value} {env : SEnv} (h : TE N t env) (x : Operand) : Is (evS env x) (ev t x) := by
  cases x with
  | tmp i => exact h.2 i
  | const v => exact .inr (liftV_val v)
  | global g => exact .inr rfl
  | func f => exact .inr rfl

theorem getD_set {t : Array Value} {d : Nat} (hd : d < t.size) (v : Value) (i : Nat) : (t.setIfInBounds d v).getD i undef = if i = d then v else t.getD i undef := by
  rw [Array.getD_eq_getD_getElem?, Array.getElem?_setIfInBounds, Array.getD_eq_getD_getElem?]
  by_cases h : d = i
  · subst h; simp [hd]
  · simp [h, Ne.symm h]

theorem TE.put {N : Nat} {t : Array Value} {env : SEnv} (h : TE N t env) {d : Option Tmp} (hd : okDst N d = true) {s : SV} {v : Value} (hs : Is s v) : TE N (put t d v) (putS env d s) := by
  cases d with
  | none => exact h
  | some d =>
    have hlt : d < N := of_decide_eq_true hd
    refine ⟨by simp [AM.put, h.1], fun i => ?_⟩
    simp only [AM.put, putS]
    rw [getD_set (by rw [h.1]; exact hlt)]
    by_cases hi : i = d
    · subst hi; simpa using hs
    · have : Nat.beq i d = false := Bool.eq_false_iff.2 fun h => hi (Nat.eq_of_beq_eq_true h)
      simpa [hi, this] using h.2 i

theorem TE.setK {N : Nat} {t : Array Value} {env : SEnv} (h : TE N t env) {c : Operand} {b : Bool} (hc : AM.ev t c = .bool b) : TE N t (setK env c b) := by
  cases c with
  | tmp d =>
    refine ⟨h.1, fun i => ?_⟩
    simp only [AM.setK]
    by_cases hi : i = d
    · subst hi
      have : Nat.beq i i = true := by simp
      rw [this]
      exact .inr hc.symm
    · have : Nat.beq i d = false := Bool.eq_false_iff.2 fun h => hi (Nat.eq_of_beq_eq_true h)
      rw [this]
      exact h.2 i
  | const v => exact h
  | global g => exact h
  | func f => exact h

section
variable {P : Program} {E : Env} {rec : Rec} {k : Nat} {R : Type} {r : R}

theorem toI_some {kd : IntKind} {s : SV} {v : Value} {K : Int → Option R} (hs : Is s v) (h : toI (XC P rec k R) kd s K = some r) : ∃ n, v = .int kd n ∧ K n = some r := by
  cases s with
  | int k' n =>
    simp only [toI] at h
    split at h
    · rename_i e; subst e; exact ⟨n, (hs.resolve_left (by simp)).symm, h⟩
    · cases h
  | opq v =>
    replace h : asI kd v K = some r := h
    unfold asI at h
    split at h
    · split at h
      · rename_i e; subst e; exact ⟨_, (hs.resolve_left (by simp)).symm, h⟩
      · cases h
    · cases h
  | _ => cases h

theorem toK_some {s : SV} {v : Value} {K : Int → Option R} (hs : Is s v) (h : toK (XC P rec k R) s K = some r) : ∃ kd n, v = .int kd n ∧ K n = some r := by
  cases s with
  | int k' n => exact ⟨k', n, (hs.resolve_left (by simp)).symm, h⟩
  | opq v =>
    replace h : asK v K = some r := h
    unfold asK at h
    split at h
    · exact ⟨_, _, (hs.resolve_left (by simp)).symm, h⟩
    · cases h
  | _ => cases h

theorem toP_some {s : SV} {v : Value} {K : Nat → Nat → Option R} (hs : Is s v) (h : toP (XC P rec k R) s K = some r) : ∃ b o, v = .pointer (some ⟨b, o, none⟩) ∧ K b o = some r := by
  cases s with
  | ptr b o => exact ⟨b, o, (hs.resolve_left (by simp)).symm, h⟩
  | opq v =>
    replace h : asP v K = some r := h
    unfold asP at h
    split at h
    · exact ⟨_, _, (hs.resolve_left (by simp)).symm, h⟩
    · cases h
  | _ => cases h

theorem toV_some {s : SV} {v : Value} {K : Value → Option R} (hs : Is s v) (h : toV s K = some r) : K v = some r := by
  unfold toV at h
  split at h
  · cases h
  · rename_i hn; rw [hs.resolve_left hn] at h; exact h

theorem toS_some {s : SV} {v : Value} {K : SV → Option R} (hs : Is s v) (h : toS s K = some r) : ∃ s' : SV, Is s' v ∧ K s' = some r := by
  unfold toS at h
  split at h
  · cases h
  · exact ⟨s, hs, h⟩

theorem toVs_some {t : Array Value} {env : SEnv} {N : Nat} (ht : TE N t env) : ∀ (l : List Operand) {K : List Value → Option R}, toVs (l.map (evS env)) K = some r → K (l.map (AM.ev t)) = some r := by
  intro l
  induction l with
  | nil => intro K h; exact h
  | cons x l ih => intro K h; exact ih (toV_some (ht.ev x) h)

theorem toPs_some {t : Array Value} {env : SEnv} {N : Nat} (ht : TE N t env) : ∀ (l : List (Nat × Operand)) {K : List (Nat × Value) → Option R}, toPs (l.map fun (i, x) => (i, evS env x)) K = some r →
    K (l.map fun (i, x) => (i, AM.ev t x)) = some r := by
  intro l
  induction l with
  | nil => intro K h; exact h
  | cons x l ih => intro K h; exact ih (toV_some (ht.ev x.2) h)

theorem toVo_some {t : Array Value} {env : SEnv} {N : Nat} (ht : TE N t env) (x : Option Operand) {K : Option Value → Option R} (h : toVo (x.map (evS env)) K = some r) : K (x.map (AM.ev t)) = some r := by
  cases x with
  | none => exact h
  | some x => exact toV_some (K := fun v => K (some v)) (ht.ev x) h

theorem ifB_some {b : Bool} {K : Bool → Option R} (h : ifB b (K true) (K false) = some r) : K b = some r := by
  cases b <;> exact h

theorem toC_some {s : SV} {v : Value} {K : Bool → Option R} (hs : Is s v) (h : toC (XC P rec k R) s K = some r) : ∃ b, v = .bool b ∧ K b = some r := by
  cases s with
  | kb b => cases b <;> exact ⟨_, (hs.resolve_left (by simp)).symm, h⟩
  | bool b => exact ⟨b, (hs.resolve_left (by simp)).symm, ifB_some (K := K) h⟩
  | opq v =>
    replace h : asB v (fun q => ifB q (K true) (K false)) = some r := h
    unfold asB at h
    split at h
    · exact ⟨_, (hs.resolve_left (by simp)).symm, ifB_some (K := K) h⟩
    · cases h
  | _ => cases h

theorem shape_some {t : TypeId} {v : Value} {K : SV → Option R} (h : shape P (XC P rec k R) t v K = some r) : ∃ s : SV, Is s v ∧ K s = some r := by
  unfold shape at h
  split at h
  · have h : asI _ v _ = some r := h
    unfold asI at h
    split at h
    · split at h
      · rename_i e; subst e; exact ⟨_, .inr rfl, h⟩
      · cases h
    · cases h
  · have h : asB v _ = some r := h
    unfold asB at h
    split at h
    · exact ⟨_, .inr rfl, h⟩
    · cases h
  · exact ⟨_, .inr rfl, h⟩

theorem eqv_some {t : TypeId} {x y : Value} {K : Bool → Option R} (h : eqv P t x y K = some r) : ∃ q, binOp P .eql t x y = some (.bool q) ∧ binOp P .neq t x y = some (.bool (!q)) ∧ K q = some r := by
  unfold eqv at h
  split at h
  · rename_i q hq
    refine ⟨q, hq, ?_, h⟩
    unfold binOp at hq ⊢
    split at hq
    · simp only at hq ⊢
      split at hq
      · rename_i e
        simp only [intBin, Option.some.injEq, Value.bool.injEq] at hq
        rw [if_pos e]
        simp only [intBin]
        rw [← hq]
        rfl
      · cases hq
    · split at hq
      · cases hq
      · rename_i e
        rw [if_neg e]
        simp only [Option.map_eq_some_iff] at hq ⊢
        obtain ⟨q', h1, h2⟩ := hq
        cases h2
        exact ⟨_, h1, rfl⟩
    · simp only [Option.map_eq_some_iff] at hq ⊢
      obtain ⟨q', h1, h2⟩ := hq
      cases h2
      exact ⟨_, h1, rfl⟩
  · cases h

theorem arithT_some {b : BinOp} {kd : IntKind} {x y : Int} {K : SV → Option R} (h : arithT SC (XC P rec k R) b kd x y K = some r) : ∃ s : SV, intBin b kd x y = some s.val ∧ K s = some r := by
  cases b <;> simp only [arithT] at h <;> first | cases h; done | skip
  case quo =>
    have h : nz y _ = some r := h
    unfold nz at h
    split at h
    · cases h
    · rename_i e
      exact ⟨_, by simp only [intBin]; rw [if_neg e]; rfl, h⟩
  case rem =>
    have h : nz y _ = some r := h
    unfold nz at h
    split at h
    · cases h
    · rename_i e
      exact ⟨_, by simp only [intBin]; rw [if_neg e]; rfl, h⟩
  all_goals exact ⟨_, rfl, h⟩

theorem binT_some {b : BinOp} {t : TypeId} {x y : SV} {vx vy : Value} (hx : Is x vx) (hy : Is y vy) {K : SV → Option R} (hh : binT P SC (XC P rec k R) b t x y K = some r) : ∃ s : SV, binOp P b t vx vy = some s.val ∧ K s = some r := by
  have key : ∀ kd, (toI (XC P rec k R) kd x fun a => toI (XC P rec k R) kd y fun c => arithT SC (XC P rec k R) b kd a c K) = some r → b ≠ .shl → b ≠ .shr → ∃ s : SV, binOp P b t vx vy = some s.val ∧ K s = some r := by
    intro kd h h1 h2
    obtain ⟨a, ha, h⟩ := toI_some hx h
    obtain ⟨c, hc, h⟩ := toI_some hy h
    obtain ⟨s, hs, h⟩ := arithT_some h
    refine ⟨s, ?_, h⟩
    rw [ha, hc]
    cases b <;> first | (exact absurd rfl h1) | (exact absurd rfl h2) | (simp only [binOp, if_true]; exact hs)
  have key2 : ∀ kd, (toI (XC P rec k R) kd x fun a => toK (XC P rec k R) y fun c => nn c (K (.int kd (shl kd a c)))) = some r → b = .shl → ∃ s : SV, binOp P b t vx vy = some s.val ∧ K s = some r := by
    intro kd h h1
    subst h1
    clear hh
    obtain ⟨a, ha, h⟩ := toI_some hx h
    obtain ⟨kc, c, hc, h⟩ := toK_some hy h
    unfold nn at h
    split at h
    · cases h
    · rename_i e
      exact ⟨_, by rw [ha, hc]; simp only [binOp]; rw [if_neg e]; rfl, h⟩
  have key3 : ∀ kd, (toI (XC P rec k R) kd x fun a => toK (XC P rec k R) y fun c => nn c (K (.int kd (shr kd a c)))) = some r → b = .shr → ∃ s : SV, binOp P b t vx vy = some s.val ∧ K s = some r := by
    intro kd h h1
    subst h1
    clear hh
    obtain ⟨a, ha, h⟩ := toI_some hx h
    obtain ⟨kc, c, hc, h⟩ := toK_some hy h
    unfold nn at h
    split at h
    · cases h
    · rename_i e
      exact ⟨_, by rw [ha, hc]; simp only [binOp]; rw [if_neg e]; rfl, h⟩
  unfold binT at hh
  split at hh
  · split at hh
    · exact key2 _ hh rfl
    · exact key3 _ hh rfl
    · rename_i h1 h2
      exact key _ hh h1 h2
  · split at hh
    · replace hh := toV_some hy (toV_some hx hh)
      obtain ⟨q, h1, h2, h3⟩ := eqv_some hh
      exact ⟨.bool q, h1, h3⟩
    · replace hh := toV_some hy (toV_some hx hh)
      obtain ⟨q, h1, h2, h3⟩ := eqv_some hh
      exact ⟨.bool (!q), h2, h3⟩
    · cases hh

theorem unT_some {b : UnOp} {t : TypeId} {x : SV} {vx : Value} (hx : Is x vx) {K : SV → Option R} (h : unT P SC (XC P rec k R) b t x K = some r) : ∃ s : SV, unOp b vx = some s.val ∧ K s = some r := by
  unfold unT at h
  split at h
  · split at h
    · rw [← hx.resolve_left (by simp)]; exact ⟨_, rfl, h⟩
    · rw [← hx.resolve_left (by simp)]; exact ⟨_, rfl, h⟩
    · rw [← hx.resolve_left (by simp)]; exact ⟨_, rfl, h⟩
    · rw [← hx.resolve_left (by simp)]
      have h : asB _ _ = some r := h
      unfold asB at h
      split at h
      · exact ⟨_, rfl, h⟩
      · cases h
    · cases h
  · split at h
    · obtain ⟨n, hn, h⟩ := toI_some hx h
      refine ⟨_, ?_, h⟩
      rw [hn]
      rfl
    · cases h
  · split at h
    · obtain ⟨n, hn, h⟩ := toI_some hx h
      refine ⟨_, ?_, h⟩
      rw [hn]
      rfl
    · cases h
  · cases h

theorem len_some {v : Value} {K : Int → Option R} (h : len v K = some r) : ∃ b n c, v = .slice b n c ∧ K n = some r := by
  unfold len at h
  split at h
  · exact ⟨_, _, _, rfl, h⟩
  · cases h

theorem bind_some' {α β : Type} {x : Option α} {f : α → Option β} {b : β} (h : x.bind f = some b) : ∃ a, x = some a ∧ f a = some b := Option.bind_eq_some_iff.1 h

theorem map_val (t : Array Value) (l : Array Operand) : l.map (AM.ev t) = (l.toList.map (AM.ev t)).toArray := by
  apply Array.ext'
  simp only [Array.toList_map]

end
end Go.AM
