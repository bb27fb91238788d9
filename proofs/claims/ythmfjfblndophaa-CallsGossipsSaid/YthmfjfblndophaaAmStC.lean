/- The staged evaluator is sound: regions, code, bodies. -/
import Derived.Test.YthmfjfblndophaaAmStO
namespace Go.AM

section
variable {P : Program} {E : Env} {rec : Rec} {k : Nat} {R : Type} {r : R} {N : Nat}

theorem wantT_some {t : Array Value} {env : SEnv} (ht : TE N t env) {all : Array Oper} {o : Oper} {K : Bool → SEnv → Option R} (hh : wantT (XC P rec k R) all o N env K = some r) :
    ∃ env', TE N t env' ∧ K (Region.wanted o (yielded all t)) env' = some r := by
  unfold wantT at hh
  unfold Region.wanted
  split at hh
  · rename_i e; rw [e]; exact ⟨env, ht, hh⟩
  · rename_i j w e
    rw [e]
    simp only [yielded]
    split at hh
    · rename_i d hd
      rw [hd]
      split at hh
      · rename_i hlt
        have hs := ht.2 d
        have hlt' := hlt
        rw [← ht.1] at hlt'
        rw [Array.getD_eq_getD_getElem?, Array.getElem?_eq_getElem hlt'] at hs
        simp only [Option.bind_some, Array.getElem?_eq_getElem hlt']
        split at hh
        · rename_i hu
          rw [hu] at hs
          have := hs.resolve_left (by simp)
          simp only [Option.getD_some] at this
          rw [← this]
          exact ⟨env, ht, hh⟩
        · obtain ⟨q, hq, h1⟩ := toC_some hs hh
          simp only [Option.getD_some] at hq
          rw [hq]
          refine ⟨_, ht.setK (c := .tmp d) (b := q) ?_, ?_⟩
          · simp only [ev, Array.getD_eq_getD_getElem?, Array.getElem?_eq_getElem hlt', hq, Option.getD_some]
          · rw [← h1]
            congr 1
      · cases hh
    · rename_i hd
      rw [hd]
      exact ⟨env, ht, hh⟩

theorem opsT_some {all : Array Oper} : ∀ (l : List Oper) {t : Array Value} {env : SEnv} {h : H} {K : SEnv → H → Option R}, TE N t env → opsT P E SC (XC P rec k R) N all l env h K = some r →
    ∃ t' env' h', ops P E rec all l t h = some (t', h') ∧ TE N t' env' ∧ K env' h' = some r := by
  intro l
  induction l with
  | nil => intro t env h K ht hh; exact ⟨t, env, h, rfl, ht, hh⟩
  | cons o rest ih =>
    intro t env h K ht hh
    unfold opsT at hh
    split at hh
    · rename_i hd
      obtain ⟨env', ht', h1⟩ := wantT_some ht hh
      unfold ops
      split at h1
      · rename_i hw
        rw [if_pos hw]
        obtain ⟨s, v, h', h2, hs, h3⟩ := opT_some ht' h1
        obtain ⟨t2, env2, h4, h5, h6, h7⟩ := ih (ht'.put hd hs) h3
        exact ⟨t2, env2, h4, by rw [h2]; exact h5, h6, h7⟩
      · rename_i hw
        rw [if_neg hw]
        exact ih (ht'.put hd (.inr rfl)) h1
    · cases hh

theorem fpT_some {t : Array Value} {env : SEnv} (ht : TE N t env) {o : Oper} {K : FPT → Option R} (hh : fpT P (XC P rec k R) env o K = some r) : ∃ f : FPT, fp P t o = some f.fp ∧ K f = some r := by
  have key : ∀ (q : Bool) (ty : TypeId) (a : SV) (va : Value), Is a va → (toP (XC P rec k R) a fun b o => match size? P ty with
      | some n => if n = 0 then none else K (if q then .st b o n else .ld b o n)
      | none => none) = some r → ∃ b o n, va = .pointer (some ⟨b, o, none⟩) ∧ size? P ty = some n ∧ n ≠ 0 ∧ K (if q then FPT.st b o n else FPT.ld b o n) = some r := by
    intro q ty a va hva h
    obtain ⟨b, o, ha, h1⟩ := toP_some hva h
    split at h1
    · rename_i n hn
      split at h1
      · cases h1
      · rename_i hz
        exact ⟨b, o, n, ha, hn, hz, h1⟩
    · cases h1
  obtain ⟨dst, x, ty, pos, aft, gu⟩ := o
  unfold fpT at hh
  unfold fp
  cases x with
  | load ty a =>
    obtain ⟨b, o, n, h1, h2, h3, h4⟩ := key false ty _ _ (ht.ev a) hh
    refine ⟨_, ?_, h4⟩
    simp only [h1, h2, Option.bind_some, if_neg h3]; rfl
  | store ty a x =>
    obtain ⟨b, o, n, h1, h2, h3, h4⟩ := key true ty _ _ (ht.ev a) hh
    refine ⟨_, ?_, h4⟩
    simp only [h1, h2, Option.bind_some, if_neg h3]; rfl
  | lookup ty m x ok =>
    refine ⟨.rm (ev t m), ?_, toV_some (ht.ev m) hh⟩
    show (match ev t m with
      | .map (some b) => some (FP.rb b)
      | _ => some FP.rd) = some (FPT.rm (ev t m)).fp
    generalize ev t m = u
    cases u with
    | map b => cases b <;> rfl
    | _ => rfl
  | slice ty x lo hi mx =>
    refine ⟨.rs (ev t x), ?_, toV_some (ht.ev x) hh⟩
    show (match ev t x with
      | .slice (some ⟨b, _, none⟩) _ _ => some (FP.rb b)
      | .slice none _ _ => some FP.pure
      | _ => some FP.rd) = some (FPT.rs (ev t x)).fp
    generalize ev t x = u
    cases u with
    | slice a n c =>
      cases a with
      | none => rfl
      | some a => obtain ⟨b, o, s⟩ := a; cases s <;> rfl
    | _ => rfl
  | call c =>
    obtain ⟨ca, as, tys⟩ := c
    simp only at hh ⊢
    cases ca with
    | builtin b =>
      cases b with
      | len =>
        simp only at hh ⊢
        split at hh
        · rename_i e; simp only [e]; exact ⟨_, rfl, hh⟩
        · rename_i e1
          refine ⟨.rd, ?_, hh⟩
          split
          · rename_i e2; exact absurd e2 (e1 _)
          · rfl
      | _ => exact ⟨_, rfl, hh⟩
    | _ => exact ⟨_, rfl, hh⟩
  | _ => first | exact ⟨_, rfl, hh⟩ | cases hh

theorem ck_some {b : Bool} {x : Option R} (h : ck b x = some r) : b = true ∧ x = some r := by
  cases b
  · cases h
  · exact ⟨rfl, h⟩

theorem fres_free {v : Value} {lo : Nat} {q : Bool} (h : fres v lo q = true) : (FPT.rs v).fp = .pure ∨ ∃ b, (FPT.rs v).fp = .rb b ∧ (decide (b < lo) && q) = true := by
  unfold fres at h
  split at h
  · exact .inr ⟨_, rfl, h⟩
  · exact .inl rfl
  · cases h

theorem frem_free {v : Value} {lo : Nat} {q : Bool} (h : frem v lo q = true) : ∃ b, (FPT.rm v).fp = .rb b ∧ (decide (b < lo) && q) = true := by
  unfold frem at h
  split at h
  · exact ⟨_, rfl, h⟩
  · cases h

theorem rs_cases (v : Value) : (FPT.rs v).fp = .pure ∨ (FPT.rs v).fp = .rd ∨ ∃ b, (FPT.rs v).fp = .rb b := by
  simp only [FPT.fp]
  split
  · exact .inr (.inr ⟨_, rfl⟩)
  · exact .inl rfl
  · exact .inr (.inl rfl)

theorem rm_cases (v : Value) : (FPT.rm v).fp = .rd ∨ ∃ b, (FPT.rm v).fp = .rb b := by
  simp only [FPT.fp]
  split
  · exact .inr ⟨_, rfl⟩
  · exact .inl rfl

theorem free_pure_left {y : Did} {i lo : Nat} {q : Bool} : free ⟨i, .pure, lo, q⟩ y = true := by unfold free; rfl
theorem free_pure_right {x : Did} {i lo : Nat} {q : Bool} : free x ⟨i, .pure, lo, q⟩ = true := by unfold free; cases x.f <;> rfl

theorem freeT_some {x y : DidT} {K : Option R} (hh : freeT SC (XC P rec k R) x y K = some r) : free x.did y.did = true ∧ K = some r := by
  obtain ⟨i, f, lo, q⟩ := x
  obtain ⟨i', f', lo', q'⟩ := y
  unfold freeT at hh
  cases f <;> cases f' <;> simp only [reduceCtorEq] at hh <;> simp only [DidT.did]
  case rs.md v =>
    obtain ⟨h1, h2⟩ := ck_some hh
    rcases fres_free h1 with e | ⟨b, e, h3⟩
    · rw [e]; exact ⟨free_pure_left, h2⟩
    · rw [e]; exact ⟨h3, h2⟩
  case md.rs v =>
    obtain ⟨h1, h2⟩ := ck_some hh
    rcases fres_free h1 with e | ⟨b, e, h3⟩
    · rw [e]; exact ⟨free_pure_right, h2⟩
    · rw [e]; exact ⟨h3, h2⟩
  case rm.md v =>
    obtain ⟨h1, h2⟩ := ck_some hh
    obtain ⟨b, e, h3⟩ := frem_free h1
    rw [e]; exact ⟨h3, h2⟩
  case md.rm v =>
    obtain ⟨h1, h2⟩ := ck_some hh
    obtain ⟨b, e, h3⟩ := frem_free h1
    rw [e]; exact ⟨h3, h2⟩
  case rs.rs v v' => rcases rs_cases v with e | e | ⟨b, e⟩ <;> rcases rs_cases v' with e' | e' | ⟨b', e'⟩ <;> rw [e, e'] <;> exact ⟨rfl, hh⟩
  case rs.rm v v' => rcases rs_cases v with e | e | ⟨b, e⟩ <;> rcases rm_cases v' with e' | ⟨b', e'⟩ <;> rw [e, e'] <;> exact ⟨rfl, hh⟩
  case rm.rs v v' => rcases rm_cases v with e | ⟨b, e⟩ <;> rcases rs_cases v' with e' | e' | ⟨b', e'⟩ <;> rw [e, e'] <;> exact ⟨rfl, hh⟩
  case rm.rm v v' => rcases rm_cases v with e | ⟨b, e⟩ <;> rcases rm_cases v' with e' | ⟨b', e'⟩ <;> rw [e, e'] <;> exact ⟨rfl, hh⟩
  case pure.rs v => exact ⟨free_pure_left, hh⟩
  case pure.rm v => exact ⟨free_pure_left, hh⟩
  case rs.pure v => exact ⟨free_pure_right, hh⟩
  case rm.pure v => exact ⟨free_pure_right, hh⟩
  case ld.rs v => rcases rs_cases v with e | e | ⟨b, e⟩ <;> rw [e] <;> exact ⟨rfl, hh⟩
  case rs.ld v _ _ _ => rcases rs_cases v with e | e | ⟨b, e⟩ <;> rw [e] <;> exact ⟨rfl, hh⟩
  case ld.rm v => rcases rm_cases v with e | ⟨b, e⟩ <;> rw [e] <;> exact ⟨rfl, hh⟩
  case rm.ld v _ _ _ => rcases rm_cases v with e | ⟨b, e⟩ <;> rw [e] <;> exact ⟨rfl, hh⟩
  case rd.rs v => rcases rs_cases v with e | e | ⟨b, e⟩ <;> rw [e] <;> exact ⟨rfl, hh⟩
  case rs.rd v => rcases rs_cases v with e | e | ⟨b, e⟩ <;> rw [e] <;> exact ⟨rfl, hh⟩
  case rd.rm v => rcases rm_cases v with e | ⟨b, e⟩ <;> rw [e] <;> exact ⟨rfl, hh⟩
  case rm.rd v => rcases rm_cases v with e | ⟨b, e⟩ <;> rw [e] <;> exact ⟨rfl, hh⟩
  all_goals first
    | exact ⟨rfl, hh⟩
    | exact ck_some hh
    | (cases hh; done)

theorem logT_some {B : Nat} {y : DidT} {K : Option R} : ∀ (l : List DidT), logT SC (XC P rec k R) B y l K = some r → ((l.map DidT.did).all fun d => B.testBit d.i || free d y.did) = true ∧ K = some r := by
  intro l
  induction l with
  | nil => intro h; exact ⟨rfl, h⟩
  | cons d l ih =>
    intro h
    unfold logT at h
    rw [List.map_cons, List.all_cons]
    split at h
    · rename_i e
      obtain ⟨h1, h2⟩ := ih h
      exact ⟨by rw [h1]; simp [DidT.did, e], h2⟩
    · obtain ⟨h0, h⟩ := freeT_some h
      obtain ⟨h1, h2⟩ := ih h
      exact ⟨by rw [h0, h1]; simp, h2⟩

theorem drawT_some {all : Array Oper} {B : Array Nat} : ∀ (l : List Oper) (j : Nat) (log : List DidT) {t : Array Value} {env : SEnv} {h : H} {K : SEnv → H → Option R}, TE N t env →
    drawT P E SC (XC P rec k R) N all B l j log env h K = some r → ∃ t' env' h', drawGo P E rec all B l j (log.map DidT.did) t h = some (t', h') ∧ TE N t' env' ∧ K env' h' = some r := by
  intro l
  induction l with
  | nil => intro j log t env h K ht hh; exact ⟨t, env, h, rfl, ht, hh⟩
  | cons o rest ih =>
    intro j log t env h K ht hh
    unfold drawT at hh
    split at hh
    · rename_i hd
      obtain ⟨env', ht', h1⟩ := wantT_some ht hh
      unfold drawGo
      split at h1
      · rename_i hw
        rw [if_pos hw]
        obtain ⟨f, hf, h1⟩ := fpT_some ht' h1
        obtain ⟨s, v, h', h2, hs, h3⟩ := opT_some ht' h1
        obtain ⟨hl, h3⟩ := logT_some log h3
        obtain ⟨t2, env2, h4, h5, h6, h7⟩ := ih _ _ (ht'.put hd hs) h3
        refine ⟨t2, env2, h4, ?_, h6, h7⟩
        rw [hf, Option.bind_some, h2, Option.bind_some]
        replace hl : ((log.map DidT.did).all fun d => (B.getD j 0).testBit d.i || free d ⟨j, f.fp, h.nx, decide (h'.wr = h.wr)⟩) = true := hl
        simp only [hl, if_true]
        exact h5
      · rename_i hw
        rw [if_neg hw]
        exact ih _ _ (ht'.put hd (.inr rfl)) h1
    · cases hh

/-! ### What a code writes -/

theorem put_getD {t : Array Value} {d : Option Tmp} {v : Value} {i : Nat} (h : d ≠ some i) : (put t d v).getD i undef = t.getD i undef ∧ (put t d v).size = t.size := by
  cases d with
  | none => exact ⟨rfl, rfl⟩
  | some d =>
    simp only [put]
    refine ⟨?_, by simp⟩
    rw [Array.getD_eq_getD_getElem?, Array.getD_eq_getD_getElem?, Array.getElem?_setIfInBounds, if_neg (fun e => h (congrArg some e))]

theorem ops_writ {all : Array Oper} {i : Nat} : ∀ (l : List Oper) {t t' : Array Value} {h h' : H}, (∀ o ∈ l, o.dst ≠ some i) → ops P E rec all l t h = some (t', h') → t'.getD i undef = t.getD i undef := by
  intro l
  induction l with
  | nil => intro t t' h h' _ e; cases e; rfl
  | cons o rest ih =>
    intro t t' h h' hl e
    unfold ops at e
    have h0 := hl o (by simp)
    have h1 := fun o' ho' => hl o' (List.mem_cons_of_mem _ ho')
    split at e
    · obtain ⟨⟨v, h2⟩, _, e⟩ := bind_some' e
      rw [ih h1 e]; exact (put_getD h0).1
    · rw [ih h1 e]; exact (put_getD h0).1

theorem drawGo_writ {all : Array Oper} {B : Array Nat} {i : Nat} : ∀ (l : List Oper) {j : Nat} {log : List Did} {t t' : Array Value} {h h' : H}, (∀ o ∈ l, o.dst ≠ some i) →
    drawGo P E rec all B l j log t h = some (t', h') → t'.getD i undef = t.getD i undef := by
  intro l
  induction l with
  | nil => intro j log t t' h h' _ e; cases e; rfl
  | cons o rest ih =>
    intro j log t t' h h' hl e
    unfold drawGo at e
    have h0 := hl o (by simp)
    have h1 := fun o' ho' => hl o' (List.mem_cons_of_mem _ ho')
    split at e
    · obtain ⟨f, _, e⟩ := bind_some' e
      obtain ⟨⟨v, h2⟩, _, e⟩ := bind_some' e
      simp only at e
      split at e
      · rw [ih h1 e]; exact (put_getD h0).1
      · cases e
    · rw [ih h1 e]; exact (put_getD h0).1

theorem loop_writ {f : Array Value → H → Option (Ex × Array Value × H)} {i : Nat} (hf : ∀ t h e t' h', f t h = some (e, t', h') → t'.getD i undef = t.getD i undef) :
    ∀ (m : Nat) {t : Array Value} {h : H} {e : Ex} {t' : Array Value} {h' : H}, loop f m t h = some (e, t', h') → t'.getD i undef = t.getD i undef := by
  intro m
  induction m with
  | zero => intro t h e t' h' hh; cases hh
  | succ m ih =>
    intro t h e t' h' hh
    unfold loop at hh
    obtain ⟨⟨e1, t1, h1⟩, h2, hh⟩ := bind_some' hh
    cases e1 with
    | normal => rw [ih hh]; exact hf _ _ _ _ _ h2
    | _ => cases hh; exact hf _ _ _ _ _ h2

theorem code_writ (c : Code) {i : Nat} (hi : i ∉ writ c) : ∀ {t : Array Value} {h : H} {e : Ex} {t' : Array Value} {h' : H}, code P E rec k c t h = some (e, t', h') → t'.getD i undef = t.getD i undef := by
  induction c with
  | skip => intro t h e t' h' hh; unfold code at hh; cases hh; rfl
  | region id all d =>
    intro t h e t' h' hh
    have hl : ∀ o ∈ all.toList, o.dst ≠ some i := by
      intro o ho ed
      exact hi (List.mem_eraseDups.2 (List.mem_filterMap.2 ⟨o, ho, ed⟩))
    cases d with
    | false =>
      unfold code at hh
      obtain ⟨⟨t1, h1⟩, h2, h3⟩ := Option.map_eq_some_iff.1 hh
      cases h3
      exact ops_writ _ hl h2
    | true =>
      unfold code at hh
      obtain ⟨⟨t1, h1⟩, h2, h3⟩ := Option.map_eq_some_iff.1 hh
      cases h3
      unfold draw at h2
      split at h2
      · exact drawGo_writ _ hl h2
      · cases h2
  | seq a b iha ihb =>
    intro t h e t' h' hh
    have h0 : i ∉ writ a ∧ i ∉ writ b := by
      constructor <;> (intro hx; exact hi (List.mem_eraseDups.2 (by simp [hx])))
    unfold code at hh
    obtain ⟨⟨e1, t1, h1⟩, h2, hh⟩ := bind_some' hh
    cases e1 with
    | normal => rw [ihb h0.2 hh]; exact iha h0.1 h2
    | _ => cases hh; exact iha h0.1 h2
  | cond c a b iha ihb =>
    intro t h e t' h' hh
    have h0 : i ∉ writ a ∧ i ∉ writ b := by
      constructor <;> (intro hx; exact hi (List.mem_eraseDups.2 (by simp [hx])))
    unfold code at hh
    split at hh
    · cases hh
    · split at hh
      · exact iha h0.1 hh
      · exact ihb h0.2 hh
      · cases hh
  | block id c ih =>
    intro t h e t' h' hh
    unfold code at hh
    obtain ⟨⟨e1, t1, h1⟩, h2, h3⟩ := Option.map_eq_some_iff.1 hh
    have := ih hi h2
    cases e1 <;> cases h3 <;> exact this
  | loop c ih =>
    intro t h e t' h' hh
    unfold code at hh
    exact loop_writ (fun t h e t' h' => ih hi) k hh
  | exit id => intro t h e t' h' hh; unfold code at hh; cases hh; rfl
  | ret => intro t h e t' h' hh; unfold code at hh; cases hh; rfl
  | _ => intro t h e t' h' hh; unfold code at hh; cases hh

/-! ### Code -/

theorem posn_some {i : Nat} : ∀ (l : List Nat) (j0 j : Nat), posn i l j0 = some j → j0 ≤ j ∧ l[j - j0]? = some i := by
  intro l
  induction l with
  | nil => intro j0 j h; cases h
  | cons x l ih =>
    intro j0 j h
    unfold posn at h
    cases hb : Nat.beq x i with
    | true => rw [hb] at h; cases h; exact ⟨Nat.le_refl _, by simp [Nat.eq_of_beq_eq_true hb]⟩
    | false =>
      rw [hb] at h
      obtain ⟨h1, h2⟩ := ih _ _ h
      refine ⟨by omega, ?_⟩
      have : j - j0 = (j - (j0 + 1)) + 1 := by omega
      rw [this, List.getElem?_cons_succ]
      exact h2

theorem posn_none {i : Nat} : ∀ (l : List Nat) (j0 : Nat), posn i l j0 = none → i ∉ l := by
  intro l
  induction l with
  | nil => intro j0 _; simp
  | cons x l ih =>
    intro j0 h
    unfold posn at h
    cases hb : Nat.beq x i with
    | true => rw [hb] at h; cases h
    | false =>
      rw [hb] at h
      have := ih _ h
      simp only [List.mem_cons, not_or]
      refine ⟨fun e => ?_, this⟩
      subst e
      simp at hb

theorem mixed_is {c : Code} {lv : List Nat} {env : SEnv} {t : Array Value} {ws : List Value} (hin : ∀ i j, posn i (carr c lv) 0 = some j → t.getD i undef = gv ws j)
    (hout : ∀ i, i ∉ writ c → Is (env i) (t.getD i undef)) (i : Nat) : Is (mixed SC c lv env ws i) (t.getD i undef) := by
  unfold mixed
  split
  · rename_i j hj
    exact .inr (hin i j hj).symm
  · split
    · exact .inl rfl
    · rename_i hj
      exact hout i (by simpa using hj)

theorem toVs_env {t : Array Value} {env : SEnv} (ht : TE N t env) : ∀ (l : List Nat) {K : List Value → Option R}, toVs (l.map env) K = some r → K (l.map fun i => t.getD i undef) = some r := by
  intro l
  induction l with
  | nil => intro K h; exact h
  | cons x l ih => intro K h; exact ih (toV_some (ht.2 x) h)

theorem carr_gv {c : Code} {lv : List Nat} {g : Nat → Value} {i j : Nat} (h : posn i (carr c lv) 0 = some j) : g i = gv ((carr c lv).map g) j := by
  obtain ⟨_, h2⟩ := posn_some _ 0 j h
  unfold gv
  rw [List.getD_eq_getElem?_getD, List.getElem?_map]
  simp only [Nat.sub_zero] at h2
  rw [h2]
  rfl

theorem onEx_some {e : Ex} {K : Ex → Option R} {b : Bool} : ∀ (l : List Nat), onEx (XC P rec k R) e K l b = some r → K e = some r := by
  intro l
  induction l with
  | nil =>
    intro h
    cases b with
    | true =>
      replace h : onR e (K .ret) = some r := h
      unfold onR at h
      split at h
      · exact h
      · cases h
    | false => cases h
  | cons i l ih =>
    intro h
    replace h : onE e i (K (.exit i)) (onEx (XC P rec k R) e K l b) = some r := h
    unfold onE at h
    split at h
    · split at h
      · rename_i e1; subst e1; exact h
      · exact ih h
    · exact ih h

theorem loop_some {M : List Value → SEnv} {f : Array Value → H → Option (Ex × Array Value × H)} {G : List Value → H → Option (Ex × List Value × H)}
    (hf : ∀ t h ws e ws' h', TE N t (M ws) → G ws h = some (e, ws', h') → ∃ t', f t h = some (e, t', h') ∧ TE N t' (M ws')) :
    ∀ (m : Nat) {t : Array Value} {h : H} {ws : List Value} {e : Ex} {ws' : List Value} {h' : H}, TE N t (M ws) → lpGo G m ws h = some (e, ws', h') →
      ∃ t', loop f m t h = some (e, t', h') ∧ TE N t' (M ws') := by
  intro m
  induction m with
  | zero => intro t h ws e ws' h' _ hh; cases hh
  | succ m ih =>
    intro t h ws e ws' h' ht hh
    unfold lpGo at hh
    obtain ⟨⟨e1, ws1, h1⟩, h2, hh⟩ := bind_some' hh
    obtain ⟨t1, h3, ht1⟩ := hf _ _ _ _ _ _ ht h2
    unfold loop
    rw [h3]
    cases e1 with
    | normal => exact ih ht1 hh
    | _ => cases hh; exact ⟨t1, rfl, ht1⟩

theorem codeT_some (c : Code) : ∀ {lv : List Nat} {R : Type} {r : R} {t : Array Value} {env : SEnv} {h : H} {K : Ex → SEnv → H → Option R}, TE N t env → codeT P E SC (XC P rec k) N c lv R env h K = some r →
    ∃ e t' env' h', code P E rec k c t h = some (e, t', h') ∧ TE N t' env' ∧ K e env' h' = some r := by
  induction c with
  | skip => intro lv R r t env h K ht hh; unfold codeT at hh; exact ⟨_, t, env, h, by unfold code; rfl, ht, hh⟩
  | region id all d =>
    intro lv R r t env h K ht hh
    cases d with
    | false =>
      unfold codeT at hh
      obtain ⟨t', env', h', h1, h2, h3⟩ := opsT_some _ ht hh
      exact ⟨_, t', env', h', by unfold code; rw [h1]; rfl, h2, h3⟩
    | true =>
      unfold codeT at hh
      split at hh
      · rename_i ho
        obtain ⟨t', env', h', h1, h2, h3⟩ := drawT_some _ _ _ ht hh
        exact ⟨_, t', env', h', by unfold code draw; rw [if_pos ho, show drawGo P E rec all (Region.before all) all.toList 0 [] t h = _ from h1]; rfl, h2, h3⟩
      · cases hh
  | seq a b iha ihb =>
    intro lv R r t env h K ht hh
    unfold codeT at hh
    obtain ⟨e, t', env', h', h1, h2, h3⟩ := iha ht hh
    unfold code
    rw [h1]
    cases e with
    | normal => exact ihb h2 h3
    | _ => exact ⟨_, t', env', h', rfl, h2, h3⟩
  | cond c a b iha ihb =>
    intro lv R r t env h K ht hh
    unfold codeT at hh
    unfold code
    split at hh
    · cases hh
    · rename_i ho
      rw [if_neg ho]
      obtain ⟨q, hq, h1⟩ := toC_some (ht.ev c) hh
      simp only [hq]
      cases q with
      | true => exact iha (ht.setK hq) h1
      | false => exact ihb (ht.setK hq) h1
  | block id c ih =>
    intro lv R r t env h K ht hh
    unfold codeT at hh
    obtain ⟨e, t', env', h', h1, h2, h3⟩ := ih ht hh
    unfold code
    rw [h1]
    cases e with
    | exit i =>
      simp only at h3
      split at h3
      · rename_i ei; exact ⟨_, t', env', h', by simp only [Option.map_some, if_pos ei], h2, h3⟩
      · rename_i ei; exact ⟨_, t', env', h', by simp only [Option.map_some, if_neg ei], h2, h3⟩
    | _ => exact ⟨_, t', env', h', rfl, h2, h3⟩
  | loop c ih =>
    intro lv R r t env h K ht hh
    unfold codeT at hh
    unfold code
    replace hh := toVs_env ht _ hh
    obtain ⟨⟨e, ws', h'⟩, h1, hh⟩ := bind_some' hh
    have h2 := onEx_some _ hh
    have h0 : TE N t (mixed SC c lv env ((carr c lv).map fun i => t.getD i undef)) := ⟨ht.1, mixed_is (fun i j hj => carr_gv (g := fun i => t.getD i undef) hj) (fun i _ => ht.2 i)⟩
    obtain ⟨t', h3, h4⟩ := loop_some (M := mixed SC c lv env) (f := code P E rec k c) (by
      intro t h ws e ws' h' ht' hG
      obtain ⟨e1, t1, env1, h1, g1, g2, g3⟩ := ih ht' hG
      replace g3 := toVs_env g2 _ g3
      replace g3 : some (e1, (carr c lv).map (fun i => t1.getD i undef), h1) = some (e, ws', h') := g3
      cases g3
      refine ⟨t1, g1, g2.1, mixed_is (fun i j hj => carr_gv (g := fun i => t1.getD i undef) hj) (fun i hi => ?_)⟩
      rw [code_writ c hi g1]
      have := ht'.2 i
      unfold mixed at this
      split at this
      · rename_i j hj
        have h6 := List.mem_of_getElem? (posn_some _ _ _ hj).2
        exact absurd (List.mem_filter.1 h6).1 hi
      · rw [if_neg (by simpa using hi)] at this
        exact this) k h0 h1
    exact ⟨e, t', _, h', h3, h4, h2⟩
  | exit id => intro lv R r t env h K ht hh; unfold codeT at hh; exact ⟨_, t, env, h, by unfold code; rfl, ht, hh⟩
  | ret => intro lv R r t env h K ht hh; unfold codeT at hh; exact ⟨_, t, env, h, by unfold code; rfl, ht, hh⟩
  | _ => intro lv R r t env h K ht hh; unfold codeT at hh; cases hh

theorem resT_some {t : Array Value} {env : SEnv} (ht : TE N t env) {h : H} : ∀ (l : List ResultVar) (acc : List Value) {K : List Value → Option R}, resT (XC P rec k R) env h l acc K = some r →
    ∃ vs, l.mapM (resV P t h) = some vs ∧ K (acc.reverse ++ vs) = some r := by
  intro l
  induction l with
  | nil => intro acc K hh; exact ⟨[], rfl, by simpa [resT] using hh⟩
  | cons x l ih =>
    intro acc K hh
    have key : ∀ v, resV P t h x = some v → resT (XC P rec k R) env h l (v :: acc) K = some r → ∃ vs, (x :: l).mapM (resV P t h) = some vs ∧ K (acc.reverse ++ vs) = some r := by
      intro v h1 h2
      obtain ⟨vs, h3, h4⟩ := ih _ h2
      exact ⟨v :: vs, by rw [List.mapM_cons, h1, h3]; rfl, by simpa using h4⟩
    cases x with
    | tmp i => exact key _ rfl (toV_some (ht.2 i) hh)
    | cell a ty =>
      obtain ⟨b, o, ha, hh⟩ := toP_some (ht.2 a) hh
      obtain ⟨v, hv, hh⟩ := ld_some hh
      exact key v (by simp only [resV, ha]; exact hv) hh

theorem bodyT_some {f : FuncId} {args : List SV} {h : H} {K : Value → H → Option R} (hh : bodyT P E SC (XC P rec k) f R args h K = some r) :
    ∃ v h', body P E rec k f (args.map SV.val).toArray h = some (v, h') ∧ K v h' = some r := by
  unfold bodyT at hh
  unfold body
  split at hh
  · rename_i fn hfn
    simp only [hfn]
    split at hh
    · rename_i c hc
      simp only [hc]
      split at hh
      · cases hh
      · rename_i hname
        rw [if_neg hname]
        split at hh
        · rename_i hlen
          have ht : TE fn.ntmps ((args.map SV.val).toArray ++ Array.replicate (fn.ntmps - (args.map SV.val).toArray.size) undef) (fun i => args.getD i .und) := by
            refine ⟨by simp; omega, fun i => ?_⟩
            rw [Array.getD_eq_getD_getElem?, Array.getElem?_append]
            simp only [List.size_toArray, List.length_map, List.getElem?_toArray, List.getElem?_map, List.getD_eq_getElem?_getD]
            split
            · rename_i hi
              rw [List.getElem?_eq_getElem hi]
              exact .inr rfl
            · rename_i hi
              rw [List.getElem?_eq_none (by omega)]
              rw [Array.getElem?_replicate]
              split <;> exact .inr rfl
          obtain ⟨e, t', env', h', h1, h2, h3⟩ := codeT_some c ht hh
          have fin : (resT (XC P rec k R) env' h' fn.results.toList [] fun vs => K (res1 vs) h') = some r → ∃ v h'', ((res P fn t' h').map (·, h')) = some (v, h'') ∧ K v h'' = some r := by
            intro h3
            obtain ⟨vs, h4, h5⟩ := resT_some h2 _ _ h3
            refine ⟨res1 vs, h', ?_, h5⟩
            unfold res
            rw [h4]
            unfold res1
            cases vs with
            | nil => rfl
            | cons v vs => cases vs <;> rfl
          rw [h1]
          cases e with
          | exit i => cases h3
          | normal => exact fin h3
          | ret => exact fin h3
        · cases hh
    · cases hh
  · cases hh

/-- A call by the staged evaluator. -/
theorem call_of_bodyT {n : Nat} {f : FuncId} {args : List SV} {h h' : H} {v : Value} (hi : E.iso f = false)
    (hh : bodyT P E SC (XC P (call P E n) (n + 1)) f (Value × H) args h (fun v h => some (v, h)) = some (v, h')) : call P E (n + 1) f (args.map SV.val).toArray h = some (v, h') := by
  obtain ⟨v1, h1, g1, g2⟩ := bodyT_some hh
  cases g2
  unfold call
  rw [hi]
  exact g1

end
end Go.AM
