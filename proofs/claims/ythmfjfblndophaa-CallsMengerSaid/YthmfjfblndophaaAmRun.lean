/- Calls without a measure: what a function answers in the end; what a call has left behind and nobody can see is left out of the heap. -/
/- From the abstract machine to a call of the model that leaves all that was there. -/
/- From what a law answers in the end to a call of the model that leaves all that was there. -/
/- The arguments of a call, in the abstract heap. -/
import Derived.Test.YthmfjfblndophaaAmDraw
import Derived.Test.YthmfjfblndophaaAmSt
import Derived.Test.YthmfjfblndophaaAmKit
import Derived.ChangeArms
import Derived.ChangeSlices
import Derived.WideShapes
import Derived.SizedLaws

namespace Go.AM

section
/-- A number, a bool, or a struct of these. -/
def plainW : Value → Bool
  | .int _ _ => true
  | .bool _ => true
  | .agg vs => !vs.isEmpty && vs.toList.all plainV
  | _ => false

/-- An answer of numbers and bools. -/
def plainO : Value → Bool
  | .int _ _ => true
  | .bool _ => true
  | .agg vs => !vs.isEmpty && vs.toList.all plainV
  | .tuple vs => !vs.isEmpty && vs.toList.all plainW
  | _ => false

/-- The heap after a call: where it has turned nothing that was there and answers plain values, the heap ahead of it; where it answers others, nothing counts as written if we say so. -/
noncomputable def truncB (kp : Bool) (_ : Program) (h h1 : H) (v : Value) : H :=
  open Classical in
  if ∀ b, b < h.nx → h1.blk b = h.blk b then (if plainO v = true then h else if kp = true then ⟨h1.blk, h1.nx, h.wr⟩ else h1) else h1

noncomputable abbrev trunc (P : Program) (h h1 : H) (v : Value) : H := truncB false P h h1 v

/-- The functions after which nothing counts as written: a second range of the environment's table. -/
def Env.keep (E : Env) (f : FuncId) : Bool := E.iso (f + 1000000)

variable (P : Program) (E : Env)

noncomputable def callT : Nat → Rec
  | 0, _, _, _ => none
  | n + 1, f, args, h =>
    if E.iso f && args.toList.all plainV then
      (body P E (call P E n) (n + 1) f args (lone E)).bind fun (v, _) => if plainR v then some (v, h) else none
    else (body P E (callT n) (n + 1) f args h).map fun (v, h1) => (v, truncB (E.keep f) P h h1 v)

end

section
variable {P : Program} {E : Env}

theorem plainV_lo {n : Nat} {v : Value} (h : plainV v = true) : Lo n v := (plainV_rel (ι := fun _ => ⟨0, 0, 0, 0⟩) (n := n) h).lo

theorem plainV_rel' {n : Nat} {v : Value} (h : plainV v = true) : Lo n v := fun _ _ _ q => plainR_rel (by unfold plainV at h; unfold plainR; split at h <;> simp_all) q

theorem plainW_lo {n : Nat} {v : Value} (h : plainW v = true) : Lo n v := by
  intro ι m v' q
  unfold plainW at h
  cases q with
  | agg h1 h2 =>
    simp only [Bool.and_eq_true] at h
    exact .agg h1 fun i a a' ha ha' => plainV_rel' (List.all_eq_true.1 h.2 a (List.mem_of_getElem? (by simpa using ha))) _ _ _ (h2 i a a' ha ha')
  | int k x => exact .int k x
  | bool b => exact .bool b
  | _ => simp at h

theorem plainO_lo {n : Nat} {v : Value} (h : plainO v = true) : Lo n v := by
  intro ι m v' q
  unfold plainO at h
  cases q with
  | agg h1 h2 =>
    simp only [Bool.and_eq_true] at h
    exact .agg h1 fun i a a' ha ha' => plainV_rel' (List.all_eq_true.1 h.2 a (List.mem_of_getElem? (by simpa using ha))) _ _ _ (h2 i a a' ha ha')
  | tuple h1 h2 =>
    simp only [Bool.and_eq_true] at h
    exact .tuple h1 fun i a a' ha ha' => plainW_lo (List.all_eq_true.1 h.2 a (List.mem_of_getElem? (by simpa using ha))) _ _ _ (h2 i a a' ha ha')
  | int k x => exact .int k x
  | bool b => exact .bool b
  | _ => simp at h

/-- Rows of a block that was there show what was there. -/
theorem BlkR.low {ι ι0 : Nat → Emb} {n m : Nat} {w w0 : World} {b : Nat} {k : Blk} (h : BlkR P ι m w b k) (h0 : BlkR P ι0 n w0 b k) : BlkR P ι n w b k := by
  unfold BlkR at *
  split at h <;> rename_i hk
  · obtain ⟨C, E, h1, h2, h3, h4, h5⟩ := h
    obtain ⟨_, _, _, _, _, _, g5⟩ := h0
    exact ⟨C, E, h1, h2, h3, h4, fun i v hv => by
      obtain ⟨v', a, r⟩ := h5 i v hv
      obtain ⟨v0, _, r0⟩ := g5 i v hv
      exact ⟨v', a, r0.lo _ _ _ r⟩⟩
  · obtain ⟨h1, h2, h3⟩ := h
    obtain ⟨_, _, g3⟩ := h0
    exact ⟨h1, h2, fun i v hv => by
      obtain ⟨v', a, r⟩ := h3 i v hv
      obtain ⟨v0, _, r0⟩ := g3 i v hv
      exact ⟨v', a, r0.lo _ _ _ r⟩⟩
  · obtain ⟨es', h1, h2, h3⟩ := h
    obtain ⟨es0, _, g2, g3⟩ := h0
    exact ⟨es', h1, h2, fun i e e' a b => by
      obtain ⟨p, q, r⟩ := h3 i e e' a b
      have hi : i < es0.size := by
        have := (List.getElem?_eq_some_iff.1 a).1
        omega
      obtain ⟨p0, q0, _⟩ := g3 i e _ a (Array.getElem?_eq_getElem hi)
      exact ⟨p0.lo _ _ _ p, q0.lo _ _ _ q, r⟩⟩

theorem Rel.none_ge {ι : Nat → Emb} {h : H} {w : World} (r : Rel P E ι h w) {b : Nat} (hb : ¬ b < h.nx) : h.blk b = none := by
  cases hk : h.blk b with
  | none => rfl
  | some k => exact absurd (r.dom b k hk) hb

theorem truncB_sound {kp : Bool} {ι ι' : Nat → Emb} {h h1 : H} {w w' : World} {v v' : Value} (r : Rel P E ι h w) (t : Tr ι h w ι' h1 w') (r1 : Rel P E ι' h1 w') (hv : VR ι' h1.nx v v') :
    Tr ι h w ι' (truncB kp P h h1 v) w' ∧ Rel P E ι' (truncB kp P h h1 v) w' ∧ VR ι' (truncB kp P h h1 v).nx v v' := by
  unfold truncB
  split
  · rename_i hu
    split
    · rename_i hp
      refine ⟨⟨Nat.le_refl _, t.ext, t.os, t.tape, t.output, t.size, t.fr, fun b k hb ho => t.own b k ((hu b (r.dom b k hb)).trans hb) ho⟩, ⟨r.dom, fun b k hb => ?_, fun b b' k k' hb hb' hne ho => ?_, r.ng, r1.glob, r.globB, r1.globO⟩, ?_⟩
      · exact (r1.blk b k ((hu b (r.dom b k hb)).trans hb)).low (r.blk b k hb)
      · exact r1.inj b b' k k' ((hu b (r.dom b k hb)).trans hb) ((hu b' (r.dom b' k' hb')).trans hb') hne ho
      · exact plainO_lo hp _ _ _ hv
    · split
      · exact ⟨⟨t.nx, t.ext, t.os, t.tape, t.output, t.size, t.fr, t.own⟩, ⟨r1.dom, r1.blk, r1.inj, r1.ng, r1.glob, r1.globB, r1.globO⟩, hv⟩
      · exact ⟨t, r1, hv⟩
  · exact ⟨t, r1, hv⟩

theorem truncB_grow {kp : Bool} {h h1 : H} {v : Value} (g : Grow h h1) : Grow h (truncB kp P h h1 v) := by
  unfold truncB
  split
  · rename_i hu
    split
    · exact .refl _
    · split
      · exact ⟨g.1, Nat.le_refl _, fun _ => hu, g.2.2.2⟩
      · exact g
  · exact g

theorem callT_sound (hmix : P.follows .mixedOrders = true) : ∀ n, SoundR P E (callT P E n) := by
  intro n
  induction n with
  | zero => exact ⟨fun f args h v h' hc => (by cases hc), fun f args h v h' hc => (by cases hc), fun f args h v h' hc => (by cases hc)⟩
  | succ n ih =>
    have hd := draw_ok hmix ih
    have split : ∀ f args h v h', callT P E (n + 1) f args h = some (v, h') → (∃ h1, h' = truncB (E.keep f) P h h1 v ∧ body P E (callT P E n) (n + 1) f args h = some (v, h1)) ∨
        call P E (n + 1) f args h = some (v, h') := by
      intro f args h v h' hc
      simp only [callT] at hc
      split at hc
      · rename_i hiso
        right
        simp only [call]
        rw [if_pos hiso]
        exact hc
      · obtain ⟨⟨u, h2⟩, q1, q2⟩ := map_some hc
        simp only [Prod.mk.injEq] at q2
        obtain ⟨rfl, rfl⟩ := q2
        exact .inl ⟨h2, rfl, q1⟩
    have sn := sound (E := E) hmix (n + 1)
    refine ⟨fun f args h v h' hc => ?_, fun f args h v h' hc => ?_, fun f args h v h' hc ι w args' r ha => ?_⟩
    · rcases split f args h v h' hc with ⟨h1, _, hb⟩ | hb
      · exact (body_sound ih hd hb).1
      · exact sn.fn _ _ _ _ _ hb
    · rcases split f args h v h' hc with ⟨h1, rfl, hb⟩ | hb
      · exact truncB_grow (body_sound ih hd hb).2.1
      · exact sn.grow _ _ _ _ _ hb
    · rcases split f args h v h' hc with ⟨h1, rfl, hb⟩ | hb
      · refine ((body_sound ih hd hb).2.2 ι w args' r ha).mono ?_
        rintro e w' ⟨v', ι', rfl, t1, t2, t3⟩
        obtain ⟨q1, q2, q3⟩ := truncB_sound r t1 t2 t3
        exact ⟨v', ι', rfl, q1, q2, q3⟩
      · exact sn.calls _ _ _ _ _ hb ι w args' r ha

/-! ### The end of a chain -/

section
variable {rec : Rec} {recs : Nat → Rec}

def Lim (rec : Rec) (recs : Nat → Rec) : Prop := ∀ f args h r, rec f args h = some r → ∃ N, ∀ n, N ≤ n → recs n f args h = some r

theorem op_cont (hl : Lim rec recs) {t : Array Value} {o : Oper} {h : H} {r : Value × H} (ho : op P E rec t o h = some r) : ∃ N, ∀ n, N ≤ n → op P E (recs n) t o h = some r := by
  unfold op at ho ⊢
  split at ho
  · cases ho
  · rename_i hok
    simp only [hok, if_false, Bool.false_eq_true]
    split at ho <;> try exact ⟨0, fun n _ => ho⟩
    rename_i c hc
    split at ho <;> try exact ⟨0, fun n _ => ho⟩
    rename_i f hf
    unfold callV at ho ⊢
    simp only at ho ⊢
    split at ho
    · exact hl _ _ _ _ ho
    · cases ho

theorem ops_cont (hl : Lim rec recs) (all : Array Oper) : ∀ (l : List Oper) (t : Array Value) (h : H) (r : Array Value × H), ops P E rec all l t h = some r → ∃ N, ∀ n, N ≤ n → ops P E (recs n) all l t h = some r := by
  intro l
  induction l with
  | nil => intro t h r ho; exact ⟨0, fun n _ => ho⟩
  | cons o l ih =>
    intro t h r ho
    simp only [ops] at ho ⊢
    split at ho
    · rename_i hw
      obtain ⟨⟨v, h1⟩, q1, q2⟩ := bind_some ho
      obtain ⟨N1, e1⟩ := op_cont hl q1
      obtain ⟨N2, e2⟩ := ih _ _ _ q2
      refine ⟨max N1 N2, fun n hn => ?_⟩
      rw [if_pos hw, e1 n (by omega)]
      exact e2 n (by omega)
    · rename_i hw
      obtain ⟨N2, e2⟩ := ih _ _ _ ho
      exact ⟨N2, fun n hn => by rw [if_neg hw]; exact e2 n hn⟩

theorem drawGo_cont (hl : Lim rec recs) (all : Array Oper) (B : Array Nat) : ∀ (l : List Oper) (j : Nat) (log : List Did) (t : Array Value) (h : H) (r : Array Value × H), drawGo P E rec all B l j log t h = some r →
    ∃ N, ∀ n, N ≤ n → drawGo P E (recs n) all B l j log t h = some r := by
  intro l
  induction l with
  | nil => intro j log t h r ho; exact ⟨0, fun n _ => ho⟩
  | cons o l ih =>
    intro j log t h r ho
    simp only [drawGo] at ho ⊢
    split at ho
    · rename_i hw
      obtain ⟨f, q0, q⟩ := bind_some ho
      obtain ⟨⟨v, h1⟩, q1, q2⟩ := bind_some q
      simp only at q2
      split at q2
      · rename_i hlog
        obtain ⟨N1, e1⟩ := op_cont hl q1
        obtain ⟨N2, e2⟩ := ih _ _ _ _ _ q2
        refine ⟨max N1 N2, fun n hn => ?_⟩
        rw [if_pos hw, q0, Option.bind_some, e1 n (by omega), Option.bind_some]
        simp only
        rw [if_pos hlog]
        exact e2 n (by omega)
      · cases q2
    · rename_i hw
      obtain ⟨N2, e2⟩ := ih _ _ _ _ _ ho
      exact ⟨N2, fun n hn => by rw [if_neg hw]; exact e2 n hn⟩

theorem code_cont (hl : Lim rec recs) (k : Nat) : ∀ (c : Code) (t : Array Value) (h : H) (r : Ex × Array Value × H), code P E rec k c t h = some r →
    ∃ N, ∀ n, N ≤ n → ∀ k', k ≤ k' → code P E (recs n) k' c t h = some r := by
  intro c
  induction c with
  | skip => intro t h r hc; exact ⟨0, fun n _ k' _ => hc⟩
  | region id all dr =>
    intro t h r hc
    cases dr with
    | false =>
      simp only [code] at hc ⊢
      obtain ⟨⟨t1, h1⟩, h2, h3⟩ := map_some hc
      obtain ⟨N, e⟩ := ops_cont hl all _ _ _ _ h2
      exact ⟨N, fun n hn k' _ => by rw [e n hn]; exact congrArg some h3⟩
    | true =>
      simp only [code] at hc ⊢
      obtain ⟨⟨t1, h1⟩, h2, h3⟩ := map_some hc
      unfold draw at h2 ⊢
      split at h2
      · rename_i hok
        obtain ⟨N, e⟩ := drawGo_cont hl _ _ _ _ _ _ _ _ h2
        exact ⟨N, fun n hn k' _ => by rw [if_pos hok, e n hn]; exact congrArg some h3⟩
      · cases h2
  | seq x y ihx ihy =>
    intro t h r hc
    simp only [code] at hc ⊢
    obtain ⟨⟨e1, t1, h1⟩, h2, h3⟩ := bind_some hc
    obtain ⟨N1, p1⟩ := ihx _ _ _ h2
    cases e1 with
    | normal =>
      simp only at h3
      obtain ⟨N2, p2⟩ := ihy _ _ _ h3
      exact ⟨max N1 N2, fun n hn k' hk => by rw [p1 n (by omega) k' hk]; exact p2 n (by omega) k' hk⟩
    | exit i => exact ⟨N1, fun n hn k' hk => by rw [p1 n hn k' hk]; exact h3⟩
    | ret => exact ⟨N1, fun n hn k' hk => by rw [p1 n hn k' hk]; exact h3⟩
  | cond b x y ihx ihy =>
    intro t h r hc
    simp only [code] at hc ⊢
    split at hc
    · cases hc
    · rename_i hok
      simp only [hok, if_false, Bool.false_eq_true]
      split at hc
      · exact ihx _ _ _ hc
      · exact ihy _ _ _ hc
      · cases hc
  | block id x ih =>
    intro t h r hc
    simp only [code] at hc ⊢
    obtain ⟨⟨e1, t1, h1⟩, h2, h3⟩ := map_some hc
    obtain ⟨N, p⟩ := ih _ _ _ h2
    exact ⟨N, fun n hn k' hk => by rw [p n hn k' hk]; exact congrArg some h3⟩
  | loop x ih =>
    intro t h r hc
    simp only [code] at hc ⊢
    have key : ∀ (m : Nat) (t : Array Value) (h : H) (r : Ex × Array Value × H), loop (code P E rec k x) m t h = some r → ∃ N, ∀ n, N ≤ n → ∀ k', k ≤ k' → ∀ m', m ≤ m' → loop (code P E (recs n) k' x) m' t h = some r := by
      intro m
      induction m with
      | zero => intro t h r hc; cases hc
      | succ m ihm =>
        intro t h r hc
        simp only [loop] at hc
        obtain ⟨⟨e1, t1, h1⟩, h2, h3⟩ := bind_some hc
        obtain ⟨N1, p1⟩ := ih _ _ _ h2
        cases e1 with
        | normal =>
          simp only at h3
          obtain ⟨N2, p2⟩ := ihm _ _ _ h3
          refine ⟨max N1 N2, fun n hn k' hk m' hm => ?_⟩
          cases m' with
          | zero => omega
          | succ m' =>
            simp only [loop]
            rw [p1 n (by omega) k' hk]
            exact p2 n (by omega) k' hk m' (by omega)
        | exit i =>
          refine ⟨N1, fun n hn k' hk m' hm => ?_⟩
          cases m' with
          | zero => omega
          | succ m' => simp only [loop]; rw [p1 n (by omega) k' hk]; exact h3
        | ret =>
          refine ⟨N1, fun n hn k' hk m' hm => ?_⟩
          cases m' with
          | zero => omega
          | succ m' => simp only [loop]; rw [p1 n (by omega) k' hk]; exact h3
    obtain ⟨N, p⟩ := key k _ _ _ hc
    exact ⟨N, fun n hn k' hk => p n hn k' hk k' hk⟩
  | exit id => intro t h r hc; exact ⟨0, fun n _ k' _ => hc⟩
  | ret => intro t h r hc; exact ⟨0, fun n _ k' _ => hc⟩
  | _ => intro t h r hc; simp only [code] at hc; cases hc

theorem body_cont (hl : Lim rec recs) {k : Nat} {f : FuncId} {args : Array Value} {h : H} {r : Value × H} (hb : body P E rec k f args h = some r) :
    ∃ N, ∀ n, N ≤ n → ∀ k', k ≤ k' → body P E (recs n) k' f args h = some r := by
  unfold body at hb ⊢
  split at hb
  · rename_i fn hf
    split at hb
    · rename_i c hc
      split at hb
      · cases hb
      · rename_i hname
        obtain ⟨⟨e, t1, h1⟩, h2, h3⟩ := bind_some hb
        obtain ⟨N, p⟩ := code_cont hl k c _ _ _ h2
        refine ⟨N, fun n hn k' hk => ?_⟩
        simp only
        rw [if_neg hname, p n hn k' hk]
        exact h3
    · cases hb
  · cases hb

end

theorem call_mono : ∀ n f args h r, call P E n f args h = some r → call P E (n + 1) f args h = some r := by
  intro n
  induction n with
  | zero => intro f args h r hc; cases hc
  | succ n ih =>
    intro f args h r hc
    have hl : Lim (call P E n) (fun _ => call P E (n + 1)) := fun f args h r hr => ⟨0, fun _ _ => ih f args h r hr⟩
    unfold call at hc ⊢
    split at hc
    · rename_i hiso
      rw [if_pos hiso]
      obtain ⟨⟨v, h2⟩, q1, q2⟩ := bind_some hc
      obtain ⟨N, p⟩ := body_cont hl q1
      rw [p N (Nat.le_refl _) (n + 1 + 1) (Nat.le_succ _)]
      exact q2
    · rename_i hiso
      rw [if_neg hiso]
      obtain ⟨N, p⟩ := body_cont hl hc
      exact p N (Nat.le_refl _) (n + 1 + 1) (Nat.le_succ _)

theorem callT_mono : ∀ n f args h r, callT P E n f args h = some r → callT P E (n + 1) f args h = some r := by
  intro n
  induction n with
  | zero => intro f args h r hc; cases hc
  | succ n ih =>
    intro f args h r hc
    have hl : Lim (callT P E n) (fun _ => callT P E (n + 1)) := fun f args h r hr => ⟨0, fun _ _ => ih f args h r hr⟩
    have hl2 : Lim (call P E n) (fun _ => call P E (n + 1)) := fun f args h r hr => ⟨0, fun _ _ => call_mono n f args h r hr⟩
    unfold callT at hc ⊢
    split at hc
    · rename_i hiso
      rw [if_pos hiso]
      obtain ⟨⟨v, h2⟩, q1, q2⟩ := bind_some hc
      obtain ⟨N, p⟩ := body_cont hl2 q1
      rw [p N (Nat.le_refl _) (n + 1 + 1) (Nat.le_succ _)]
      exact q2
    · rename_i hiso
      rw [if_neg hiso]
      obtain ⟨⟨v, h2⟩, q1, q2⟩ := map_some hc
      obtain ⟨N, p⟩ := body_cont hl q1
      rw [p N (Nat.le_refl _) (n + 1 + 1) (Nat.le_succ _)]
      exact congrArg some q2

theorem callT_le {n m : Nat} (hnm : n ≤ m) {f : FuncId} {args : Array Value} {h : H} {r : Value × H} (hc : callT P E n f args h = some r) : callT P E m f args h = some r := by
  induction hnm with
  | refl => exact hc
  | step _ ih => exact callT_mono _ _ _ _ _ ih

variable (P E) in
/-- What a call answers in the end. -/
noncomputable def run : Rec := fun f args h =>
  open Classical in
  if hx : ∃ n r, callT P E n f args h = some r then some hx.choose_spec.choose else none

theorem run_of {n : Nat} {f : FuncId} {args : Array Value} {h : H} {r : Value × H} (hc : callT P E n f args h = some r) : run P E f args h = some r := by
  have hx : ∃ n r, callT P E n f args h = some r := ⟨n, r, hc⟩
  unfold run
  rw [dif_pos hx]
  have h1 := callT_le (Nat.le_max_left n hx.choose) hc
  have h2 := callT_le (Nat.le_max_right n hx.choose) hx.choose_spec.choose_spec
  rw [h1] at h2
  exact h2.symm

theorem run_lim : Lim (run P E) (callT P E) := by
  intro f args h r hr
  unfold run at hr
  split at hr
  · rename_i hx
    cases hr
    exact ⟨hx.choose, fun n hn => callT_le hn hx.choose_spec.choose_spec⟩
  · cases hr

theorem run_sound (hmix : P.follows .mixedOrders = true) : SoundR P E (run P E) := by
  refine ⟨fun f args h v h' hc => ?_, fun f args h v h' hc => ?_, fun f args h v h' hc => ?_⟩
  all_goals obtain ⟨N, p⟩ := run_lim f args h _ hc
  · exact (callT_sound hmix N).fn _ _ _ _ _ (p N (Nat.le_refl _))
  · exact (callT_sound hmix N).grow _ _ _ _ _ (p N (Nat.le_refl _))
  · exact (callT_sound hmix N).calls _ _ _ _ _ (p N (Nat.le_refl _))

theorem run_of_bodyT {k : Nat} {f : FuncId} {args : List SV} {h h1 : H} {v : Value} (hi : (E.iso f || E.keep f) = false)
    (hh : bodyT P E SC (XC P (run P E) k) f (Value × H) args h (fun v h => some (v, h)) = some (v, h1)) : run P E f (args.map SV.val).toArray h = some (v, trunc P h h1 v) := by
  obtain ⟨v1, h2, g1, g2⟩ := bodyT_some hh
  cases g2
  obtain ⟨N, p⟩ := body_cont run_lim g1
  refine run_of (n := max N k + 1) ?_
  rw [Bool.or_eq_false_iff] at hi
  unfold callT
  rw [hi.1, hi.2]
  simp only [Bool.false_and, Bool.false_eq_true, if_false]
  rw [p _ (Nat.le_max_left _ _) _ (by omega)]
  rfl

theorem run_of_bodyTK {k : Nat} {f : FuncId} {args : List SV} {h h1 : H} {v : Value} (hi : E.iso f = false) (hk : E.keep f = true)
    (hh : bodyT P E SC (XC P (run P E) k) f (Value × H) args h (fun v h => some (v, h)) = some (v, h1)) : run P E f (args.map SV.val).toArray h = some (v, truncB true P h h1 v) := by
  obtain ⟨v1, h2, g1, g2⟩ := bodyT_some hh
  cases g2
  obtain ⟨N, p⟩ := body_cont run_lim g1
  refine run_of (n := max N k + 1) ?_
  unfold callT
  rw [hi, hk]
  simp only [Bool.false_and, Bool.false_eq_true, if_false]
  rw [p _ (Nat.le_max_left _ _) _ (by omega)]
  rfl

theorem truncB_pure {kp : Bool} {h h1 : H} {v : Value} (hp : plainO v = true) (x : Ext h h1) : truncB kp P h h1 v = h := by
  unfold truncB
  rw [if_pos x.blk, if_pos hp]

theorem trunc_pure {h h1 : H} {v : Value} (hp : plainO v = true) (x : Ext h h1) : trunc P h h1 v = h := truncB_pure hp x

theorem trunc_not {h h1 : H} {v : Value} (hp : plainO v = false) : trunc P h h1 v = h1 := by
  unfold trunc truncB
  split
  · rw [if_neg (by rw [hp]; simp), if_neg (by simp)]
  · rfl

/-- The same heap, but for how often it was written. -/
structure Sm (h1 h2 : H) : Prop where
  nx : h2.nx = h1.nx
  blk : h2.blk = h1.blk

theorem Sm.refl (h : H) : Sm h h := ⟨rfl, rfl⟩
theorem Sm.ext {h1 h2 : H} (s : Sm h1 h2) : Ext h1 h2 := ⟨by rw [s.nx]; exact Nat.le_refl _, fun b _ => by rw [s.blk]⟩

/-- A heap that has grown, and in which nothing counts as written. -/
structure Exw (h h' : H) : Prop extends Ext h h' where
  wr : h'.wr = h.wr

theorem truncB_not {h h1 : H} {v : Value} (hp : plainO v = false) (x : Ext h h1) : Sm h1 (truncB true P h h1 v) ∧ Exw h (truncB true P h h1 v) := by
  unfold truncB
  rw [if_pos x.blk, if_neg (by rw [hp]; simp), if_pos rfl]
  exact ⟨⟨rfl, rfl⟩, ⟨⟨x.nx, x.blk⟩, rfl⟩⟩

/-- What was there is after a call as it was in the end of it. -/
theorem trunc_blk {h h1 : H} {v : Value} (hn : h.nx ≤ h1.nx) : h.nx ≤ (trunc P h h1 v).nx ∧ (trunc P h h1 v).nx ≤ h1.nx ∧ ∀ b, b < h.nx → (trunc P h h1 v).blk b = h1.blk b := by
  unfold trunc truncB
  split
  · rename_i hu
    split
    · exact ⟨Nat.le_refl _, hn, fun b hb => (hu b hb).symm⟩
    · rw [if_neg (by simp)]
      exact ⟨hn, Nat.le_refl _, fun _ _ => rfl⟩
  · exact ⟨hn, Nat.le_refl _, fun _ _ => rfl⟩

end
end Go.AM

namespace Go.AM
open Go.RowKit

/-- A law's call: it returns true, and all that was there is as it was. -/
theorem law_calls {P : Program} {E : Env} (hmix : P.follows .mixedOrders = true) {n : Nat} {f : FuncId} {args args' : Array Value} {ι : Nat → Emb} {h h' : H} {w : World} {b : Bool}
    (hc : call P E n f args h = some (.bool b, h')) (hr : Rel P E ι h w) (ha : AR ι h.nx args args') (ho : ∀ i k, h.blk i = some k → k.own = false) :
    Calls P f args' w (fun e w' => e = .returned (.bool b) ∧ Below w.heap.size w w') := by
  refine ((sound hmix n).calls _ _ _ _ _ hc _ _ _ hr ha).mono ?_
  rintro e w' ⟨v', ι', rfl, tr, r, hv⟩
  refine ⟨?_, tr.os, tr.tape, tr.output, tr.size, fun g hg => tr.fr g hg fun i k hi hk => ?_⟩
  · cases hv; rfl
  · rw [ho i k hi] at hk; cases hk

/-- The empty heap stands for every world. -/
theorem rel_empty {P : Program} {E : Env} (hE : E.NG = 0) (w : World) : Rel P E (fun _ => ⟨0, 0, 0, 0⟩) ⟨fun _ => none, 0, 0⟩ w :=
  ⟨fun _ _ h => (by cases h), fun _ _ h => (by cases h), fun _ _ _ _ h => (by cases h), (by rw [hE]; exact Nat.le_refl _), fun _ h => (by omega), fun _ h => (by omega), fun _ _ h => (by omega)⟩

end Go.AM

namespace Go.AM
open Go.RowKit

/-- A law's call: it returns true, and all that was there is as it was. -/
theorem law_run {P : Program} {E : Env} (hmix : P.follows .mixedOrders = true) {f : FuncId} {args args' : Array Value} {ι : Nat → Emb} {h h' : H} {w : World} {b : Bool}
    (hc : run P E f args h = some (.bool b, h')) (hr : Rel P E ι h w) (ha : AR ι h.nx args args') (ho : ∀ i k, h.blk i = some k → k.own = false) :
    Calls P f args' w (fun e w' => e = .returned (.bool b) ∧ Below w.heap.size w w') := by
  refine ((run_sound hmix).calls _ _ _ _ _ hc _ _ _ hr ha).mono ?_
  rintro e w' ⟨v', ι', rfl, tr, r, hv⟩
  refine ⟨?_, tr.os, tr.tape, tr.output, tr.size, fun g hg => tr.fr g hg fun i k hi hk => ?_⟩
  · cases hv; rfl
  · rw [ho i k hi] at hk; cases hk

end Go.AM

namespace Go.AM
open Go.ChangeShapes

section
variable {P : Program} {E : Env} {ι : Nat → Emb} {h : H} {w : World}

/-- A row to be read alone. -/
theorem Rel.addRO (r : Rel P E ι h w) (hro : ∀ b k, h.blk b = some k → k.own = false) {cs : List Value} {e : TypeId} {m : Emb} (hg : m.g < w.heap.size) (hs : size? P e = some m.sz)
    (hc : ∀ (i : Nat) (v : Value), cs[i]? = some v → ∃ v', w.cell? ⟨m.g, m.base + i, none⟩ = some v' ∧ VR ι h.nx v v') :
    Rel P E (Emb.new ι h.nx m) (h.new (.row cs e false)) w ∧ (∀ b k, (h.new (.row cs e false)).blk b = some k → k.own = false) := by
  have hlt : ∀ {b}, b < h.nx → Emb.new ι h.nx m b = ι b := fun hb => Emb.new_lt ι _ m hb
  have hro' : ∀ b k, (h.new (.row cs e false)).blk b = some k → k.own = false := by
    intro b k hb
    simp only [H.new] at hb
    split at hb
    · cases hb; rfl
    · exact hro b k hb
  refine ⟨⟨?_, ?_, ?_, ?_, ?_, ?_, ?_⟩, hro'⟩
  · intro b k hb
    simp only [H.new] at hb ⊢
    split at hb
    · omega
    · have := r.dom b k hb; omega
  · intro b k hb
    simp only [H.new] at hb ⊢
    split at hb
    · rename_i e1
      cases hb
      subst e1
      refine ⟨by rw [Emb.new_at]; exact hg, by rw [Emb.new_at]; exact hs, fun i v hv => ?_⟩
      obtain ⟨v', h1, h2⟩ := hc i v hv
      rw [Emb.new_at]
      exact ⟨v', h1, h2.mono (Nat.le_succ _) (fun b hb => hlt hb)⟩
    · have hbl := r.dom b k hb
      exact (r.blk b k hb).mono (Nat.le_succ _) (fun b hb => hlt hb) (hlt hbl)
  · intro b b' k k' hb hb' _ ho
    rw [hro' b k hb] at ho
    cases ho
  · simp only [H.new]; exact Nat.le_succ_of_le r.ng
  · intro g hg'
    rw [hlt (Nat.lt_of_lt_of_le hg' r.ng)]
    exact r.glob g hg'
  · intro g hg'
    simp only [H.new]
    rw [if_neg (by have := r.ng; omega)]
    exact r.globB g hg'
  · intro g k' hg' hk'
    obtain ⟨h1, h2⟩ := r.globO g k' hg' hk'
    have hgl := Nat.lt_of_lt_of_le hg' r.ng
    exact ⟨h1, h2.mono (Nat.le_refl _) (fun b hb => hlt (Nat.lt_of_lt_of_le hb r.ng)) (hlt hgl)⟩

theorem cell_lt {a : Addr} {v : Value} (h : w.cell? a = some v) : a.block < w.heap.size ∧ a.spot = none := by
  unfold World.cell? at h
  split at h
  · rename_i c _ _ hb
    refine ⟨?_, ?_⟩
    · rcases Nat.lt_or_ge a.block w.heap.size with h1 | h1
      · exact h1
      · rw [Array.getElem?_eq_none h1] at hb; cases hb
    · split at h
      · cases h
      · rename_i hs
        simpa using hs
  · cases h

theorem add_add {a : Addr} (ha : a.spot = none) (i j : Nat) : (a.add i).add j = ⟨a.block, a.off + (i + j), none⟩ := by
  obtain ⟨b, o, s⟩ := a
  simp only at ha
  subst ha
  unfold Addr.add
  by_cases h1 : i = 0 <;> by_cases h2 : j = 0 <;> simp [h1, h2, Nat.add_assoc]

/-- What a whole number stands for is itself. -/
theorem VR.ints {n : Nat} {v : Value} (h : ∃ k x, v = .int k x) : VR ι n v v := by
  obtain ⟨k, x, rfl⟩ := h
  exact .int k x

variable {HH : Type} {enc : TypeId × Value → HH} {base : Nat} {held : Bool}

/-- A slice whose elements are of whole numbers alone. -/
theorem open_flat (r : Rel P E ι h w) (hro : ∀ b k, h.blk b = some k → k.own = false) {t e : TypeId} {s : Nat} (ht : P.underlying t = some (.slice e)) (hs : size? P e = some s) (hce : P.cellsOf e = s) (h0 : 0 < s)
    {Q : List Value → Prop} (hflat : ∀ n cs x, DataW.trod enc P w base (fun _ => true) held n e cs = some x → Q cs) (hQ : ∀ cs, Q cs → cs.length = s ∧ ∀ v ∈ cs, ∃ k x, v = .int k x)
    {a : Option Addr} {len cap : Nat} {d : DataW HH} {ps : List MemPlace} (hby : 0 < P.bytesOf e) (hwt : ∀ x ∈ d.weights P t, x ≤ reachBytes) (hhas : ∀ a', a = some a' → a'.spot = none ∧ a'.block < w.heap.size) (hd : DataW.Trod enc P w base (fun _ => true) held t (.slice a len cap) d ps) :
    ∃ (ι' : Nat → Emb) (h' : H) (v0 : Value) (l : List (List Value)), Rel P E ι' h' w ∧ (∀ b k, h'.blk b = some k → k.own = false) ∧ Ext h h' ∧ (∀ b, b < h.nx → ι' b = ι b) ∧ VR ι' h'.nx v0 (.slice a len cap) ∧
      SlR h' e s v0 l ∧ ∀ x ∈ l, Q x := by
  obtain ⟨fuel, hf⟩ := hd
  rcases DataW.trod_slice ht hf with ⟨hcs, _⟩ | ⟨a', len', cap', elems, rest, n, _, hcs, hx, hb, hlc, hcm, hel, he, _, _⟩
  · simp [Value.cells] at hcs
    obtain ⟨rfl, rfl, rfl⟩ := hcs
    exact ⟨ι, h, .slice none 0 0, [], r, hro, .refl _, fun _ _ => rfl, .slNil, .nil, fun x hx => by cases hx⟩
  · simp [Value.cells] at hcs
    obtain ⟨rfl, rfl, rfl⟩ := hcs
    rw [hce] at he
    have hlen : len < U := by
      have hd : d = .slice (elems.map (·.1)) (rest.map (·.1)) := congrArg Prod.fst hx
      have := hwt ((elems.length + rest.length) * P.bytesOf e) (by rw [hd]; simp [DataW.weights, ht])
      have h1 : (elems.length + rest.length) * 1 ≤ (elems.length + rest.length) * P.bytesOf e := Nat.mul_le_mul_left _ hby
      have h2 : reachBytes < U := by decide
      omega
    have hex : ∀ i, i < len → ∃ cs, w.cells? base (a'.add (i * s)) s = some cs ∧ Q cs := by
      intro i hi
      have h1 := he i hi
      have h2 : elems[i]? = some elems[i] := List.getElem?_eq_getElem (by omega)
      rw [h2] at h1
      obtain ⟨cs, g1, g2⟩ := Option.bind_eq_some_iff.1 h1
      exact ⟨cs, g1, hflat _ _ _ g2⟩
    obtain ⟨hsp, hgl⟩ := hhas a' rfl
    let f : Nat → List Value := fun i => ((w.cells? base (a'.add (i * s)) s).getD [])
    have hf' : ∀ i, i < len → w.cells? base (a'.add (i * s)) s = some (f i) ∧ Q (f i) := by
      intro i hi
      obtain ⟨cs, g1, g2⟩ := hex i hi
      have : f i = cs := by simp [f, g1]
      rw [this]; exact ⟨g1, g2⟩
    have hfl : ∀ x ∈ (List.range len).map f, x.length = s := by
      intro x hx
      obtain ⟨i, hi, rfl⟩ := List.mem_map.1 hx
      exact (hQ _ (hf' i (List.mem_range.1 hi)).2).1
    have hget : ∀ i, i < len → ((List.range len).map f)[i]? = some (f i) := by
      intro i hi
      rw [List.getElem?_map, List.getElem?_range hi]; rfl
    have hcells : ∀ i j, i < len → j < s → w.cell? ⟨a'.block, a'.off + (i * s + j), none⟩ = (f i)[j]? := by
      intro i j hi hj
      obtain ⟨_, _, g3⟩ := World.cells?_some (hf' i hi).1
      rw [← g3 j hj, add_add hsp]
    have hnew := r.addRO hro (cs := ((List.range len).map f).flatten) (e := e) (m := ⟨a'.block, a'.off, a'.off + cap * s, s⟩) hgl hs (by
      intro i v hv
      have hi : i < len * s := by
        have := (List.getElem?_eq_some_iff.1 hv).1
        rw [flatten_len hfl] at this
        simpa using this
      have hq : i / s < len := by rw [Nat.div_lt_iff_lt_mul h0]; exact hi
      have hm : i % s < s := Nat.mod_lt _ h0
      have e1 : i = i / s * s + i % s := by
        have := Nat.div_add_mod i s
        rw [Nat.mul_comm] at this
        exact this.symm
      have h2 := flatten_get hfl (i / s) (f (i / s)) (hget _ hq) (i % s) hm
      rw [← e1, hv] at h2
      refine ⟨v, ?_, ?_⟩
      · have := hcells (i / s) (i % s) hq hm
        rw [← e1] at this
        rw [h2]; exact this
      · exact VR.ints ((hQ _ (hf' _ hq).2).2 v (List.mem_of_getElem? h2.symm)))
    refine ⟨_, _, .slice (some ⟨h.nx, 0, none⟩) len (U + len), (List.range len).map f, hnew.1, hnew.2, .new _ _, fun b hb => Emb.new_lt ι _ _ hb, ?_, ?_, ?_⟩
    · have := VR.sl (ι := Emb.new ι h.nx ⟨a'.block, a'.off, a'.off + cap * s, s⟩) (n := h.nx + 1) (b := h.nx) (o := 0) (l := len) (c := U + len) (c' := cap) (Nat.lt_succ_self _) (.inr ⟨Nat.le_add_right _ _, by omega⟩)
        (by rw [capK_U]; exact Nat.le_refl _) (by rw [Emb.new_at]; simp only [Nat.zero_add]; omega)
      rw [Emb.new_at] at this
      obtain ⟨ab, ao, asp⟩ := a'
      simp only at hsp
      subst hsp
      exact this
    · have := SlR.at_ (h := h.new (.row ((List.range len).map f).flatten e false)) (e := e) (s := s) (b := h.nx) (o := 0) (c := U + len) (l := (List.range len).map f) (Nat.lt_succ_self _) (blk_new_self _ _)
        (by rw [capK_U]; simp) (by rw [capK_U]; exact hlen) (by rw [flatten_len hfl]; omega) (fun i x hi => ⟨hfl x (List.mem_of_getElem? hi), fun j hj => by
          rw [Nat.zero_add]; exact flatten_get hfl i x hi j hj⟩)
      simpa using this
    · intro x hx
      obtain ⟨i, hi, rfl⟩ := List.mem_map.1 hx
      exact (hf' i (List.mem_range.1 hi)).2

/-- Where a slice lies, by the form's own condition on arguments. -/
theorem okWide_has {t e : TypeId} {rr : Reach} {b0 : Nat} {a : Option Addr} {len cap : Nat} (ht : P.underlying t = some (.slice e)) (hv : Cell.okWide P w rr b0 t (.slice a len cap)) :
    ∀ a', a = some a' → a'.spot = none ∧ a'.block < w.heap.size := by
  intro a' ha
  subst ha
  simp only [Cell.okWide, ht, Cell.ok] at hv
  obtain ⟨_, _, _, hs, row, cells, hsh, _⟩ := hv
  refine ⟨hs, ?_⟩
  unfold World.shape? at hsh
  split at hsh
  · rename_i hb
    rcases Nat.lt_or_ge a'.block w.heap.size with h1 | h1
    · exact h1
    · rw [Array.getElem?_eq_none h1] at hb; cases hb
  · cases hsh

/-- A struct of a whole number and a slice. -/
theorem open_numslice {t ti ts e : TypeId} {fs : Array Field} {f0 f1 : Field} {rr : Reach} {b0 : Nat} {v : Value} {d : DataW HH} {ps : List MemPlace} (hu : P.underlying t = some (.struct fs)) (hfs : fs = #[f0, f1])
    (h0 : f0.type = ti ∧ f0.offset = 0) (h1 : f1.type = ts ∧ f1.offset = 1) (hti : P.underlying ti = some (.int .i64)) (hts : P.underlying ts = some (.slice e)) (hc : P.cellsOf t = 2) (hci : P.cellsOf ti = 1) (hcs : P.cellsOf ts = 1)
    (hct : P.cellTypes P.depth t = some [ti, ts]) (hv : Value.okWide P w rr b0 t v) (hwt : ∀ x ∈ d.weights P t, x ≤ reachBytes) (hd : DataW.Trod enc P w base (fun _ => true) held t v d ps) :
    ∃ (n : Int) (a : Option Addr) (len cap : Nat) (d1 : DataW HH) (p1 : List MemPlace), v = .agg #[.int .i64 n, .slice a len cap] ∧ (Lit.int .i64 n).wf = true ∧ (∀ x ∈ d1.weights P ts, x ≤ reachBytes) ∧
      (∀ a', a = some a' → a'.spot = none ∧ a'.block < w.heap.size) ∧ DataW.Trod enc P w base (fun _ => true) held ts (.slice a len cap) d1 p1 := by
  simp only [Value.okWide, hu] at hv
  obtain ⟨cs, rfl, hsz, tys, htys, _, hrow⟩ := hv
  rw [hct] at htys
  cases htys
  rw [hc] at hsz
  have hxy : ∃ x y, cs = #[x, y] := by
    obtain ⟨l⟩ := cs
    match l, hsz with
    | [x, y], _ => exact ⟨x, y, rfl⟩
  obtain ⟨x, y, rfl⟩ := hxy
  obtain ⟨u0, e0, c0⟩ := hrow 0 x rfl
  obtain ⟨u1, e1, c1⟩ := hrow 1 y rfl
  simp at e0 e1
  subst e0; subst e1
  have hx : ∃ n, x = .int .i64 n := by
    simp only [Cell.okWide, hti] at c0
    cases x <;> simp_all [Cell.ok]
  have hy : ∃ a len cap, y = .slice a len cap := by
    simp only [Cell.okWide, hts] at c1
    cases y <;> simp_all [Cell.ok]
  obtain ⟨n, rfl⟩ := hx
  obtain ⟨a, len, cap, rfl⟩ := hy
  obtain ⟨fuel, hf⟩ := hd
  obtain ⟨xs, m, rfl, hx, _, hxl, each⟩ := DataW.trod_struct hu hf
  have a0 := each 0 f0 (by rw [hfs]; rfl)
  have a1 := each 1 f1 (by rw [hfs]; rfl)
  rw [h0.1, h0.2, hci] at a0
  rw [h1.1, h1.2, hcs] at a1
  have hl2 : xs.length = 2 := by rw [hxl, hfs]; rfl
  rw [List.getElem?_eq_getElem (show 0 < xs.length by omega)] at a0
  rw [List.getElem?_eq_getElem (show 1 < xs.length by omega)] at a1
  have hdd : d = .agg (xs.map (·.1)) := congrArg Prod.fst hx
  refine ⟨n, a, len, cap, xs[1].1, xs[1].2, rfl, ?_, fun z hz => hwt z ?_, okWide_has hts c1, m, a1⟩
  · obtain ⟨n', hh, _, hw⟩ := DataW.trod_int hti a0
    simp [Value.cells] at hh
    subst hh
    exact hw
  · rw [hdd]
    simp only [DataW.weights, hu]
    refine DataW.weights_mem_each (j := 1) (t := ts) (d := xs[1].1) (by rw [hfs]; simp [h1.1]) ?_ z hz
    rw [List.getElem?_map, List.getElem?_eq_getElem (show 1 < xs.length by omega)]
    rfl

/-- The cells of a struct of three whole numbers. -/
theorem trod_three {e ti : TypeId} {fs : Array Field} (hu : P.underlying e = some (.struct fs)) (ht : fs.toList.map (fun f => (f.type, f.offset)) = [(ti, 0), (ti, 1), (ti, 2)]) (hti : P.underlying ti = some (.int .i64))
    (hci : P.cellsOf ti = 1) (hce : P.cellsOf e = 3) {n : Nat} {cs : List Value} {x : DataW HH × List MemPlace} (h : DataW.trod enc P w base (fun _ => true) held n e cs = some x) : ∃ a b c : Int, cs = [iv a, iv b, iv c] := by
  obtain ⟨xs, m, rfl, _, hl, hxs, each⟩ := DataW.trod_struct hu h
  rw [hce] at hl
  have hsz : fs.size = 3 := by
    have := congrArg List.length ht
    simpa using this
  have key : ∀ i, i < 3 → ∃ z : Int, (cs.drop i).take 1 = [iv z] := by
    intro i hi
    have hf : fs[i]? = some fs[i] := Array.getElem?_eq_getElem (by omega)
    have h1 := each i _ hf
    have h2 : (fs.toList.map (fun f => (f.type, f.offset)))[i]? = some (fs[i].type, fs[i].offset) := by
      rw [List.getElem?_map, Array.getElem?_toList, hf]; rfl
    rw [ht] at h2
    have h3 : fs[i].type = ti ∧ fs[i].offset = i := by
      rcases (by omega : i = 0 ∨ i = 1 ∨ i = 2) with rfl | rfl | rfl <;> (simp at h2; exact ⟨h2.1.symm, h2.2.symm⟩)
    rw [h3.1, h3.2, hci, List.getElem?_eq_getElem (show i < xs.length by omega)] at h1
    obtain ⟨z, hz, _⟩ := DataW.trod_int hti h1
    exact ⟨z, hz⟩
  obtain ⟨a, ha⟩ := key 0 (by omega)
  obtain ⟨b, hb⟩ := key 1 (by omega)
  obtain ⟨t, ht'⟩ := key 2 (by omega)
  match cs, hl with
  | [x, y, z], _ =>
    simp at ha hb ht'
    exact ⟨a, b, t, by simp [ha, hb, ht']⟩

end
end Go.AM
