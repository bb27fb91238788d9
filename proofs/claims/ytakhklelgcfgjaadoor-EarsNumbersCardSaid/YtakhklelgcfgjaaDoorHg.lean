/- The search for a numbering. -/
import Derived.Test.YtakhklelgcfgjaaDoorHf
import Derived.Test.YtakhklelgcfgjaaDoorF8
import Derived.Test.YtakhklelgcfgjaaDoorAmMap
namespace Go.AM
open Go.Proofs

variable {R : Type}

attribute [local simp] nx_eq nx_new nx_set blk_new blk_set asI_int asK_int asB_bool asP_ptr al_eq bx_eq len_slice onE_exit onE_ret onR_ret Value.cells cell_new cell_set rd_new rd_set off eq lt le ifB gv out ext20 ext21

/-- A copy that may be appended to. -/
theorem s83A {v : Value} {l : List Nat} {h : H} (hs : SlR h 3 1 v (cellsN l)) (h0 : l ≠ []) (hm : l.length < 1000) : ∃ v' h', rn 83 #[v] h = some (v', h') ∧ Exw h h' ∧ AqR h.nx h' 3 1 v' (cellsN l) := by
  have hs0 := hs
  have hne : cellsN l ≠ [] := by simpa using h0
  have x1 := Ext.new h (.row [] 3 true)
  have hlit : AqR h.nx (h.new (.row [] 3 true)) 3 1 (.slice (some ⟨h.nx, 0, none⟩) 0 0) [] := AqR.lit (l := []) (Nat.le_refl _) rfl (by simp) (by simp)
  obtain ⟨v', h', e, a, n, k, _⟩ := hlit.app app22 app22 (hs.ext x1) (cellsN_scal l) (by simp; omega) (by rw [nx_new]; omega)
  rw [List.nil_append] at a
  have x2 : Ext h h' := ⟨by rw [nx_new] at n; omega, fun q hq => by
    rw [k q (by rw [nx_new]; omega) (fun e => by cases e; omega)]
    exact x1.blk q hq⟩
  obtain ⟨h2, e2, m2, w2⟩ := x83 (k := 0) (v0 := v) (h := h) (h1 := h') (v := v') (by
    unfold f83 eqv
    generalize cellsN l = L at hs hne
    cases hs with
    | nil => exact absurd rfl hne
    | @at_ b o c cs own l hb hr hk hc hl hx =>
      rw [some22]
      simp only [ifB_false]
      rw [bls_some (bls22e h)]
      exact e _) a.slR.notR
  exact ⟨v', h2, e2, w2 x2, a.ext m2.ext⟩

theorem under3n : Tryd.prog.underlying 3 = some (.int .i64) := by kernel_rfl
theorem under97 : Tryd.prog.underlying 97 = some (.map 3 4) := by kernel_rfl
theorem zero4 : zero? Tryd.prog 4 = some (.bool false) := by kernel_rfl

/-! ### The first numbering, plain -/

noncomputable def nextV (g : List Nat) (t B : Nat) : Option Nat := (List.range g.length).find? fun v => cq g t B v && goodQ g t (B ||| 2 ^ v)

inductive Gr (g : List Nat) (t : Nat) : Nat → List Nat → Prop
  | fin {B : Nat} : lf g B = 2 ^ t → Gr g t B [t]
  | step {B v : Nat} {r : List Nat} : lf g B ≠ 2 ^ t → nextV g t B = some v → Gr g t (B ||| 2 ^ v) r → Gr g t B (v :: r)

theorem Gr.det {g : List Nat} {t B : Nat} {r r' : List Nat} (h : Gr g t B r) (h' : Gr g t B r') : r = r' := by
  induction h generalizing r' with
  | fin h1 =>
    cases h' with
    | fin => rfl
    | step h2 => exact absurd h1 h2
  | step h1 h2 _ ih =>
    cases h' with
    | fin h3 => exact absurd h3 h1
    | step _ h4 h5 =>
      rw [h2] at h4
      cases h4
      rw [ih h5]

theorem Gr.len {g : List Nat} {t B : Nat} {r : List Nat} (h : Gr g t B r) : 1 ≤ r.length := by cases h <;> simp

theorem find_congr {α : Type} {p q : α → Bool} : ∀ (l : List α), (∀ x ∈ l, p x = q x) → l.find? p = l.find? q := by
  intro l
  induction l with
  | nil => intro _; rfl
  | cons x l ih =>
    intro h
    rw [List.find?_cons, List.find?_cons, h x (List.mem_cons_self ..), ih fun y hy => h y (List.mem_cons_of_mem _ hy)]

/-- The nodes that are left, but t. -/
theorem elts_left {g : List Nat} (hg : GrN g) {t B : Nat} : (elts (without (lf g B) (2 ^ t))).find? (fun v => cq g t B v && goodQ g t (B ||| 2 ^ v)) = nextV g t B := by
  have hlt : without (lf g B) (2 ^ t) < 2 ^ g.length := without_le _ _ (without_le _ _ (allN_lt g))
  rw [elts_n hg.len hlt, List.find?_filter]
  unfold nextV
  refine find_congr _ fun v hv => ?_
  rw [List.mem_range] at hv
  cases h1 : (without (lf g B) (2 ^ t)).testBit v with
  | true => simp
  | false =>
    cases h2 : cq g t B v with
    | false => simp
    | true =>
      exfalso
      rw [without_bit, lf_bit, Nat.testBit_two_pow] at h1
      unfold cq at h2
      simp only [Bool.and_eq_true, Bool.not_eq_true', decide_eq_true_eq] at h2
      obtain ⟨⟨⟨h4, h5⟩, _⟩, _⟩ := h2
      rw [h4, decide_eq_true hv, decide_eq_false (fun e => h5 e.symm)] at h1
      cases h1

theorem find_at {α : Type} {p : α → Bool} {l : List α} {i : Nat} {x : α} (hx : l[i]? = some x) (hp : p x = true) (hb : ∀ y ∈ l.take i, p y = false) : l.find? p = some x := by
  have hi := (List.getElem?_eq_some_iff.1 hx).1
  have hxe : l[i] = x := (List.getElem?_eq_some_iff.1 hx).2
  have : l = l.take i ++ x :: l.drop (i + 1) := by
    rw [← hxe, ← List.drop_eq_getElem_cons hi, List.take_append_drop]
  rw [this, List.find?_append, List.find?_eq_none.2 (fun y hy => by rw [hb y hy]; simp), Option.none_or, List.find?_cons, hp]

/-! ### The state on the heap -/

structure HN (g : List Nat) (t : Nat) (kv : List (Int × Value)) (bx md : Nat) (tv : Value) (h : H) : Prop where
  x : h.blk bx = some (.row [tv, iv t, .map (some md)] 99 true)
  s : SlR h 3 1 tv (cellsN g)
  m : ∃ es c, h.blk md = some (.mp es c) ∧ KvI kv es
  bad : ∀ p ∈ kv, p.2 = .bool true ∧ ∃ K : Nat, p.1 = (K : Int) ∧ goodQ g t K = false
  lx : bx < h.nx
  lm : md < h.nx

structure Fd (md : Nat) (o : Option Nat) (h h' : H) : Prop where
  nx : h.nx ≤ h'.nx
  blk : ∀ b, b < h.nx → b ≠ md → o ≠ some b → h'.blk b = h.blk b

theorem Fd.ext {md : Nat} {o : Option Nat} {h h' : H} (x : Ext h h') : Fd md o h h' := ⟨x.nx, fun b hb _ _ => x.blk b hb⟩
theorem Fd.sm {md : Nat} {o : Option Nat} {h h1 h2 : H} (f : Fd md o h h1) (s : Sm h1 h2) : Fd md o h h2 := ⟨by rw [s.nx]; exact f.nx, fun b hb h1 h2 => by rw [s.blk]; exact f.blk b hb h1 h2⟩
theorem Fd.trans {md : Nat} {o : Option Nat} {a b c : H} (f : Fd md o a b) (k : Fd md o b c) : Fd md o a c := ⟨Nat.le_trans f.nx k.nx, fun q h1 h2 h3 => (k.blk q (Nat.lt_of_lt_of_le h1 f.nx) h2 h3).trans (f.blk q h1 h2 h3)⟩
/-- What was changed but was not there does not count. -/
theorem Fd.drop {md q : Nat} {h h' : H} (f : Fd md (some q) h h') (hq : h.nx ≤ q) : Fd md none h h' := ⟨f.nx, fun b hb h1 _ => f.blk b hb h1 (fun e => by cases e; omega)⟩
theorem Fd.weak {md : Nat} {o : Option Nat} {h h' : H} (f : Fd md none h h') : Fd md o h h' := ⟨f.nx, fun b hb h1 _ => f.blk b hb h1 (by simp)⟩

section
variable {g : List Nat} {t : Nat} {kv : List (Int × Value)} {bx md : Nat} {tv : Value} {h h' : H}

theorem HN.ext (a : HN g t kv bx md tv h) (x : Ext h h') : HN g t kv bx md tv h' := by
  obtain ⟨es, c, h1, h2⟩ := a.m
  exact ⟨(x.blk _ a.lx).trans a.x, a.s.ext x, ⟨es, c, (x.blk _ a.lm).trans h1, h2⟩, a.bad, Nat.lt_of_lt_of_le a.lx x.nx, Nat.lt_of_lt_of_le a.lm x.nx⟩

theorem HN.rowNe (a : HN g t kv bx md tv h) {b : Nat} {cs : List Value} {e : TypeId} {o : Bool} (hb : h.blk b = some (.row cs e o)) : b ≠ md := by
  rintro rfl
  obtain ⟨es, c, h1, _⟩ := a.m
  rw [h1] at hb; cases hb

theorem HN.sl (a : HN g t kv bx md tv h) (f : Fd md none h h') {e : TypeId} {s : Nat} {v : Value} {l : List (List Value)} (hs : SlR h e s v l) : SlR h' e s v l :=
  hs.keepB f.nx fun b hb => by
    obtain ⟨h1, cs, own, h2⟩ := hs.blkR hb
    exact f.blk b h1 (a.rowNe h2) (by simp)

theorem HN.aq (a : HN g t kv bx md tv h) (f : Fd md none h h') {lo : Nat} {e : TypeId} {s : Nat} {v : Value} {l : List (List Value)} (hs : AqR lo h e s v l) : AqR lo h' e s v l :=
  hs.keep f.nx fun b hb => by
    obtain ⟨_, h1, h2⟩ := hs.blkOf hb
    exact f.blk b h1 (a.rowNe h2) (by simp)

/-- A set more that is dead. -/
theorem HN.add (a : HN g t kv bx md tv h) {B : Nat} (hk : look kv (B : Int) 0 = none) (hb : goodQ g t B = false) : ∃ h4, (∀ (K : H → Option R), mup Tryd.prog h 97 (.map (some md)) (.int .i64 (B : Int)) (.bool true) K = K h4) ∧ HN g t (kv ++ [((B : Int), .bool true)]) bx md tv h4 ∧ Fd md none h h4 := by
  obtain ⟨es, c, h1, h2⟩ := a.m
  have f : Fd md none h (h.set md (.mp (es ++ [{ key := .int .i64 (B : Int), val := .bool true, born := c }]) (c + 1))) := ⟨Nat.le_refl _, fun b _ q1 _ => blk_set_ne _ _ _ q1⟩
  refine ⟨_, fun K => mup_new under97 under3n h1 h2 hk, ⟨?_, a.sl f a.s, ⟨_, _, blk_set_self _ _ _, h2.snoc _ _⟩, fun p hp => ?_, a.lx, a.lm⟩, f⟩
  · rw [blk_set_ne _ _ _ (a.rowNe a.x)]; exact a.x
  · rw [List.mem_append, List.mem_singleton] at hp
    rcases hp with hp | rfl
    · exact a.bad p hp
    · exact ⟨rfl, B, rfl, hb⟩

end

end Go.AM
