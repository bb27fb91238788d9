/- Parts of the proof, put together: what the functions of the program answer, and plain laws. -/
import Derived.Test.YtakhklelgcfgjaaDoorAmMap
import Derived.Test.YtakhklelgcfgjaaDoorDbl2

section

/- The search for a numbering. -/
namespace Go.AM
open Go.Proofs
variable {R : Type}
attribute [local simp] nx_eq nx_new nx_set blk_new blk_set asI_int asK_int asB_bool asP_ptr al_eq bx_eq len_slice onE_exit onE_ret onR_ret Value.cells cell_new cell_set rd_new rd_set off eq lt le ifB gv out ext20 ext21
/-- A copy that may be appended to. -/
theorem s83A {v : Value} {l : List Nat} {h : H} (hs : SlR h 3 1 v (cellsN l)) (h0 : l ≠ []) (hm : l.length < 1000) : ∃ v' h', rn 83 #[v] h = some (v', h') ∧ Exw h h' ∧ AqR h.nx h' 3 1 v' (cellsN l) := by
  have hs0 := hs
  have hne : cellsN l ≠ [] := by simpa using h0
  have x1 := Ext.new h (.row [] 3 true)
  have hlit : AqR h.nx (h.new (.row [] 3 true)) 3 1 (.slice (some ⟨h.nx, 0, none⟩) 0 0) [] := AqR.lit (l := []) (Nat.le_refl _) rfl (by simp) (by simp)
  obtain ⟨v', h', e, a, n, k, _⟩ := hlit.app app22 app22 (hs.ext x1) (cellsN_scal l) (by simp; omega) (by rw [nx_new]; omega)
  rw [List.nil_append] at a
  have x2 : Ext h h' := ⟨by rw [nx_new] at n; omega, fun q hq => by
    rw [k q (by rw [nx_new]; omega) (fun e => by cases e; omega)]
    exact x1.blk q hq⟩
  obtain ⟨h2, e2, m2, w2⟩ := x83 (k := 0) (v0 := v) (h := h) (h1 := h') (v := v') (by
    unfold f83 eqv
    generalize cellsN l = L at hs hne
    cases hs with
    | nil => exact absurd rfl hne
    | @at_ b o c cs own l hb hr hk hc hl hx =>
      rw [some22]
      simp only [ifB_false]
      rw [bls_some (bls22e h)]
      exact e _) a.slR.notR
  exact ⟨v', h2, e2, w2 x2, a.ext m2.ext⟩

theorem under3n : Tryd.prog.underlying 3 = some (.int .i64) := by kernel_rfl

theorem under97 : Tryd.prog.underlying 97 = some (.map 3 4) := by kernel_rfl

theorem zero4 : zero? Tryd.prog 4 = some (.bool false) := by kernel_rfl

/-! ### The first numbering, plain -/
noncomputable def nextV (g : List Nat) (t B : Nat) : Option Nat := (List.range g.length).find? fun v => cq g t B v && goodQ g t (B ||| 2 ^ v)

inductive Gr (g : List Nat) (t : Nat) : Nat → List Nat → Prop
  | fin {B : Nat} : lf g B = 2 ^ t → Gr g t B [t]
  | step {B v : Nat} {r : List Nat} : lf g B ≠ 2 ^ t → nextV g t B = some v → Gr g t (B ||| 2 ^ v) r → Gr g t B (v :: r)

theorem Gr.len {g : List Nat} {t B : Nat} {r : List Nat} (h : Gr g t B r) : 1 ≤ r.length := by cases h <;> simp

theorem find_congr {α : Type} {p q : α → Bool} : ∀ (l : List α), (∀ x ∈ l, p x = q x) → l.find? p = l.find? q := by
  intro l
  induction l with
  | nil => intro _; rfl
  | cons x l ih =>
    intro h
    rw [List.find?_cons, List.find?_cons, h x (List.mem_cons_self ..), ih fun y hy => h y (List.mem_cons_of_mem _ hy)]

/-- The nodes that are left, but t. -/
theorem elts_left {g : List Nat} (hg : GrN g) {t B : Nat} : (elts (without (lf g B) (2 ^ t))).find? (fun v => cq g t B v && goodQ g t (B ||| 2 ^ v)) = nextV g t B := by
  have hlt : without (lf g B) (2 ^ t) < 2 ^ g.length := without_le _ _ (without_le _ _ (allN_lt g))
  rw [elts_n hg.len hlt, List.find?_filter]
  unfold nextV
  refine find_congr _ fun v hv => ?_
  rw [List.mem_range] at hv
  cases h1 : (without (lf g B) (2 ^ t)).testBit v with
  | true => simp
  | false =>
    cases h2 : cq g t B v with
    | false => simp
    | true =>
      exfalso
      rw [without_bit, lf_bit, Nat.testBit_two_pow] at h1
      unfold cq at h2
      simp only [Bool.and_eq_true, Bool.not_eq_true', decide_eq_true_eq] at h2
      obtain ⟨⟨⟨h4, h5⟩, _⟩, _⟩ := h2
      rw [h4, decide_eq_true hv, decide_eq_false (fun e => h5 e.symm)] at h1
      cases h1

theorem find_at {α : Type} {p : α → Bool} {l : List α} {i : Nat} {x : α} (hx : l[i]? = some x) (hp : p x = true) (hb : ∀ y ∈ l.take i, p y = false) : l.find? p = some x := by
  have hi := (List.getElem?_eq_some_iff.1 hx).1
  have hxe : l[i] = x := (List.getElem?_eq_some_iff.1 hx).2
  have : l = l.take i ++ x :: l.drop (i + 1) := by
    rw [← hxe, ← List.drop_eq_getElem_cons hi, List.take_append_drop]
  rw [this, List.find?_append, List.find?_eq_none.2 (fun y hy => by rw [hb y hy]; simp), Option.none_or, List.find?_cons, hp]

/-! ### The state on the heap -/
structure HN (g : List Nat) (t : Nat) (kv : List (Int × Value)) (bx md : Nat) (tv : Value) (h : H) : Prop where
  x : h.blk bx = some (.row [tv, iv t, .map (some md)] 99 true)
  s : SlR h 3 1 tv (cellsN g)
  m : ∃ es c, h.blk md = some (.mp es c) ∧ KvI kv es
  bad : ∀ p ∈ kv, p.2 = .bool true ∧ ∃ K : Nat, p.1 = (K : Int) ∧ goodQ g t K = false
  lx : bx < h.nx
  lm : md < h.nx

structure Fd (md : Nat) (o : Option Nat) (h h' : H) : Prop where
  nx : h.nx ≤ h'.nx
  blk : ∀ b, b < h.nx → b ≠ md → o ≠ some b → h'.blk b = h.blk b

theorem Fd.ext {md : Nat} {o : Option Nat} {h h' : H} (x : Ext h h') : Fd md o h h' := ⟨x.nx, fun b hb _ _ => x.blk b hb⟩

theorem Fd.sm {md : Nat} {o : Option Nat} {h h1 h2 : H} (f : Fd md o h h1) (s : Sm h1 h2) : Fd md o h h2 := ⟨by rw [s.nx]; exact f.nx, fun b hb h1 h2 => by rw [s.blk]; exact f.blk b hb h1 h2⟩

theorem Fd.trans {md : Nat} {o : Option Nat} {a b c : H} (f : Fd md o a b) (k : Fd md o b c) : Fd md o a c := ⟨Nat.le_trans f.nx k.nx, fun q h1 h2 h3 => (k.blk q (Nat.lt_of_lt_of_le h1 f.nx) h2 h3).trans (f.blk q h1 h2 h3)⟩

/-- What was changed but was not there does not count. -/
theorem Fd.drop {md q : Nat} {h h' : H} (f : Fd md (some q) h h') (hq : h.nx ≤ q) : Fd md none h h' := ⟨f.nx, fun b hb h1 _ => f.blk b hb h1 (fun e => by cases e; omega)⟩

theorem Fd.weak {md : Nat} {o : Option Nat} {h h' : H} (f : Fd md none h h') : Fd md o h h' := ⟨f.nx, fun b hb h1 _ => f.blk b hb h1 (by simp)⟩

section
variable {g : List Nat} {t : Nat} {kv : List (Int × Value)} {bx md : Nat} {tv : Value} {h h' : H}
theorem HN.ext (a : HN g t kv bx md tv h) (x : Ext h h') : HN g t kv bx md tv h' := by
  obtain ⟨es, c, h1, h2⟩ := a.m
  exact ⟨(x.blk _ a.lx).trans a.x, a.s.ext x, ⟨es, c, (x.blk _ a.lm).trans h1, h2⟩, a.bad, Nat.lt_of_lt_of_le a.lx x.nx, Nat.lt_of_lt_of_le a.lm x.nx⟩

theorem HN.rowNe (a : HN g t kv bx md tv h) {b : Nat} {cs : List Value} {e : TypeId} {o : Bool} (hb : h.blk b = some (.row cs e o)) : b ≠ md := by
  rintro rfl
  obtain ⟨es, c, h1, _⟩ := a.m
  rw [h1] at hb; cases hb

theorem HN.sl (a : HN g t kv bx md tv h) (f : Fd md none h h') {e : TypeId} {s : Nat} {v : Value} {l : List (List Value)} (hs : SlR h e s v l) : SlR h' e s v l :=
  hs.keepB f.nx fun b hb => by
    obtain ⟨h1, cs, own, h2⟩ := hs.blkR hb
    exact f.blk b h1 (a.rowNe h2) (by simp)

theorem HN.aq (a : HN g t kv bx md tv h) (f : Fd md none h h') {lo : Nat} {e : TypeId} {s : Nat} {v : Value} {l : List (List Value)} (hs : AqR lo h e s v l) : AqR lo h' e s v l :=
  hs.keep f.nx fun b hb => by
    obtain ⟨_, h1, h2⟩ := hs.blkOf hb
    exact f.blk b h1 (a.rowNe h2) (by simp)

/-- A set more that is dead. -/
theorem HN.add (a : HN g t kv bx md tv h) {B : Nat} (hk : look kv (B : Int) 0 = none) (hb : goodQ g t B = false) : ∃ h4, (∀ (K : H → Option R), mup Tryd.prog h 97 (.map (some md)) (.int .i64 (B : Int)) (.bool true) K = K h4) ∧ HN g t (kv ++ [((B : Int), .bool true)]) bx md tv h4 ∧ Fd md none h h4 := by
  obtain ⟨es, c, h1, h2⟩ := a.m
  have f : Fd md none h (h.set md (.mp (es ++ [{ key := .int .i64 (B : Int), val := .bool true, born := c }]) (c + 1))) := ⟨Nat.le_refl _, fun b _ q1 _ => blk_set_ne _ _ _ q1⟩
  refine ⟨_, fun K => mup_new under97 under3n h1 h2 hk, ⟨?_, a.sl f a.s, ⟨_, _, blk_set_self _ _ _, h2.snoc _ _⟩, fun p hp => ?_, a.lx, a.lm⟩, f⟩
  · rw [blk_set_ne _ _ _ (a.rowNe a.x)]; exact a.x
  · rw [List.mem_append, List.mem_singleton] at hp
    rcases hp with hp | rfl
    · exact a.bad p hp
    · exact ⟨rfl, B, rfl, hb⟩

end
end Go.AM

end

section

/- The search for a numbering, walked. -/
namespace Go.AM
open Go.Proofs
variable {R : Type}
attribute [local simp] nx_eq nx_new nx_set blk_new blk_set asI_int asK_int asB_bool asP_ptr al_eq bx_eq len_slice onE_exit onE_ret onR_ret Value.cells cell_new cell_set rd_new rd_set off eq lt le ifB gv out ext20 ext21
theorem lf_calc {g : List Nat} (hg : GrN g) {B : Nat} (hB : B < 1024) : AM.andNot .i64 (allN g : Int) (B : Int) = (lf g B : Int) := by
  have := allN_lt10 hg
  exact andNot_nat (by omega) (by omega)

theorem and_calc {a b : Nat} (ha : a < 1024) (hb : b < 1024) : AM.eq (AM.and .i64 (a : Int) (b : Int)) 0 = decide (a &&& b = 0) := by
  rw [and_nat (by omega) (by omega)]
  exact eqN (b := 0)

theorem nb_lt10 {g : List Nat} (hg : GrB g) (a : Nat) : nb g a < 1024 := Nat.lt_of_lt_of_le (hg.nb_lt a) hg.pow

/-- The two tests of the program. -/
theorem cq_iff {g : List Nat} (hg : GrN g) {t B u : Nat} (hu : (without (lf g B) (2 ^ t)).testBit u = true) : cq g t B u = (decide (nb g u &&& B ≠ 0) && decide (nb g u &&& lf g B ≠ 0)) := by
  rw [without_bit, lf_bit, Nat.testBit_two_pow] at hu
  simp only [Bool.and_eq_true, decide_eq_true_eq, Bool.not_eq_true', decide_eq_false_iff_not] at hu
  obtain ⟨⟨h1, h2⟩, h3⟩ := hu
  unfold cq
  rw [h2, show decide (u ≠ t) = true from decide_eq_true (fun e => h3 e.symm), Bool.not_false, Bool.true_and, Bool.true_and]
  congr 1
  rw [decide_eq_decide, and_ne, and_ne]
  constructor
  · rintro ⟨i, h4, h5⟩
    rw [lf_bit, or_bit] at h5
    refine ⟨i, h4, ?_⟩
    rw [lf_bit]
    simp at h5 ⊢
    exact ⟨h5.1, h5.2.1⟩
  · rintro ⟨i, h4, h5⟩
    refine ⟨i, h4, ?_⟩
    rw [lf_bit] at h5
    rw [lf_bit, or_bit]
    simp at h5 ⊢
    refine ⟨h5.1, h5.2, ?_⟩
    rintro rfl
    have := hg.irr u
    unfold adj at this
    rw [this] at h4; cases h4

theorem or_lt {g : List Nat} {B u : Nat} (hB : B < 2 ^ g.length) (hu : u < g.length) : B ||| 2 ^ u < 2 ^ g.length := Nat.or_lt_two_pow hB (Nat.pow_lt_pow_right (by omega) hu)

theorem or_calc2 {n B u : Nat} (hn : n ≤ 10) (hB : B < 2 ^ n) (hu : u < n) : AM.or .i64 (B : Int) (AM.shl .i64 1 (u : Int)) = ((B ||| 2 ^ u : Nat) : Int) := by
  have h2 : 2 ^ n ≤ 1024 := Nat.pow_le_pow_right (n := 2) (by omega) hn
  have h3 : 2 ^ u < 1024 := Nat.lt_of_lt_of_le (Nat.pow_lt_pow_right (by omega) hu) h2
  rw [shl1_nat (by omega), or_nat (by omega) (by omega)]

theorem pop_or {B u : Nat} (hB : B < 1024) (hu : u < 10) (h : B.testBit u = false) : pop B < pop (B ||| 2 ^ u) := by
  refine pop_lt (i := u) (Nat.or_lt_two_pow (n := 10) hB (Nat.pow_lt_pow_right (by omega) hu)) (fun j hj => by rw [or_bit, hj]; rfl) (by rw [or_bit]; simp) h

/-- The keys that came. -/
def Nw (B : Nat) (nw : List (Int × Value)) : Prop := ∀ p ∈ nw, ∃ K : Nat, p.1 = (K : Int) ∧ pop B ≤ pop K

set_option maxHeartbeats 2000000 in
theorem s82 {g : List Nat} (hg : GrN g) (hbi : Bi g (allN g)) {t bx md : Nat} {tv : Value} (ht : t < g.length) : ∀ (d B : Nat) (v1 : Value) (l : List Nat) (kv : List (Int × Value)) (h : H) (lo : Nat),
    10 ≤ pop B + d → B < 2 ^ g.length → B.testBit t = false → (∃ s, B.testBit s = true) → l ≠ [] → l.length + 10 ≤ 100 + pop B → HN g t kv bx md tv h → bx < lo → md < lo → (∀ b, blkOf tv = some b → b < lo) → AqR lo h 3 1 v1 (cellsN l) → lo ≤ h.nx →
    ∃ v' h' nw, rn 82 #[pt bx 0, v1, iv B] h = some (v', h') ∧ HN g t (kv ++ nw) bx md tv h' ∧ Fd md (blkOf v1) h h' ∧ Nw B nw ∧
      (goodQ g t B = true ∧ (∃ r, Gr g t B r ∧ SlR h' 3 1 v' (cellsN (l ++ r))) ∨ goodQ g t B = false ∧ v' = .slice none 0 0) := by
  intro d
  induction d with
  | zero =>
    intro B v1 l kv h lo hd hB hBt
    exfalso
    have hlen := hg.len
    have h1 : B < 1024 := Nat.lt_of_lt_of_le hB hg.pow
    have h2 := pop_or (u := t) h1 (by omega) hBt
    have h3 := pop_le_n (n := 10) (Nat.le_refl _) (or_lt (g := g) hB ht |> fun h => Nat.lt_of_lt_of_le h hg.pow)
    omega
  | succ d ih =>
    intro B v1 l kv h lo hd hB hBt hs hl hlm hN hxlo hmlo htlo hap hloh
    have hlen := hg.len
    have hpos := hg.pos
    have hB10 : B < 1024 := Nat.lt_of_lt_of_le hB hg.pow
    have hpopB := pop_le_n (n := 10) (Nat.le_refl _) hB10
    have hlf := lf_lt (B := B) hg
    have h2t : 2 ^ t < 1024 := Nat.lt_of_lt_of_le (Nat.pow_lt_pow_right (by omega) ht) hg.pow
    obtain ⟨s, hsB⟩ := hs
    have hsn : s < g.length := bit_lt hB hsB
    have c65 := fun (K : Value → H → Option (Value × H)) => calls_eq (K := K) (xs := [tv]) (s65 hg.toGrB hN.s)
    have ldT : ∀ {T : Type} {h' : H} {kv' : List (Int × Value)} (_ : HN g t kv' bx md tv h') (K : Value → Option T), (ld Tryd.prog h' 78 bx 0 K) = K tv := fun a K => by rw [d78, cell_of a.x]; rfl
    have ldt : ∀ {T : Type} {h' : H} {kv' : List (Int × Value)} (_ : HN g t kv' bx md tv h') (K : Value → Option T), (ld Tryd.prog h' 3 bx (AM.off 0 1) K) = K (iv t) := fun a K => by rw [d3, cell_of a.x]; rfl
    have ldm : ∀ {T : Type} {h' : H} {kv' : List (Int × Value)} (_ : HN g t kv' bx md tv h') (K : Value → Option T), (ld Tryd.prog h' 97 bx (AM.off 0 2) K) = K (.map (some md)) := fun a K => by rw [d97, cell_of a.x]; rfl
    have nilp : ∀ {T : Type} (x : Option T), AM.nil (pt bx 0) x = x := fun x => rfl
    have hnnt : ∀ {T : Type} (x : Option T), nn (t : Int) x = x := fun x => nn_ge (show (0 : Int) ≤ (t : Int) by omega) x
    have hbv1 : ∀ b, blkOf v1 = some b → b ≠ bx ∧ b ≠ md ∧ blkOf tv ≠ some b := fun b hb => by
      have := (hap.blkOf hb).1
      exact ⟨by omega, by omega, fun e => by have := htlo b e; omega⟩
    have start : ∀ r, (ifB (decide (lf g B = 2 ^ t)) (
          bls Tryd.prog h 22 1 [(0, (.int .i64 (t : Int)))] fun v6 h2 =>
          app Tryd.prog h2 22 22 v1 v6 fun v7 h3 =>
          some (v7, h3)) (
            lok Tryd.prog h 97 (.map (some md)) (.int .i64 (B : Int)) false fun v9 =>
            asB v9 fun q0 =>
            ifB q0 (
              some ((.slice none 0 0), h)) (
                  calls rn h 76 [(.int .i64 ((without (lf g B) (2 ^ t) : Nat) : Int))] fun v11 h4 =>
                  len v11 fun n5 =>
                  lp 20 (f82_l1 rn 20 (pt bx 0) v1 B (allN g) v11 n5) [(.slice none 0 0), (.int .i64 0)] h4 fun e0 ws1 h10 =>
                  onE e0 0 (
                    AM.nil (pt bx 0) (
                      asP (pt bx 0) fun b20 b21 =>
                      ld Tryd.prog h10 97 b20 (AM.off b21 2) fun v21 =>
                      mup Tryd.prog h10 97 v21 (.int .i64 (B : Int)) (.bool true) fun h11 =>
                      some ((.slice none 0 0), h11))) (
                    onR e0 (
                      some (AM.gv ws1 0, h10)))))) = r → f82 rn 20 (pt bx 0) v1 B h = r := by
      intro r hr
      unfold f82
      rw [nilp, asP_ptr, ldT hN, c65, asI_int, nilp, asP_ptr, ldt hN, asI_int, hnnt, lf_calc hg hB10, shl1_nat (by omega), eqN, nilp, asP_ptr, ldt hN, asI_int, nilp, asP_ptr, ldm hN, nilp, asP_ptr, ldt hN, asI_int, hnnt, shl1_nat (by omega), andNot_nat (by omega) (by omega)]
      exact hr
    by_cases hfin : lf g B = 2 ^ t
    · have hgood : goodQ g t B = true := by
        rw [good_iff hg ht hBt]
        intro u hu
        rw [hfin, Nat.testBit_two_pow, decide_eq_true_iff] at hu
        rw [hu]; exact .base
      obtain ⟨v7, h3, e3, a3, n3, k3, b3, hb3, hb3'⟩ := hap.push app22 app22 (bls22 (t : Int)) rfl rfl (by rw [List.length_map]; omega) hloh
      have e4 : f82 rn 20 (pt bx 0) v1 B h = some (v7, h3) := start _ (by rw [decide_eq_true hfin, ifB_true]; exact e3 _)
      have a3' : AqR lo h3 3 1 v7 (cellsN (l ++ [t])) := by
        have : cellsN (l ++ [t]) = cellsN l ++ [[iv (t : Int)]] := by simp
        rw [this]; exact a3
      obtain ⟨h4, e5, m4, _⟩ := x82 e4 a3'.slR.notR
      have f3 : Fd md (blkOf v1) h h3 := ⟨n3, fun b hb q1 q2 => k3 b hb q2⟩
      have hN3 : HN g t kv bx md tv h3 := by
        obtain ⟨es, c, h1, h2⟩ := hN.m
        refine ⟨(f3.blk _ hN.lx (hN.rowNe hN.x) (fun e => (hbv1 _ e).1 rfl)).trans hN.x, hN.s.keepB n3 fun b hb => ?_, ⟨es, c, (k3 _ hN.lm (fun e => (hbv1 _ e).2.1 rfl)).trans h1, h2⟩, hN.bad, by have := hN.lx; omega, by have := hN.lm; omega⟩
        exact k3 b (hN.s.blkR hb).1 (fun e => (hbv1 _ e).2.2 hb)
      exact ⟨v7, h4, [], e5, by rw [List.append_nil]; exact hN3.ext m4.ext, f3.sm m4, (fun p hp => by cases hp), .inl ⟨hgood, [t], .fin hfin, a3'.slR.ext m4.ext⟩⟩
    · have htl : (lf g B).testBit t = true := by rw [lf_bit, hBt, decide_eq_true ht]; rfl
      obtain ⟨es, c, hm1, hm2⟩ := hN.m
      cases hlk : look kv (B : Int) 0 with
      | some r =>
        obtain ⟨j, _, hj⟩ := look_some _ _ _ hlk
        obtain ⟨hr, K, hK, hbad⟩ := hN.bad _ (List.mem_of_getElem? hj)
        have := Int.natCast_inj.1 hK
        subst this
        refine ⟨.slice none 0 0, h, [], y82 (k := 20) (start _ ?_), by rw [List.append_nil]; exact hN, Fd.ext (.refl _), (fun p hp => by cases hp), .inr ⟨hbad, rfl⟩⟩
        rw [decide_eq_false hfin, ifB_false, lok_int0 under97 under3n zero4 hm1 hm2, hlk]
        simp only at hr
        simp only [hr, asB_bool, ifB_true]
      | none =>
        have hS : without (lf g B) (2 ^ t) < 1024 := without_le (n := 10) _ _ hlf
        obtain ⟨v11, h4, e76, x4, hs11⟩ := s76 hS h
        have c76 := fun (K : Value → H → Option (Value × H)) => calls_eq (K := K) (xs := [iv (without (lf g B) (2 ^ t) : Nat)]) e76
        have hN4 := hN.ext x4.toExt
        have hap4 := hap.ext x4.toExt
        have helt : ∀ u, u ∈ elts (without (lf g B) (2 ^ t)) → (without (lf g B) (2 ^ t)).testBit u = true := fun u hu => (mem_elts hS).1 hu
        have hfind := elts_left (B := B) (t := t) hg
        have hel : (elts (without (lf g B) (2 ^ t))).length ≤ 10 := by unfold elts; exact Nat.le_trans (List.length_filter_le ..) (by simp)
        have hn11 : ∀ {T : Type} (K : Int → Option T), len v11 K = K ((elts (without (lf g B) (2 ^ t))).length : Int) := fun K => by rw [hs11.len]; simp
        have hbit := fun u hu => cq_iff hg (t := t) (B := B) (helt u hu)
        generalize hL : elts (without (lf g B) (2 ^ t)) = L at *
        have keys : ∀ {nw5 nw' : List (Int × Value)} {u : Nat}, (∀ p ∈ nw5, ∃ K : Nat, p.1 = (K : Int) ∧ pop B < pop K) → Nw (B ||| 2 ^ u) nw' → pop B < pop (B ||| 2 ^ u) → ∀ p ∈ nw5 ++ nw', ∃ K : Nat, p.1 = (K : Int) ∧ pop B < pop K := by
          intro nw5 nw' u h1 h2 h3 p hp
          rw [List.mem_append] at hp
          rcases hp with hp | hp
          · exact h1 p hp
          · obtain ⟨K, h4, h5⟩ := h2 p hp
            exact ⟨K, h4, by omega⟩
        obtain ⟨e, ws', h10, hlp, hQ⟩ := lp_range (F := f82_l1 rn 20 (pt bx 0) v1 B (allN g) v11 L.length) (k := 20) (n := L.length)
          (fun i ws h5 => ws = [.slice none 0 0, iv i] ∧ ∃ nw5, HN g t (kv ++ nw5) bx md tv h5 ∧ Fd md none h4 h5 ∧ (∀ p ∈ nw5, ∃ K : Nat, p.1 = (K : Int) ∧ pop B < pop K) ∧ ∀ v ∈ L.take i, (cq g t B v && goodQ g t (B ||| 2 ^ v)) = false)
          (fun e ws h5 => ∃ nw5, HN g t (kv ++ nw5) bx md tv h5 ∧ Fd md none h4 h5 ∧ (∀ p ∈ nw5, ∃ K : Nat, p.1 = (K : Int) ∧ pop B < pop K) ∧
            ((e = .exit 0 ∧ ∀ v ∈ L, (cq g t B v && goodQ g t (B ||| 2 ^ v)) = false) ∨ (e = .ret ∧ ∃ v20 w, ws = [v20, w] ∧ goodQ g t B = true ∧ ∃ r, Gr g t B r ∧ SlR h5 3 1 v20 (cellsN (l ++ r)))))
          (by
            rintro i ws h5 hi ⟨rfl, nw5, hN5, f5, hk5, hno⟩
            have hu := List.getElem?_eq_getElem hi
            generalize L[i] = u at hu
            have huL := List.mem_of_getElem? hu
            have hub := helt u huL
            have hub' := hub
            rw [without_bit, lf_bit, Nat.testBit_two_pow] at hub'
            simp only [Bool.and_eq_true, decide_eq_true_eq, Bool.not_eq_true', decide_eq_false_iff_not] at hub'
            obtain ⟨⟨hun, huB⟩, hut⟩ := hub'
            have hcq := hbit u huL
            have hadd : add .i64 (i : Int) 1 = ((i + 1 : Nat) : Int) := by rw [add64 (by omega) (by omega)]; omega
            have hs5 := hN4.sl f5 hs11
            have hap5 := hN4.aq f5 hap4
            have e1 : ∀ (K : Value → Option (Ex × List Value × H)), (six v11 (i : Int) 1 fun b o => ld Tryd.prog h5 3 b o K) = K (iv (u : Int)) := fun K =>
              hs5.ld0 ag3 (by omega) (x := [iv (u : Int)]) (by simp [hu]) rfl K
            have e2 : ∀ (K : Value → Option (Ex × List Value × H)), (six tv (u : Int) 1 fun b o => ld Tryd.prog h5 3 b o K) = K (iv (nb g u : Nat)) := fun K => by
              simp only [d3]; exact getN hN5.s hun K
            have hnb := nb_lt10 hg.toGrB u
            have hskip : (cq g t B u && goodQ g t (B ||| 2 ^ u)) = false → ∀ v ∈ L.take (i + 1), (cq g t B v && goodQ g t (B ||| 2 ^ v)) = false := by
              intro h v hv
              rw [List.take_add_one, hu, List.mem_append] at hv
              rcases hv with hv | hv
              · exact hno v hv
              · simp at hv; rw [hv]; exact h
            by_cases c1 : nb g u &&& B = 0
            · refine ⟨.normal, [.slice none 0 0, iv ((i + 1 : Nat) : Int)], h5, ?_, .inl ⟨rfl, rfl, nw5, hN5, f5, hk5, hskip (by rw [hcq]; simp [c1])⟩⟩
              unfold f82_l1
              rw [show AM.gv [.slice none 0 0, iv i] 1 = iv i from rfl, show AM.gv [.slice none 0 0, iv i] 0 = .slice none 0 0 from rfl, asI_int, lt_t (by omega), ifB_true, asK_int, e1, asI_int, nilp, asP_ptr, ldT hN5, e2, asI_int, and_calc hnb hB10, decide_eq_true c1, ifB_true, asI_int, hadd]
              rfl
            · by_cases c2 : nb g u &&& lf g B = 0
              · refine ⟨.normal, [.slice none 0 0, iv ((i + 1 : Nat) : Int)], h5, ?_, .inl ⟨rfl, rfl, nw5, hN5, f5, hk5, hskip (by rw [hcq]; simp [c2])⟩⟩
                unfold f82_l1
                rw [show AM.gv [.slice none 0 0, iv i] 1 = iv i from rfl, show AM.gv [.slice none 0 0, iv i] 0 = .slice none 0 0 from rfl, asI_int, lt_t (by omega), ifB_true, asK_int, e1, asI_int, nilp, asP_ptr, ldT hN5, e2, asI_int, and_calc hnb hB10, decide_eq_false c1, ifB_false,
                  nilp, asP_ptr, ldT hN5, e2, asI_int, lf_calc hg hB10, and_calc hnb hlf, decide_eq_true c2, ifB_true, asI_int, hadd]
                rfl
              · have hcqt : cq g t B u = true := by rw [hcq]; simp [c1, c2]
                have hpop := pop_or hB10 (show u < 10 by omega) huB
                obtain ⟨v17, h6, e83, x6, a17⟩ := s83A hap5.slR hl (by omega)
                have c83 := fun (K : Value → H → Option (Ex × List Value × H)) => calls_eq (K := K) (xs := [v1]) e83
                obtain ⟨v19, h8, e8, a19, n8, k8, b8, hb8, hb8'⟩ := a17.push app22 app22 (bls22 (u : Int)) rfl rfl (by rw [List.length_map]; omega) x6.nx
                have x58 : Ext h5 h8 := ⟨Nat.le_trans x6.nx n8, fun b hb => by
                  rw [k8 b (Nat.lt_of_lt_of_le hb x6.nx) (fun e => by have := (a17.blkOf e).1; omega)]
                  exact x6.blk b hb⟩
                have a19' : AqR h5.nx h8 3 1 v19 (cellsN (l ++ [u])) := by
                  have : cellsN (l ++ [u]) = cellsN l ++ [[iv (u : Int)]] := by simp
                  rw [this]; exact a19
                have hB'lt := or_lt hB hun
                have hB't : (B ||| 2 ^ u).testBit t = false := by rw [or_bit, hBt]; simpa using fun e => hut e.symm
                obtain ⟨v20, h9, nw', e82, hN9, f9, hnw, hor⟩ := ih (B ||| 2 ^ u) v19 (l ++ [u]) (kv ++ nw5) h8 h5.nx (by omega) hB'lt hB't ⟨s, by rw [or_bit, hsB]; rfl⟩ (by simp) (by simp; omega) (hN5.ext x58) hN5.lx hN5.lm (fun b hb => (hN5.s.blkR hb).1) a19' x58.nx
                have c82 := fun (K : Value → H → Option (Ex × List Value × H)) => calls_eq (K := K) (xs := [pt bx 0, v19, iv ((B ||| 2 ^ u : Nat) : Int)]) e82
                have f59 : Fd md none h5 h9 := ⟨Nat.le_trans x58.nx f9.nx, fun b hb q1 _ => by
                  rw [f9.blk b (Nat.lt_of_lt_of_le hb x58.nx) q1 (fun e => by have := (a19'.blkOf e).1; omega)]
                  exact x58.blk b hb⟩
                rw [List.append_assoc] at hN9
                have start2 : ∀ r, (eqv Tryd.prog 22 v20 (.slice none 0 0) fun q1 => ifB (!q1) (AM.out .ret [v20, iv i] h9) (AM.out .normal [.slice none 0 0, iv ((i + 1 : Nat) : Int)] h9)) = r → f82_l1 rn 20 (pt bx 0) v1 B (allN g) v11 L.length [.slice none 0 0, iv i] h5 = r := by
                  intro r hr
                  unfold f82_l1
                  rw [show AM.gv [.slice none 0 0, iv i] 1 = iv i from rfl, show AM.gv [.slice none 0 0, iv i] 0 = .slice none 0 0 from rfl, asI_int, lt_t (by omega), ifB_true, asK_int, e1, asI_int, nilp, asP_ptr, ldT hN5, e2, asI_int, and_calc hnb hB10, decide_eq_false c1, ifB_false,
                    nilp, asP_ptr, ldT hN5, e2, asI_int, lf_calc hg hB10, and_calc hnb hlf, decide_eq_false c2, ifB_false, c83, e8, nn_ge (show (0 : Int) ≤ (u : Int) by omega), or_calc2 hlen hB hun, c82, asI_int, hadd]
                  exact hr
                rcases hor with ⟨hgood, r, hr, hsr⟩ | ⟨hbad, rfl⟩
                · refine ⟨.ret, [v20, iv i], h9, start2 _ ?_, .inr ⟨by simp, nw5 ++ nw', hN9, f5.trans f59, keys hk5 hnw hpop, .inr ⟨rfl, v20, iv i, rfl, good_back hg ht hBt hcqt hgood, u :: r, .step hfin ?_ hr, ?_⟩⟩⟩
                  · have hne : cellsN (l ++ [u] ++ r) ≠ [] := by simp
                    generalize cellsN (l ++ [u] ++ r) = LL at hsr hne
                    cases hsr with
                    | nil => exact absurd rfl hne
                    | @at_ b o c cs own l' q1 q2 q3 q4 q5 q6 =>
                      unfold eqv
                      rw [some22]
                      rfl
                  · rw [← hfind]
                    exact find_at hu (by rw [hcqt, hgood]; rfl) hno
                  · have : l ++ u :: r = l ++ [u] ++ r := by simp
                    rw [this]; exact hsr
                · refine ⟨.normal, [.slice none 0 0, iv ((i + 1 : Nat) : Int)], h9, start2 _ ?_, .inl ⟨rfl, rfl, nw5 ++ nw', hN9, f5.trans f59, keys hk5 hnw hpop, hskip (by rw [hbad]; simp)⟩⟩
                  unfold eqv
                  rw [nil22]
                  rfl)
          (by
            rintro ws h5 ⟨rfl, nw5, hN5, f5, hk5, hno⟩
            refine ⟨.exit 0, [.slice none 0 0, iv L.length], h5, by simp [f82_l1], by simp, nw5, hN5, f5, hk5, .inl ⟨rfl, ?_⟩⟩
            rw [List.take_length] at hno
            exact hno)
          (ws := [.slice none 0 0, iv 0]) (h := h4) (by omega) ⟨rfl, [], by rw [List.append_nil]; exact hN4, Fd.ext (.refl _), (fun p hp => by cases hp), by simp⟩
        obtain ⟨nw5, hN10, f10, hk10, hor⟩ := hQ
        have fh4 : Fd md none h h4 := Fd.ext x4.toExt
        have start3 : ∀ r, (onE e 0 (
                    mup Tryd.prog h10 97 (.map (some md)) (.int .i64 (B : Int)) (.bool true) fun h11 =>
                      some ((.slice none 0 0), h11)) (
                    onR e (
                      some (AM.gv ws' 0, h10)))) = r → f82 rn 20 (pt bx 0) v1 B h = r := by
          intro r hr
          refine start r ?_
          rw [decide_eq_false hfin, ifB_false, lok_int0 under97 under3n zero4 hm1 hm2, hlk]
          simp only [asB_bool, ifB_false, c76, hn11]
          refine (lp_eq hlp).trans ?_
          rw [nilp, asP_ptr, ldm hN10]
          exact hr
        have hNw : Nw B nw5 := fun p hp => by obtain ⟨K, q1, q2⟩ := hk10 p hp; exact ⟨K, q1, by omega⟩
        rcases hor with ⟨rfl, hno⟩ | ⟨rfl, v20, w, rfl, hgood, r, hr, hsr⟩
        · have hbad : goodQ g t B = false := by
            rw [Bool.eq_false_iff]
            intro hgood
            obtain ⟨z, hz, hzt⟩ : ∃ z, (lf g B).testBit z = true ∧ z ≠ t := by
              refine Classical.byContradiction fun hc => hfin ?_
              refine set_ext (n := 10) hlf h2t fun z _ => ?_
              rw [Nat.testBit_two_pow]
              by_cases hzt : t = z
              · subst hzt; rw [htl, decide_eq_true rfl]
              · rw [decide_eq_false hzt, Bool.eq_false_iff]
                exact fun hz => hc ⟨z, hz, fun e => hzt e.symm⟩
            obtain ⟨v, hvn, hv1, hv2⟩ := good_next hg hbi ht hBt hsB hsn hgood hz hzt
            have h0 : L.find? (fun v => cq g t B v && goodQ g t (B ||| 2 ^ v)) = none := List.find?_eq_none.2 fun x hx => by rw [hno x hx]; simp
            rw [hfind] at h0
            have := List.find?_eq_none.1 h0 v (List.mem_range.2 hvn)
            rw [hv1, hv2] at this
            exact this rfl
          have hk : look (kv ++ nw5) (B : Int) 0 = none := by
            rw [look_none]
            intro p hp
            rw [List.mem_append] at hp
            rcases hp with hp | hp
            · exact (look_none _ _).1 hlk p hp
            · obtain ⟨K, q1, q2⟩ := hk10 p hp
              rw [q1]
              intro e
              have := Int.natCast_inj.1 e
              subst this
              omega
          obtain ⟨h11, e11, hN11, f11⟩ := hN10.add (R := Value × H) hk hbad
          obtain ⟨h12, e12, m12, _⟩ := x82 (k := 20) (v0 := pt bx 0) (v1 := v1) (n0 := B) (h := h) (h1 := h11) (v := .slice none 0 0) (start3 _ (by rw [onE_exit, if_pos rfl, e11])) rfl
          refine ⟨.slice none 0 0, h12, nw5 ++ [((B : Int), .bool true)], e12, ?_, (((fh4.trans f10).trans f11).weak).sm m12, ?_, .inr ⟨hbad, rfl⟩⟩
          · rw [← List.append_assoc]; exact hN11.ext m12.ext
          · intro p hp
            rw [List.mem_append, List.mem_singleton] at hp
            rcases hp with hp | rfl
            · exact hNw p hp
            · exact ⟨B, rfl, Nat.le_refl _⟩
        · obtain ⟨h12, e12, m12, _⟩ := x82 (k := 20) (v0 := pt bx 0) (v1 := v1) (n0 := B) (h := h) (h1 := h10) (v := v20) (start3 _ (by rw [onE_ret, onR_ret]; rfl)) hsr.notR
          exact ⟨v20, h12, nw5, e12, hN10.ext m12.ext, ((fh4.trans f10).weak).sm m12, hNw, .inl ⟨hgood, r, hr, hsr.ext m12.ext⟩⟩

end Go.AM

end

section

/- Number: the program's and the document's. -/
namespace Go.AM
open Go.Proofs
variable {R : Type}
attribute [local simp] nx_eq nx_new nx_set blk_new blk_set asI_int asK_int asB_bool asP_ptr al_eq bx_eq len_slice onE_exit onE_ret onR_ret Value.cells cell_new cell_set rd_new rd_set off eq lt le ifB gv out ext20 ext21
noncomputable def doubleP (g : List Nat) : Bool := decide (3 ≤ g.length) && connS g (allN g) && decide (cutsP g (allN g) = 0)

theorem pop_all_tab : ((List.range 11).all fun n => decide (pop (2 ^ n - 1) = n) && (List.range n).all fun t => decide (pop (without (2 ^ n - 1) (2 ^ t)) = n - 1)) = true := by decide +kernel

theorem pop_all {n : Nat} (h : n ≤ 10) : pop (2 ^ n - 1) = n ∧ ∀ t, t < n → pop (without (2 ^ n - 1) (2 ^ t)) = n - 1 := by
  have := List.all_eq_true.1 pop_all_tab n (List.mem_range.2 (by omega))
  simp only [Bool.and_eq_true, decide_eq_true_eq, List.all_eq_true, List.mem_range] at this
  exact this

theorem double_bi {g : List Nat} (hg : GrN g) (h : doubleP g = true) : Bi g (allN g) := by
  unfold doubleP at h
  simp only [Bool.and_eq_true, decide_eq_true_eq] at h
  refine ((cand2_iff hg (allN_lt g)).1 ?_).2
  unfold cand2
  have := (pop_all hg.len).1
  rw [show pop (allN g) = g.length from this, h.1.2, h.2, decide_eq_true (by omega)]
  rfl

theorem s81 {tv : Value} {g : List Nat} {h : H} (hg : GrN g) (hs : SlR h 3 1 tv (cellsN g)) : rn 81 #[tv] h = some (.bool (doubleP g), h) := by
  have hn : ∀ {T : Type} (K : Int → Option T), len tv K = K (g.length : Int) := fun K => by rw [hs.len]; simp
  have c65 := fun (K : Value → H → Option (Value × H)) => calls_eq (K := K) (xs := [tv]) (s65 hg.toGrB hs)
  have c64 := fun (K : Value → H → Option (Value × H)) => calls_eq (K := K) (xs := [tv, iv (allN g : Nat)]) (s64 hg.toGrB hs (allN_lt g))
  have c70 := fun (K : Value → H → Option (Value × H)) => calls_eq (K := K) (xs := [tv, iv (allN g : Nat)]) (s70 hg.toGrB hs (allN_lt g))
  refine p81 (k := 0) (h1 := h) ?_ rfl (.refl _)
  unfold f81 doubleP
  rw [hn, show AM.le 3 (g.length : Int) = decide (3 ≤ g.length) by simp only [AM.le, decide_eq_decide]; omega]
  by_cases h3 : 3 ≤ g.length
  · rw [decide_eq_true h3, ifB_true, c65, asI_int, c64, asB_bool, Bool.true_and]
    cases connS g (allN g) with
    | true => rw [ifB_true, c65, asI_int, c70, asI_int, Bool.true_and, show AM.eq (cutsP g (allN g) : Int) 0 = decide (cutsP g (allN g) = 0) from eqN (b := 0)]
    | false => rw [ifB_false, Bool.false_and]
  · rw [decide_eq_false h3, ifB_false, Bool.false_and, Bool.false_and]

/-- Is a number a node? -/
def nodeB (g : List Nat) (z : Int) : Bool := decide (0 ≤ z) && decide (z < (g.length : Int))

theorem nodeB_nat {g : List Nat} {z : Int} (h : nodeB g z = true) : ∃ a : Nat, z = (a : Int) ∧ a < g.length := by
  unfold nodeB at h
  simp only [Bool.and_eq_true, decide_eq_true_eq] at h
  exact ⟨z.toNat, by omega, by omega⟩

theorem s79 {tv : Value} {g : List Nat} {z : Int} {h : H} (hs : SlR h 3 1 tv (cellsN g)) : rn 79 #[tv, iv z] h = some (.bool (nodeB g z), h) := by
  have hn : ∀ {T : Type} (K : Int → Option T), len tv K = K (g.length : Int) := fun K => by rw [hs.len]; simp
  refine p79 (k := 0) (h1 := h) ?_ rfl (.refl _)
  unfold f79 nodeB
  by_cases h0 : 0 ≤ z
  · rw [show AM.le 0 z = true by simp [AM.le, h0], ifB_true, hn, decide_eq_true h0, Bool.true_and]; rfl
  · rw [show AM.le 0 z = false by simp [AM.le]; omega, ifB_false, decide_eq_false h0, Bool.false_and]

theorem s38 {tv : Value} {l : List Int} {z : Int} {h : H} (hs : SlR h 3 1 tv (cellsI l)) : rn 38 #[tv, iv z] h = some (.bool (decide (0 ≤ z) && decide (z < (l.length : Int))), h) := by
  have hn : ∀ {T : Type} (K : Int → Option T), len tv K = K (l.length : Int) := fun K => by rw [hs.len]; simp
  refine p38 (k := 0) (h1 := h) ?_ rfl (.refl _)
  unfold f38
  by_cases h0 : 0 ≤ z
  · rw [show AM.le 0 z = true by simp [AM.le, h0], ifB_true, hn, decide_eq_true h0, Bool.true_and]; rfl
  · rw [show AM.le 0 z = false by simp [AM.le]; omega, ifB_false, decide_eq_false h0, Bool.false_and]

theorem s80 {tv : Value} {g : List Nat} {a b : Nat} {h : H} (hg : GrB g) (hs : SlR h 3 1 tv (cellsN g)) (ha : a < g.length) (hb : b < g.length) : rn 80 #[tv, iv a, iv b] h = some (.bool (adj g a b), h) := by
  have hlen := hg.len
  refine p80 (k := 0) (h1 := h) ?_ rfl (.refl _)
  unfold f80
  simp only [d3]
  rw [getN hs ha, asI_int, nn_ge (show (0 : Int) ≤ (b : Int) by omega), adj_bit hg (by omega)]
  cases adj g a b <;> rfl

theorem kbld99 {x y z} (t : Int) (m : Option Nat) (K : Value → Option R) : bld Tryd.prog 99 [(0, .slice x y z), (1, .int .i64 t), (2, .map m)] K = K (.agg #[.slice x y z, .int .i64 t, .map m]) := bld_some (by kernel_rfl)

theorem good_start {g : List Nat} (hg : GrN g) (hbi : Bi g (allN g)) {s t : Nat} (ht : t < g.length) (hst : s ≠ t) : goodQ g t (2 ^ s) = true := by
  rw [good_iff hg ht (by rw [Nat.testBit_two_pow]; exact decide_eq_false hst)]
  intro u hu
  have : lf g (2 ^ s) = without (allN g) (2 ^ s) := rfl
  rw [this] at hu ⊢
  exact hbi s t u (all_del ht (fun e => hst e.symm)) hu

theorem s34_start {v : Value} {g : List Nat} {s t : Nat} {h : H} (hg : GrN g) (hval : validG (g.map Int.ofNat) = true) (hs : SlR h 3 1 v (cellsN g)) (hsn : s < g.length) (htn : t < g.length) (ha : adj g s t = true) :
    ∀ r, (ifB (!doubleP g) (some ((.tuple #[(.slice none 0 0), (.int .i64 5)]), h)) (
            mkm h fun h6 =>
            bld Tryd.prog 99 [(0, v), (1, (.int .i64 (t : Int))), (2, (.map (some (nx h))))] fun v8 =>
            bx h6 99 v8 fun h7 =>
            bls Tryd.prog h7 22 1 [(0, (.int .i64 (s : Int)))] fun v9 h8 =>
            nn (s : Int) (
              calls rn h8 82 [(pt (nx h6) 0), v9, (.int .i64 (AM.shl .i64 1 (s : Int)))] fun v10 h9 =>
              some ((.tuple #[v10, (.int .i64 0)]), h9)))) = r → f34 rn 0 v s t h = r := by
  intro r hr
  have c63 := fun (K : Value → H → Option (Value × H)) => calls_eq (K := K) (xs := [v]) (s63 (l := g.map Int.ofNat) (h := h) (by rw [cellsN_eq]; exact hs))
  rw [if_pos hval] at c63
  have c79 := fun (z : Int) (K : Value → H → Option (Value × H)) => calls_eq (K := K) (xs := [v, iv z]) (s79 (z := z) hs)
  have nd : ∀ {a : Nat}, a < g.length → nodeB g (a : Int) = true := fun {a} h => by
    unfold nodeB; rw [decide_eq_true (by omega), decide_eq_true (by omega)]; rfl
  unfold f34
  rw [c63, ext20, ext21, asB_bool, show (!true) = false from rfl, ifB_false, c79, asB_bool, nd hsn, show (!true) = false from rfl, ifB_false, c79, asB_bool, nd htn, show (!true) = false from rfl, ifB_false,
    calls_eq (xs := [v, iv s, iv t]) (s80 hg.toGrB hs hsn htn), asB_bool, ha, show (!true) = false from rfl, ifB_false, calls_eq (xs := [v]) (s81 hg hs), asB_bool]
  exact hr

theorem s34_single {v : Value} {g : List Nat} {s t : Nat} {h : H} (hg : GrN g) (hval : validG (g.map Int.ofNat) = true) (hs : SlR h 3 1 v (cellsN g)) (hsn : s < g.length) (htn : t < g.length) (ha : adj g s t = true) (hd : doubleP g = false) :
    rn 34 #[v, iv s, iv t] h = some (.tuple #[.slice none 0 0, iv 5], h) := by
  refine y34 (k := 0) (s34_start hg hval hs hsn htn ha _ ?_)
  rw [hd, show (!false) = true from rfl, ifB_true]

theorem s34 {v : Value} {g : List Nat} {s t : Nat} {h : H} (hg : GrN g) (hval : validG (g.map Int.ofNat) = true) (hs : SlR h 3 1 v (cellsN g)) (hsn : s < g.length) (htn : t < g.length) (ha : adj g s t = true) (hd : doubleP g = true) :
    ∃ v' h' r, rn 34 #[v, iv s, iv t] h = some (.tuple #[v', iv 0], h') ∧ Exw h h' ∧ Gr g t (2 ^ s) r ∧ SlR h' 3 1 v' (cellsN (s :: r)) := by
  have hlen := hg.len
  have hbi := double_bi hg hd
  have hst : s ≠ t := by rintro rfl; rw [hg.irr] at ha; cases ha
  obtain ⟨x, y, z, rfl⟩ := hs.isSl
  obtain ⟨h6, hh6⟩ : ∃ h6, h6 = h.new (.mp [] 0) := ⟨_, rfl⟩
  obtain ⟨h7, hh7⟩ : ∃ h7, h7 = h6.new (.row [.slice x y z, iv t, .map (some h.nx)] 99 true) := ⟨_, rfl⟩
  obtain ⟨h8, hh8⟩ : ∃ h8, h8 = h7.new (.row [iv s] 3 true) := ⟨_, rfl⟩
  have n6 : h6.nx = h.nx + 1 := by rw [hh6]; rfl
  have n7 : h7.nx = h.nx + 2 := by rw [hh7, nx_new, n6]
  have x6 : Ext h h6 := by rw [hh6]; exact Ext.new _ _
  have x7 : Ext h6 h7 := by rw [hh7]; exact Ext.new _ _
  have x8 : Ext h7 h8 := by rw [hh8]; exact Ext.new _ _
  have hN : HN g t [] h6.nx h.nx (.slice x y z) h8 := by
    refine ⟨(x8.blk _ (by omega)).trans ?_, hs.ext ((x6.trans x7).trans x8), ⟨[], 0, (x8.blk _ (by omega)).trans ((x7.blk _ (by omega)).trans ?_), rfl⟩, (fun p hp => by cases hp), ?_, ?_⟩
    · rw [hh7]; exact blk_new_self _ _
    · rw [hh6]; exact blk_new_self _ _
    · have := x8.nx; omega
    · have := x8.nx; omega
  have hap : AqR h7.nx h8 3 1 (.slice (some ⟨h7.nx, 0, none⟩) 1 1) (cellsN [s]) := by
    rw [hh8]
    exact AqR.lit (l := [[iv (s : Int)]]) (Nat.le_refl _) rfl (by simp) (by simp)
  obtain ⟨v', h9, nw, e82, hN9, f9, _, hor⟩ := s82 hg hbi htn 10 (2 ^ s) (.slice (some ⟨h7.nx, 0, none⟩) 1 1) [s] [] h8 h7.nx (by omega) (Nat.pow_lt_pow_right (by omega) hsn) (by rw [Nat.testBit_two_pow]; exact decide_eq_false hst) ⟨s, by simp⟩ (by simp) (by simp; omega) hN (by omega) (by omega)
    (fun b hb => by have := (hs.blkR hb).1; omega) hap x8.nx
  rcases hor with ⟨_, r, hr, hsr⟩ | ⟨hbad, _⟩
  · have x9 : Ext h h9 := ⟨by have := f9.nx; have := x8.nx; omega, fun b hb => by
      rw [f9.blk b (by have := x8.nx; omega) (by omega) (fun e => by cases e; omega)]
      exact ((x6.trans x7).trans x8).blk b hb⟩
    obtain ⟨h10, e10, m10, w10⟩ := x34 (k := 0) (v0 := .slice x y z) (n0 := s) (n1 := t) (h := h) (h1 := h9) (v := .tuple #[v', iv 0]) (s34_start hg hval hs hsn htn ha _ (by
      rw [hd, show (!true) = false from rfl, ifB_false]
      simp only [mkm]
      rw [kbld99, bx_eq, ← hh6]
      rw [show (Value.agg #[.slice x y z, .int .i64 (t : Int), .map (some (nx h))]).cells.toList = [.slice x y z, iv t, .map (some h.nx)] from rfl, ← hh7, bls_some (bls22 (s : Int) h7), ← hh8, nn_ge (show (0 : Int) ≤ (s : Int) by omega), shl1_nat (by omega), nx_eq,
        calls_eq (xs := [pt h6.nx 0, .slice (some ⟨h7.nx, 0, none⟩) 1 1, iv ((2 ^ s : Nat) : Int)]) e82])) hsr.notR2
    exact ⟨v', h10, r, e10, w10 x9, hr, hsr.ext m10.ext⟩
  · rw [good_start hg hbi htn hst] at hbad
    cases hbad

end Go.AM

end

section

/- CheckNumber and IsNumber. -/
namespace Go.AM
open Go.Proofs
variable {R : Type}
attribute [local simp] nx_eq nx_new nx_set blk_new blk_set asI_int asK_int asB_bool asP_ptr al_eq bx_eq len_slice onE_exit onE_ret onR_ret Value.cells cell_new cell_set rd_new rd_set off eq lt le ifB gv out ext20 ext21
/-! ### Plain -/
def badN (g : List Nat) (S len i x b : Nat) : Bool := decide (0 < i) && (decide (i < len - 1) && (decide (nb g x &&& b = 0) || decide (nb g x &&& without (without S b) (2 ^ x) = 0)))

def numR (g : List Nat) (S len : Nat) : List Nat → Nat → Nat → Bool
  | [], _, _ => true
  | x :: r, i, b => if badN g S len i x b = true then false else numR g S len r (i + 1) (b ||| 2 ^ x)

def setL (m : List Nat) : Nat := m.foldl (fun s x => s ||| 2 ^ x) 0

theorem itL_num {g : List Nat} {S len : Nat} {rr : Nat → Nat → List Value} : ∀ (m : List Nat) (i b : Nat),
    (numR g S len m i b = true ∧ ∃ b', itL (fun i x b => if badN g S len i x b = true then .inr (rr i b) else .inl (b ||| 2 ^ x)) m i b = .inl b') ∨
    (numR g S len m i b = false ∧ ∃ j b', itL (fun i x b => if badN g S len i x b = true then .inr (rr i b) else .inl (b ||| 2 ^ x)) m i b = .inr (rr j b')) := by
  intro m
  induction m with
  | nil => intro i b; exact .inl ⟨rfl, b, rfl⟩
  | cons x m ih =>
    intro i b
    by_cases hb : badN g S len i x b = true
    · refine .inr ⟨?_, i, b, ?_⟩
      · simp only [numR, hb, if_true]
      · simp only [itL, hb, if_true]
    · rcases ih (i + 1) (b ||| 2 ^ x) with ⟨h1, b', h2⟩ | ⟨h1, j, b', h2⟩
      · refine .inl ⟨?_, b', ?_⟩
        · simp only [numR, hb, if_false]; exact h1
        · simp only [itL, hb, if_false]; exact h2
      · refine .inr ⟨?_, j, b', ?_⟩
        · simp only [numR, hb, if_false]; exact h1
        · simp only [itL, hb, if_false]; exact h2

theorem itL_set {p : Int → Bool} {rr : Nat → Nat → List Value} : ∀ (l : List Int) (i s : Nat),
    (l.all p = true ∧ itL (fun i x s => if p x = true then .inl (s ||| 2 ^ x.toNat) else .inr (rr i s)) l i s = .inl ((l.map Int.toNat).foldl (fun s x => s ||| 2 ^ x) s)) ∨
    (l.all p = false ∧ ∃ j s', itL (fun i x s => if p x = true then .inl (s ||| 2 ^ x.toNat) else .inr (rr i s)) l i s = .inr (rr j s')) := by
  intro l
  induction l with
  | nil => intro i s; exact .inl ⟨rfl, rfl⟩
  | cons x l ih =>
    intro i s
    by_cases hx : p x = true
    · rcases ih (i + 1) (s ||| 2 ^ x.toNat) with ⟨h1, h2⟩ | ⟨h1, j, b', h2⟩
      · refine .inl ⟨?_, ?_⟩
        · rw [List.all_cons, hx, h1]; rfl
        · simp only [itL, hx, if_true]; exact h2
      · refine .inr ⟨?_, j, b', ?_⟩
        · rw [List.all_cons, h1, Bool.and_false]
        · simp only [itL, hx, if_true]; exact h2
    · refine .inr ⟨?_, i, s, ?_⟩
      · rw [List.all_cons, Bool.eq_false_iff.2 hx, Bool.false_and]
      · simp only [itL, hx, if_false, Bool.false_eq_true]

/-- The first and the last one are neighbours. -/
def endsN (g : List Nat) (m : List Nat) : Bool := adj g (m.getD 0 0) (m.getD (m.length - 1) 0)

def chkP (g : List Nat) (l : List Int) : Bool :=
  l.all (nodeB g) && (decide (l.length = g.length) && (decide (setL (l.map Int.toNat) = allN g) && (decide (2 ≤ l.length) && (endsN g (l.map Int.toNat) && numR g (allN g) l.length (l.map Int.toNat) 0 0))))

theorem nat_list {g : List Nat} {l : List Int} (h : l.all (nodeB g) = true) : l = (l.map Int.toNat).map Int.ofNat ∧ ∀ x ∈ l.map Int.toNat, x < g.length := by
  rw [List.all_eq_true] at h
  constructor
  · rw [List.map_map]
    conv => lhs; rw [← List.map_id l]
    refine List.map_congr_left fun x hx => ?_
    obtain ⟨a, ha, _⟩ := nodeB_nat (h x hx)
    rw [ha]; rfl
  · intro x hx
    obtain ⟨y, hy, rfl⟩ := List.mem_map.1 hx
    obtain ⟨a, ha, hb⟩ := nodeB_nat (h y hy)
    rw [ha]; simpa using hb

/-! ### A slice's beginning -/
theorem s36 {v : Value} {l : List Int} {h : H} (hs : SlR h 3 1 v (cellsI l)) : ∃ v' h', rn 36 #[v] h = some (v', h') ∧ Exw h h' ∧ SlR h' 3 1 v' (cellsI (l.take 16)) := by
  have e1 : imin ((cellsI l).length : Int) 16 = ((min l.length 16 : Nat) : Int) := by
    rw [List.length_map]
    unfold imin
    split <;> omega
  obtain ⟨v1, s1, e2⟩ := hs.take (i := ((min l.length 16 : Nat) : Int)) under22 sz3 (by omega) (by rw [List.length_map]; omega)
  have e3 : (cellsI l).take ((min l.length 16 : Nat) : Int).toNat = cellsI (l.take 16) := by
    rw [Int.toNat_natCast, ← List.map_take]
    congr 1
    rcases Nat.le_total l.length 16 with h1 | h1
    · rw [Nat.min_eq_left h1, List.take_of_length_le (Nat.le_refl _), List.take_of_length_le h1]
    · rw [Nat.min_eq_right h1]
  rw [e3] at s1
  obtain ⟨v', h', e4, x, s, a, n, c, rfl⟩ := s83 s1 (by rw [List.length_map, List.length_take]; omega)
  obtain ⟨h2, e5, m2, w2⟩ := x36 (k := 0) (h := h) (v0 := v) (h1 := h') (v := .slice a n c) (by
    unfold f36
    rw [hs.len, e1, e2, calls_eq e4]) rfl
  exact ⟨_, h2, e5, w2 x.toExt, s.ext m2.ext⟩

/-! ### The program's loops -/
theorem getI {h : H} {v : Value} {l : List Int} (hs : SlR h 3 1 v (cellsI l)) {i : Nat} {x : Int} (hx : l[i]? = some x) (K : Value → Option R) : (six v (i : Int) 1 fun b o => ld Tryd.prog h 3 b o K) = K (iv x) := by
  simp only [d3]; exact getL hs hx K

theorem s35_l1 {v1 v3 : Value} {g : List Nat} {l : List Int} {h : H} (hg : GrN g) (hs : SlR h 3 1 v3 (cellsN g)) (hs1 : SlR h 3 1 v1 (cellsI l)) (hl : l.length ≤ 16) :
    (l.all (nodeB g) = true ∧ lpGo (f35_l1 rn 40 v1 v3 l.length) 40 [.bool false, iv 0, iv 0, iv 0] h = some (.exit 0, [.bool false, iv 0, iv (setL (l.map Int.toNat) : Nat), iv l.length], h)) ∨
    (l.all (nodeB g) = false ∧ ∃ w, lpGo (f35_l1 rn 40 v1 v3 l.length) 40 [.bool false, iv 0, iv 0, iv 0] h = some (.ret, [.bool false, iv 0] ++ w, h)) := by
  have hlen := hg.len
  have key := lp_same (F := f35_l1 rn 40 v1 v3 l.length) (k := 40) (l := l) (fun i (s : Nat) => [.bool false, iv 0, iv s, iv i])
    (fun i x s => if nodeB g x = true then .inl (s ||| 2 ^ x.toNat) else .inr ([.bool false, iv 0, iv s, iv i] : List Value)) (fun _ s => s < 2 ^ g.length) (fun _ => .ret) (fun r => r) 0 (fun s => [.bool false, iv 0, iv s, iv l.length]) (h := h)
    (ws := [.bool false, iv 0, iv 0, iv 0]) (s0 := 0) rfl (Nat.two_pow_pos _) (by omega) (fun _ => by simp)
    (by
      intro s _
      simp [f35_l1])
    (by
      intro i x s hx hI
      have hi := (List.getElem?_eq_some_iff.1 hx).1
      have hadd : add .i64 (i : Int) 1 = ((i + 1 : Nat) : Int) := by rw [add64 (by omega) (by omega)]; omega
      have c79 := fun (K : Value → H → Option (Ex × List Value × H)) => calls_eq (K := K) (xs := [v3, iv x]) (s79 (z := x) hs)
      by_cases hn : nodeB g x = true
      · obtain ⟨a, rfl, ha⟩ := nodeB_nat hn
        refine ⟨fun s' hs' => ?_, ?_⟩
        · rw [if_pos hn] at hs'
          cases hs'
          rw [Int.toNat_natCast]
          exact or_lt hI ha
        · rw [if_pos hn]
          unfold f35_l1 rnd
          rw [show AM.gv [.bool false, iv 0, iv s, iv i] 3 = iv i from rfl, show AM.gv [.bool false, iv 0, iv s, iv i] 2 = iv s from rfl, show AM.gv [.bool false, iv 0, iv s, iv i] 1 = iv 0 from rfl, show AM.gv [.bool false, iv 0, iv s, iv i] 0 = .bool false from rfl,
            asI_int, lt_t (by omega), ifB_true, asK_int, getI hs1 hx, asI_int, c79, asB_bool, hn, show (!true) = false from rfl, ifB_false, nn_ge (show (0 : Int) ≤ (a : Int) by omega), asI_int, asI_int, or_calc2 hlen hI ha, hadd]
          rfl
      · refine ⟨fun s' hs' => ?_, ?_⟩
        · rw [if_neg hn] at hs'; cases hs'
        · rw [if_neg hn]
          unfold f35_l1 rnd
          rw [show AM.gv [.bool false, iv 0, iv s, iv i] 3 = iv i from rfl, show AM.gv [.bool false, iv 0, iv s, iv i] 2 = iv s from rfl, show AM.gv [.bool false, iv 0, iv s, iv i] 1 = iv 0 from rfl, show AM.gv [.bool false, iv 0, iv s, iv i] 0 = .bool false from rfl,
            asI_int, lt_t (by omega), ifB_true, asK_int, getI hs1 hx, asI_int, c79, asB_bool, Bool.eq_false_iff.2 hn, show (!false) = true from rfl, ifB_true]
          rfl)
  rcases itL_set (p := nodeB g) (rr := fun i s => [.bool false, iv 0, iv s, iv i]) l 0 0 with ⟨h1, h2⟩ | ⟨h1, j, s', h2⟩
  · rw [h2] at key
    exact .inl ⟨h1, key.1⟩
  · rw [h2] at key
    exact .inr ⟨h1, [iv s', iv j], key⟩

theorem after_calc {g : List Nat} (hg : GrN g) {b x : Nat} (hb : b < 2 ^ g.length) (hx : x < g.length) : AM.andNot .i64 (AM.andNot .i64 (allN g : Int) (b : Int)) (AM.shl .i64 1 (x : Int)) = ((without (without (allN g) b) (2 ^ x) : Nat) : Int) := by
  have h1 := hg.pow
  have h2 : 2 ^ x < 1024 := Nat.lt_of_lt_of_le (Nat.pow_lt_pow_right (by omega) hx) h1
  have h3 : without (allN g) b < 2 ^ 10 := without_le _ _ (allN_lt10 hg)
  have hlen := hg.len
  rw [lf_calc hg (by omega), shl1_nat (by omega)]
  exact andNot_nat (by unfold lf; omega) (by omega)

theorem after_lt {g : List Nat} (hg : GrN g) (b x : Nat) : without (without (allN g) b) (2 ^ x) < 1024 := without_le (n := 10) _ _ (without_le _ _ (allN_lt10 hg))

theorem s35_l2 {v1 v3 : Value} {g : List Nat} {m : List Nat} {ws1 : List Value} {h : H} (hg : GrN g) (hs : SlR h 3 1 v3 (cellsN g)) (hs1 : SlR h 3 1 v1 (cellsN m)) (hl : m.length ≤ 16) (hm : ∀ x ∈ m, x < g.length) (hw : AM.gv ws1 2 = iv (allN g : Nat)) :
    (numR g (allN g) m.length m 0 0 = true ∧ ∃ w, lpGo (f35_l2 rn 40 v1 v3 ws1 m.length) 40 [.bool false, iv 0, iv 0, iv 0] h = some (.exit 2, w, h)) ∨
    (numR g (allN g) m.length m 0 0 = false ∧ ∃ w, lpGo (f35_l2 rn 40 v1 v3 ws1 m.length) 40 [.bool false, iv 0, iv 0, iv 0] h = some (.ret, [.bool false, iv 0] ++ w, h)) := by
  have hlen := hg.len
  have hpow := hg.pow
  have hn1 : ∀ {T : Type} (K : Int → Option T), len v1 K = K (m.length : Int) := fun K => by rw [hs1.len]; simp
  have key := lp_same (F := f35_l2 rn 40 v1 v3 ws1 m.length) (k := 40) (l := m) (fun i (s : Nat) => [.bool false, iv 0, iv s, iv i])
    (fun i x b => if badN g (allN g) m.length i x b = true then .inr ([.bool false, iv 0, iv b, iv i] : List Value) else .inl (b ||| 2 ^ x)) (fun _ s => s < 2 ^ g.length) (fun _ => .ret) (fun r => r) 2 (fun s => [.bool false, iv 0, iv s, iv m.length]) (h := h)
    (ws := [.bool false, iv 0, iv 0, iv 0]) (s0 := 0) rfl (Nat.two_pow_pos _) (by omega) (fun _ => by simp)
    (by
      intro s _
      simp [f35_l2])
    (by
      intro i x b hx hI
      have hi := (List.getElem?_eq_some_iff.1 hx).1
      have hxn := hm x (List.mem_of_getElem? hx)
      have hadd : add .i64 (i : Int) 1 = ((i + 1 : Nat) : Int) := by rw [add64 (by omega) (by omega)]; omega
      have hsub : AM.sub .i64 (m.length : Int) 1 = ((m.length - 1 : Nat) : Int) := by rw [sub64 (by omega) (by omega)]; omega
      have hb10 : b < 1024 := by omega
      have hnb := nb_lt10 hg.toGrB x
      have haf := after_lt hg b x
      have e1 : ∀ (K : Value → Option (Ex × List Value × H)), (six v1 (i : Int) 1 fun b o => ld Tryd.prog h 3 b o K) = K (iv (x : Nat)) := fun K =>
        hs1.ld0 ag3 (by omega) (x := [iv (x : Int)]) (by simp [hx]) rfl K
      have e2 : ∀ (K : Value → Option (Ex × List Value × H)), (six v3 (x : Int) 1 fun b o => ld Tryd.prog h 3 b o K) = K (iv (nb g x : Nat)) := fun K => by
        simp only [d3]; exact getN hs hxn K
      have hnnx : ∀ {T : Type} (y : Option T), nn (x : Int) y = y := fun y => nn_ge (show (0 : Int) ≤ (x : Int) by omega) y
      have hlt0 : AM.lt 0 (i : Int) = decide (0 < i) := by simp [AM.lt]
      have hlt1 : AM.lt (i : Int) ((m.length - 1 : Nat) : Int) = decide (i < m.length - 1) := by simp only [AM.lt, decide_eq_decide]; omega
      have start : f35_l2 rn 40 v1 v3 ws1 m.length [.bool false, iv 0, iv b, iv i] h = if badN g (allN g) m.length i x b = true then some (.ret, [.bool false, iv 0, iv b, iv i], h) else some (.normal, [.bool false, iv 0, iv ((b ||| 2 ^ x : Nat) : Int), iv ((i + 1 : Nat) : Int)], h) := by
        unfold f35_l2
        rw [show AM.gv [.bool false, iv 0, iv b, iv i] 3 = iv i from rfl, show AM.gv [.bool false, iv 0, iv b, iv i] 2 = iv b from rfl, show AM.gv [.bool false, iv 0, iv b, iv i] 1 = iv 0 from rfl, show AM.gv [.bool false, iv 0, iv b, iv i] 0 = .bool false from rfl]
        simp only [asI_int, lt_t (show (i : Int) < (m.length : Int) by omega), ifB_true, asK_int, e1, hw, hnnx, hlt0, hn1, hsub, hlt1, e2, and_calc hnb hb10, after_calc hg hI hxn, and_calc hnb haf, or_calc2 hlen hI hxn, hadd, AM.out]
        unfold badN
        by_cases h1 : 0 < i
        · simp only [h1, decide_true, ifB_true, Bool.true_and]
          by_cases h2 : i < m.length - 1
          · simp only [h2, decide_true, ifB_true, Bool.true_and]
            by_cases h3 : nb g x &&& b = 0
            · simp only [h3, decide_true, ifB_true, Bool.true_or, if_true]
            · simp only [h3, decide_false, ifB_false, Bool.false_or]
              by_cases h4 : nb g x &&& without (without (allN g) b) (2 ^ x) = 0
              · simp only [h4, decide_true, ifB_true, if_true]
              · simp only [h4, decide_false, ifB_false, Bool.false_eq_true, if_false]
          · simp only [h2, decide_false, ifB_false, Bool.false_and, Bool.false_eq_true, if_false]
        · simp only [h1, decide_false, ifB_false, Bool.false_and, Bool.false_eq_true, if_false]
      rw [start]
      by_cases hbad : badN g (allN g) m.length i x b = true
      · refine ⟨fun s' hs' => ?_, ?_⟩
        · rw [if_pos hbad] at hs'; cases hs'
        · rw [if_pos hbad, if_pos hbad]; rfl
      · refine ⟨fun s' hs' => ?_, ?_⟩
        · rw [if_neg hbad] at hs'; cases hs'; exact or_lt hI hxn
        · rw [if_neg hbad, if_neg hbad]; rfl)
  rcases itL_num (g := g) (S := allN g) (len := m.length) (rr := fun i b => [.bool false, iv 0, iv b, iv i]) m 0 0 with ⟨h1, b', h2⟩ | ⟨h1, j, b', h2⟩
  · rw [h2] at key
    exact .inl ⟨h1, _, key.1⟩
  · rw [h2] at key
    exact .inr ⟨h1, [iv b', iv j], key⟩

end Go.AM

end

section

/- EarsNumbers. -/
namespace Go.AM
open Go.Proofs
variable {R : Type}
attribute [local simp] nx_eq nx_new nx_set blk_new blk_set asI_int asK_int asB_bool asP_ptr al_eq bx_eq len_slice onE_exit onE_ret onR_ret Value.cells cell_new cell_set rd_new rd_set off eq lt le ifB gv out ext20 ext21
theorem cellsI_nat {l : List Int} {m : List Nat} (h : l = m.map Int.ofNat) : cellsI l = cellsN m := by rw [h, cellsN_eq]

theorem s35 {v v1 : Value} {g : List Nat} {l : List Int} {h : H} (hg : GrN g) (hval : validG (g.map Int.ofNat) = true) (hs : SlR h 3 1 v (cellsN g)) (hs1 : SlR h 3 1 v1 (cellsI l)) (hl : l.length ≤ 16) :
    rn 35 #[v, v1] h = some (.tuple #[.bool (chkP g l), iv 0], h) := by
  have hlen := hg.len
  have c63 := fun (K : Value → H → Option (Value × H)) => calls_eq (K := K) (xs := [v]) (s63 (l := g.map Int.ofNat) (h := h) (by rw [cellsN_eq]; exact hs))
  rw [if_pos hval] at c63
  have hn1 : ∀ {T : Type} (K : Int → Option T), len v1 K = K (l.length : Int) := fun K => by rw [hs1.len]; simp
  have hn : ∀ {T : Type} (K : Int → Option T), len v K = K (g.length : Int) := fun K => by rw [hs.len]; simp
  have c65 := fun (K : Value → H → Option (Value × H)) => calls_eq (K := K) (xs := [v]) (s65 hg.toGrB hs)
  refine p35 (k := 40) (h1 := h) ?_ rfl (.refl _)
  unfold f35 chkP
  rw [c63, ext20, ext21, asB_bool, show (!true) = false from rfl, ifB_false, hn1]
  rcases s35_l1 hg hs hs1 hl with ⟨hall, hl1⟩ | ⟨hall, w, hl1⟩
  · refine (lp_eq hl1).trans ?_
    rw [onE_exit, if_pos rfl, hall, Bool.true_and]
    obtain ⟨hlm, hmn⟩ := nat_list hall
    have hs1' := hs1
    rw [cellsI_nat hlm] at hs1'
    have hml : (l.map Int.toNat).length = l.length := List.length_map ..
    rw [show AM.gv [.bool false, iv 0, iv (setL (l.map Int.toNat) : Nat), iv l.length] 2 = iv (setL (l.map Int.toNat) : Nat) from rfl]
    rw [hn1, hn, eqN]
    by_cases h1 : l.length = g.length
    · rw [decide_eq_true h1, show (!true) = false from rfl, ifB_false, Bool.true_and, c65, asI_int, asI_int, eqN]
      by_cases h2 : setL (l.map Int.toNat) = allN g
      · rw [decide_eq_true h2, show (!true) = false from rfl, ifB_false, Bool.true_and, hn1]
        by_cases h3 : 2 ≤ l.length
        · rw [show AM.lt (l.length : Int) 2 = false by simp [AM.lt]; omega, ifB_false, decide_eq_true h3, Bool.true_and]
          have hsub : AM.sub .i64 (l.length : Int) 1 = ((l.length - 1 : Nat) : Int) := by rw [sub64 (by omega) (by omega)]; omega
          have g0 : ∀ (i : Nat) (hi : i < l.length) (K : Value → Option (Value × H)), (six v1 (i : Int) 1 fun b o => ld Tryd.prog h 3 b o K) = K (iv ((l.map Int.toNat).getD i 0 : Nat)) := fun i hi K => by
            refine hs1'.ld0 ag3 (by omega) (x := [iv ((l.map Int.toNat).getD i 0 : Nat)]) ?_ rfl K
            rw [Int.toNat_natCast, List.getElem?_map, List.getD_eq_getElem?_getD, List.getElem?_eq_getElem (by omega)]
            rfl
          have g00 := g0 0 (by omega)
          have m0 : (l.map Int.toNat).getD 0 0 < g.length := by
            refine hmn _ ?_
            rw [List.getD_eq_getElem?_getD, List.getElem?_eq_getElem (by omega)]
            exact List.getElem_mem _
          have m1 : (l.map Int.toNat).getD (l.length - 1) 0 < g.length := by
            refine hmn _ ?_
            rw [List.getD_eq_getElem?_getD, List.getElem?_eq_getElem (by omega)]
            exact List.getElem_mem _
          rw [show ((0 : Nat) : Int) = 0 from rfl] at g00
          rw [g00, asI_int, hn1, hsub, g0 _ (by omega), asI_int, calls_eq (xs := [v, iv ((l.map Int.toNat).getD 0 0 : Nat), iv ((l.map Int.toNat).getD (l.length - 1) 0 : Nat)]) (s80 hg.toGrB hs m0 m1), asB_bool]
          unfold endsN
          rw [hml]
          cases adj g ((l.map Int.toNat).getD 0 0) ((l.map Int.toNat).getD (l.length - 1) 0) with
          | false => rfl
          | true =>
            rw [show (!true) = false from rfl, ifB_false, hn1, Bool.true_and]
            have hl2 := s35_l2 (v1 := v1) (v3 := v) (ws1 := [.bool false, iv 0, iv (setL (l.map Int.toNat) : Nat), iv l.length]) hg hs hs1' (by omega) hmn (by rw [h2]; rfl)
            rw [hml] at hl2
            rcases hl2 with ⟨hq, w, hl2⟩ | ⟨hq, w, hl2⟩
            · refine (lp_eq hl2).trans ?_
              rw [onE_exit, if_pos rfl, hq]
            · refine (lp_eq hl2).trans ?_
              rw [onE_ret, onR_ret, hq]
              rfl
        · rw [show AM.lt (l.length : Int) 2 = true by simp [AM.lt]; omega, ifB_true, decide_eq_false h3, Bool.false_and]
      · rw [decide_eq_false h2, show (!false) = true from rfl, ifB_true, Bool.false_and]
    · rw [decide_eq_false h1, show (!false) = true from rfl, ifB_true, Bool.false_and]
  · refine (lp_eq hl1).trans ?_
    rw [onE_ret, onR_ret, hall, Bool.false_and]
    rfl

/-! ### The document's -/
end Go.AM

end

section

/- Slices of slices of numbers. -/
namespace Go.AM
open Go.Proofs
variable {R : Type}
attribute [local simp] nx_eq nx_new nx_set blk_new blk_set asI_int asK_int asB_bool asP_ptr al_eq bx_eq len_slice onE_exit onE_ret onR_ret Value.cells cell_new cell_set rd_new rd_set off eq lt le ifB gv out ext20 ext21
theorem app68 : okApp Tryd.prog 68 22 1 = true := by kernel_rfl

theorem app56 : okApp Tryd.prog 56 102 1 = true := by kernel_rfl

theorem bls68 {x y z} (h : H) : buildSlice Tryd.prog 68 1 [(0, .slice x y z)] h = some (.slice (some ⟨h.nx, 0, none⟩) 1 1, h.new (.row [.slice x y z] 22 true)) := by kernel_rfl

theorem bls56 {x y z} (h : H) : buildSlice Tryd.prog 56 1 [(0, .slice x y z)] h = some (.slice (some ⟨h.nx, 0, none⟩) 1 1, h.new (.row [.slice x y z] 102 true)) := by kernel_rfl

abbrev cellsV (vs : List Value) : List (List Value) := vs.map fun x => [x]

def AllSl (vs : List Value) : Prop := ∀ x ∈ vs, ∃ a n c, x = .slice a n c

/-! ### Slices that came in -/
def LSI (h : H) (vs : List Value) (LL : List (List Int)) : Prop := vs.length = LL.length ∧ ∀ (i : Nat) (x : Value) (m : List Int), vs[i]? = some x → LL[i]? = some m → SlR h 3 1 x (cellsI m)

theorem LSI.keep {h h' : H} {vs : List Value} {LL : List (List Int)} (a : LSI h vs LL) (hn : h.nx ≤ h'.nx) (hb : ∀ b cs o, b < h.nx → h.blk b = some (.row cs 3 o) → h'.blk b = h.blk b) : LSI h' vs LL :=
  ⟨a.1, fun i x m hx hm => (a.2 i x m hx hm).keepB hn fun b hbb => by
    obtain ⟨h1, cs, o, h2⟩ := (a.2 i x m hx hm).blkR hbb
    exact hb b cs o h1 h2⟩

theorem LSI.ext {h h' : H} {vs : List Value} {LL : List (List Int)} (a : LSI h vs LL) (x : Ext h h') : LSI h' vs LL := a.keep x.nx fun b _ _ hb _ => x.blk b hb

theorem LSI.snoc {h : H} {vs : List Value} {LL : List (List Int)} (a : LSI h vs LL) {x : Value} {m : List Int} (hx : SlR h 3 1 x (cellsI m)) : LSI h (vs ++ [x]) (LL ++ [m]) := by
  refine ⟨by simp [a.1], fun i y k hy hk => ?_⟩
  have h1 := a.1
  by_cases hi : i < vs.length
  · rw [List.getElem?_append_left hi] at hy
    rw [List.getElem?_append_left (by omega)] at hk
    exact a.2 i y k hy hk
  · have hi2 := (List.getElem?_eq_some_iff.1 hy).1
    simp at hi2
    have : i = vs.length := by omega
    subst this
    simp at hy
    rw [h1] at hk
    simp at hk
    subst hy hk
    exact hx

theorem s98 {v : Value} {vs : List Value} {LL : List (List Int)} {h : H} (hs : SlR h 22 1 v (cellsV vs)) (hv : AllSl vs) (hl : LSI h vs LL) :
    ∃ v' h' vs', rn 98 #[v] h = some (v', h') ∧ Exw h h' ∧ SlR h' 22 1 v' (cellsV vs') ∧ AllSl vs' ∧ LSI h' vs' ((LL.take 50).map fun m => m.take 16) := by
  have hm := hs.lt62
  rw [List.length_map] at hm
  have hlen := hl.1
  have hn : ∀ {T : Type} (K : Int → Option T), len v K = K (vs.length : Int) := fun K => by rw [hs.len]; simp
  obtain ⟨e, ws', h', hlp, rfl, vs', sv, w, rfl, xg, ha, hvs, hLS⟩ := lp_range (F := f98_l1 rn (vs.length + 1) v vs.length) (k := vs.length + 1) (n := vs.length)
    (fun i ws g => ∃ (vs' : List Value) (sv : Value), ws = [sv, iv i] ∧ Ext h g ∧ AqR h.nx g 22 1 sv (cellsV vs') ∧ AllSl vs' ∧ LSI g vs' ((LL.take (min i 50)).map fun m => m.take 16))
    (fun e ws g => e = .exit 0 ∧ ∃ (vs' : List Value) (sv w : Value), ws = [sv, w] ∧ Ext h g ∧ AqR h.nx g 22 1 sv (cellsV vs') ∧ AllSl vs' ∧ LSI g vs' ((LL.take 50).map fun m => m.take 16))
    (by
      rintro i ws g hi ⟨vs', sv, rfl, xg, ha, hvs, hLS⟩
      have hx := List.getElem?_eq_getElem hi
      generalize hxd : vs[i] = x at hx
      have hmm := List.getElem?_eq_getElem (show i < LL.length by omega)
      generalize hmd : LL[i] = m at hmm
      obtain ⟨p, q, r, rfl⟩ := hv x (List.mem_of_getElem? hx)
      have hadd : add .i64 (i : Int) 1 = ((i + 1 : Nat) : Int) := by rw [add64 (by omega) (by omega)]; omega
      have e1 : ∀ (K : Value → Option (Ex × List Value × H)), (six v (i : Int) 1 fun b o => ld Tryd.prog g 22 b o K) = K (.slice p q r) := fun K =>
        (hs.ext xg).ld0 ag22 (by omega) (x := [.slice p q r]) (by rw [Int.toNat_natCast, List.getElem?_map, hx]; rfl) rfl K
      by_cases h50 : i < 50
      · obtain ⟨v2, h2, e36, x2, hs2⟩ := s36 ((hl.2 i _ m hx hmm).ext xg)
        have c36 := fun (K : Value → H → Option (Ex × List Value × H)) => calls_eq (K := K) (xs := [.slice p q r]) e36
        obtain ⟨p2, q2, r2, rfl⟩ := hs2.isSl
        have ha2 := ha.ext x2.toExt
        have hvl : vs'.length ≤ 50 := by rw [hLS.1, List.length_map, List.length_take]; omega
        obtain ⟨sv', h3, e3, a3, n3, k3, b3, hb3, hb3'⟩ := ha2.push app68 app68 (bls68 (x := p2) (y := q2) (z := r2)) rfl rfl (by rw [List.length_map]; omega) (xg.trans x2.toExt).nx
        have hkeep : ∀ b cs o, b < h2.nx → h2.blk b = some (.row cs 3 o) → h3.blk b = h2.blk b := fun b cs o hb hr => k3 b hb fun e => by
          have := (ha2.blkOf e).2.2
          rw [hr] at this
          cases this
        refine ⟨.normal, [sv', iv ((i + 1 : Nat) : Int)], h3, ?_, .inl ⟨rfl, vs' ++ [.slice p2 q2 r2], sv', rfl, ⟨by have := (xg.trans x2.toExt).nx; omega, fun b hb => ?_⟩, ?_, ?_, ?_⟩⟩
        · unfold f98_l1
          rw [show AM.gv [sv, iv i] 1 = iv i from rfl, show AM.gv [sv, iv i] 0 = sv from rfl, asI_int, lt_t (by omega), ifB_true, asK_int, e1, asI_int, lt_t (by omega), ifB_true, c36, e3, asI_int, hadd]
          rfl
        · rw [k3 b (by have := (xg.trans x2.toExt).nx; omega) (fun e => by have := (ha2.blkOf e).1; omega)]
          exact (xg.trans x2.toExt).blk b hb
        · have : cellsV (vs' ++ [.slice p2 q2 r2]) = cellsV vs' ++ [[.slice p2 q2 r2]] := by simp
          rw [this]; exact a3
        · intro y hy
          rw [List.mem_append, List.mem_singleton] at hy
          rcases hy with hy | rfl
          · exact hvs y hy
          · exact ⟨_, _, _, rfl⟩
        · rw [Nat.min_eq_left (by omega), List.take_add_one, hmm]
          have q1 := ((hLS.ext x2.toExt).keep n3 hkeep).snoc (hs2.keepB n3 fun b hb => by
            obtain ⟨z1, cs, o, z2⟩ := hs2.blkR hb
            exact hkeep b cs o z1 z2)
          rw [Nat.min_eq_left (by omega)] at q1
          simpa using q1
      · refine ⟨.normal, [sv, iv ((i + 1 : Nat) : Int)], g, ?_, .inl ⟨rfl, vs', sv, rfl, xg, ha, hvs, ?_⟩⟩
        · unfold f98_l1
          rw [show AM.gv [sv, iv i] 1 = iv i from rfl, show AM.gv [sv, iv i] 0 = sv from rfl, asI_int, lt_t (by omega), ifB_true, asK_int, e1, asI_int, show AM.lt (i : Int) 50 = false by simp [AM.lt]; omega, ifB_false, asI_int, hadd]
          rfl
        · rw [Nat.min_eq_right (by omega)] at hLS ⊢
          exact hLS)
    (by
      rintro ws g ⟨vs', sv, rfl, xg, ha, hvs, hLS⟩
      refine ⟨.exit 0, [sv, iv vs.length], g, by simp [f98_l1], by simp, rfl, vs', sv, _, rfl, xg, ha, hvs, ?_⟩
      have : LL.take (min vs.length 50) = LL.take 50 := by
        rcases Nat.le_total vs.length 50 with h1 | h1
        · rw [Nat.min_eq_left h1, List.take_of_length_le (by omega), List.take_of_length_le (by omega)]
        · rw [Nat.min_eq_right h1]
      rw [this] at hLS
      exact hLS)
    (ws := [.slice none 0 0, iv 0]) (h := h) (by omega) ⟨[], .slice none 0 0, rfl, .refl _, .nil, (fun x hx => by cases hx), by simp [LSI]⟩
  obtain ⟨h2, e2, m2, w2⟩ := x98 (k := vs.length + 1) (v0 := v) (h := h) (h1 := h') (v := sv) (by
    unfold f98
    rw [hn]
    refine (lp_eq hlp).trans ?_
    rfl) ha.slR.notR
  exact ⟨sv, h2, vs', e2, w2 xg, ha.slR.ext m2.ext, hvs, hLS.ext m2.ext⟩

/-- Slices of numbers as ears: the loop. -/
theorem s55_l {v : Value} {vs : List Value} {h : H} (hs : SlR h 22 1 v (cellsV vs)) (hv : AllSl vs) (hm : vs.length ≤ 1000) : ∃ v' h', lpGo (f55_l1 rn 2000 v vs.length) 2000 [.slice none 0 0, iv 0] h = some (.exit 0, [v', iv vs.length], h') ∧ Ext h h' ∧ AqR h.nx h' 102 1 v' (cellsV vs) := by
  have hn : ∀ {T : Type} (K : Int → Option T), len v K = K (vs.length : Int) := fun K => by rw [hs.len]; simp
  obtain ⟨ws', h', hl, xg, hll, sv', hap', rfl⟩ := lp_for (F := f55_l1 rn 2000 v vs.length) (k := 2000) (l := vs) (fun _ x acc => acc ++ [x])
    (fun i acc ws g => Ext h g ∧ acc = vs.take i ∧ ∃ sv, AqR h.nx g 102 1 sv (cellsV acc) ∧ ws = [sv, iv i]) 0 (ws := [.slice none 0 0, iv 0]) (h := h) (s0 := [])
    ⟨.refl _, rfl, _, .nil, rfl⟩ (by omega)
    (by
      rintro acc ws g ⟨_, _, sv, _, rfl⟩
      simp [f55_l1])
    (by
      rintro i x acc ws g hx ⟨xg, hal, sv, hap, rfl⟩
      have hi := (List.getElem?_eq_some_iff.1 hx).1
      obtain ⟨p, q, r, rfl⟩ := hv x (List.mem_of_getElem? hx)
      have hadd : add .i64 (i : Int) 1 = ((i + 1 : Nat) : Int) := by rw [add64 (by omega) (by omega)]; omega
      have e1 : ∀ (K : Value → Option (Ex × List Value × H)), (six v (i : Int) 1 fun b o => ld Tryd.prog g 22 b o K) = K (.slice p q r) := fun K =>
        (hs.ext xg).ld0 ag22 (by omega) (x := [.slice p q r]) (by rw [Int.toNat_natCast, List.getElem?_map, hx]; rfl) rfl K
      obtain ⟨sv', h2, e2, a2, n2, k2, b2, hb2, hb2'⟩ := hap.push app56 app56 (bls56 (x := p) (y := q) (z := r)) rfl rfl (by rw [List.length_map, hal, List.length_take]; omega) xg.nx
      refine ⟨[sv', iv ((i + 1 : Nat) : Int)], h2, ?_, ⟨by have := xg.nx; omega, fun b hb => ?_⟩, ?_, sv', ?_, rfl⟩
      · unfold f55_l1
        rw [show AM.gv [sv, iv i] 1 = iv i from rfl, show AM.gv [sv, iv i] 0 = sv from rfl, asI_int, lt_t (by omega), ifB_true, asK_int, e1, e2, asI_int, hadd]
        rfl
      · rw [k2 b (by have := xg.nx; omega) (fun e => by have := (hap.blkOf e).1; omega)]
        exact xg.blk b hb
      · rw [hal, List.take_add_one, hx]; rfl
      · have : cellsV (acc ++ [.slice p q r]) = cellsV acc ++ [[.slice p q r]] := by simp
        rw [this]; exact a2)
  rw [hll, List.take_length] at hap'
  exact ⟨sv', h', hl, xg, hap'⟩

theorem s55 {v : Value} {vs : List Value} {LL : List (List Int)} {h : H} (hs : SlR h 22 1 v (cellsV vs)) (hv : AllSl vs) (hl : LSI h vs LL) :
    ∃ v' h' vs', rn 55 #[v] h = some (v', h') ∧ Exw h h' ∧ SlR h' 102 1 v' (cellsV vs') ∧ AllSl vs' ∧ LSI h' vs' ((LL.take 50).map fun m => m.take 16) := by
  obtain ⟨v1, h1, vs1, e98, x1, hs1, hv1, hl1⟩ := s98 hs hv hl
  have hm : vs1.length ≤ 50 := by rw [hl1.1, List.length_map, List.length_take]; omega
  have hn : ∀ {T : Type} (K : Int → Option T), len v1 K = K (vs1.length : Int) := fun K => by rw [hs1.len]; simp
  obtain ⟨v2, h2, hlp, x2, ha⟩ := s55_l hs1 hv1 (by omega)
  obtain ⟨h3, e3, m3, w3⟩ := x55 (k := 2000) (v0 := v) (h := h) (h1 := h2) (v := v2) (by
    unfold f55
    rw [calls_eq (xs := [v]) e98, hn]
    refine (lp_eq hlp).trans ?_
    rfl) ha.slR.notR
  exact ⟨v2, h3, vs1, e3, w3 (x1.toExt.trans x2), ha.slR.ext m3.ext, hv1, (hl1.ext x2).ext m3.ext⟩

end Go.AM

end

section

/- An ear is added: the closure's loop. -/
namespace Go.AM
open Go.Proofs
variable {R : Type}
attribute [local simp] nx_eq nx_new nx_set blk_new blk_set asI_int asK_int asB_bool asP_ptr al_eq bx_eq len_slice onE_exit onE_ret onR_ret Value.cells cell_new cell_set rd_new rd_set off eq lt le ifB gv out ext20 ext21
/-- The edges that no ear has, and the nodes that one has. -/
structure HE (n : Nat) (gl : List Nat) (there bth blf : Nat) (h : H) : Prop where
  th : h.blk bth = some (.row [iv (there : Int)] 3 true)
  lf : ∃ lv, h.blk blf = some (.row [lv] 78 true) ∧ SlR h 3 1 lv (cellsN gl) ∧ blkOf lv ≠ some bth
  gb : GrB gl
  gn : gl.length = n
  tn : there < 2 ^ n
  l1 : bth < h.nx
  l2 : blf < h.nx

def stepE (m : List Nat) (i x : Nat) (s : List Nat × Nat) : List Nat × Nat := (if 0 < i then delE s.1 (nb m (i - 1)) x else s.1, s.2 ||| 2 ^ x)

set_option maxHeartbeats 1000000 in
theorem s86_l {n bth blf : Nat} {v0 : Value} {m gl : List Nat} {there : Nat} {h : H} (hm : ∀ x ∈ m, x < n) (hne : ∀ i, i + 1 < m.length → nb m i ≠ nb m (i + 1)) (hml : m.length ≤ 100) (h0 : SlR h 3 1 v0 (cellsN m)) (h0b : blkOf v0 ≠ some bth)
    (he : HE n gl there bth blf h) :
    ∃ w h', lpGo (f86_l1 rn 200 v0 (pt bth 0) (pt blf 0) m.length) 200 [iv 0] h = some (.exit 0, w, h') ∧ HE n (foldI (stepE m) m 0 (gl, there)).1 (foldI (stepE m) m 0 (gl, there)).2 bth blf h' ∧ h.nx ≤ h'.nx ∧ ∀ b, b < h.nx → b ≠ bth → b ≠ blf → h'.blk b = h.blk b := by
  obtain ⟨w, h', hl, _, he', hnx, hblk⟩ := lp_for (F := f86_l1 rn 200 v0 (pt bth 0) (pt blf 0) m.length) (k := 200) (l := m) (stepE m)
    (fun i s ws g => ws = [iv i] ∧ HE n s.1 s.2 bth blf g ∧ h.nx ≤ g.nx ∧ ∀ b, b < h.nx → b ≠ bth → b ≠ blf → g.blk b = h.blk b) 0 (ws := [iv 0]) (h := h) (s0 := (gl, there))
    ⟨rfl, he, Nat.le_refl _, fun _ _ _ _ => rfl⟩ (by omega)
    (by
      rintro s ws g ⟨rfl, _⟩
      simp [f86_l1])
    (by
      rintro i x ⟨gs, ts⟩ ws g hx ⟨rfl, hg, hnx, hblk⟩
      have hi := (List.getElem?_eq_some_iff.1 hx).1
      have hxn := hm x (List.mem_of_getElem? hx)
      have hadd : add .i64 (i : Int) 1 = ((i + 1 : Nat) : Int) := by rw [add64 (by omega) (by omega)]; omega
      dsimp only at hg
      obtain ⟨lv, l1, l2, l3⟩ := hg.lf
      have hlen := hg.gb.len
      have hgn : gs.length = n := hg.gn
      have hv0 : SlR g 3 1 v0 (cellsN m) := h0.keepB hnx fun b hb => by
        obtain ⟨z1, cs, o, z2⟩ := h0.blkR hb
        refine hblk b z1 (fun e => h0b (by rw [← e]; exact hb)) (fun e => ?_)
        obtain ⟨lv0, z3, _⟩ := he.lf
        rw [← e, z2] at z3
        cases z3
      have e1 : ∀ (K : Value → Option (Ex × List Value × H)), (six v0 (i : Int) 1 fun b o => ld Tryd.prog g 3 b o K) = K (iv (x : Int)) := fun K =>
        hv0.ld0 ag3 (by omega) (x := [iv (x : Int)]) (by simp [hx]) rfl K
      obtain ⟨g2, hg2⟩ : ∃ g2, g2 = g.set bth (.row [iv ((ts ||| 2 ^ x : Nat) : Int)] 3 true) := ⟨_, rfl⟩
      have hw : wrc 1 g bth 0 (.int .i64 ((ts ||| 2 ^ x : Nat) : Int)) = some g2 := by
        rw [hg2]; unfold wrc; rw [hg.th]; rfl
      have n2 : g2.nx = g.nx := by rw [hg2]; rfl
      have hbl : blf ≠ bth := by
        rintro rfl
        rw [hg.th] at l1; cases l1
      have k2 : ∀ b, b ≠ bth → g2.blk b = g.blk b := fun b hb => by rw [hg2]; exact blk_set_ne _ _ _ hb
      have hl2 : SlR g2 3 1 lv (cellsN gs) := l2.keepB (by omega) fun b hb => k2 b (fun e => l3 (by rw [← e]; exact hb))
      have hv2 : SlR g2 3 1 v0 (cellsN m) := hv0.keepB (by omega) fun b hb => k2 b (fun e => h0b (by rw [← e]; exact hb))
      have th2 : g2.blk bth = some (.row [iv ((ts ||| 2 ^ x : Nat) : Int)] 3 true) := by rw [hg2]; exact blk_set_self _ _ _
      have hor := or_calc2 hlen (by rw [hgn]; exact hg.tn) (by rw [hgn]; exact hxn)
      have htlt : ts ||| 2 ^ x < 2 ^ n := Nat.or_lt_two_pow hg.tn (Nat.pow_lt_pow_right (by omega) hxn)
      by_cases hi0 : 0 < i
      · obtain ⟨j, rfl⟩ : ∃ j, i = j + 1 := ⟨i - 1, by omega⟩
        have hsub : AM.sub .i64 ((j + 1 : Nat) : Int) 1 = (j : Int) := by rw [sub64 (by omega) (by omega)]; omega
        have hxe : nb m (j + 1) = x := by
          unfold nb
          rw [List.getD_eq_getElem?_getD, hx]; rfl
        have hjn : nb m j < n := by
          refine hm _ ?_
          unfold nb
          rw [List.getD_eq_getElem?_getD, List.getElem?_eq_getElem (by omega)]
          exact List.getElem_mem _
        have hab : nb m j ≠ x := by rw [← hxe]; exact hne j (by omega)
        obtain ⟨v9, g3, e87, x3, bb, hbb, hia⟩ := s87 (a := nb m j) (b := x) hg.gb (by omega) (by omega) hab hl2
        have e2 : ∀ (K : Value → Option (Ex × List Value × H)), (six v0 (j : Int) 1 fun b o => ld Tryd.prog g2 3 b o K) = K (iv (nb m j : Nat)) := fun K =>
          hv2.ld0 ag3 (by omega) (x := [iv (nb m j : Nat)]) (by rw [Int.toNat_natCast, List.getElem?_map]; unfold nb; rw [List.getD_eq_getElem?_getD, List.getElem?_eq_getElem (show j < m.length by omega)]; rfl) rfl K
        obtain ⟨c9, hv9, _⟩ := hia.val
        have x3n := x3.nx
        obtain ⟨g4, hg4⟩ : ∃ g4, g4 = g3.set blf (.row [v9] 78 true) := ⟨_, rfl⟩
        have hw3 : wrc 1 g3 blf 0 v9 = some g4 := by
          rw [hg4]; unfold wrc
          rw [x3.blk _ (by have := hg.l2; omega), k2 _ hbl, l1, hv9]; rfl
        have k4 : ∀ b, b ≠ blf → g4.blk b = g3.blk b := fun b hb => by rw [hg4]; exact blk_set_ne _ _ _ hb
        have n4 : g4.nx = g3.nx := by rw [hg4]; rfl
        have hbo : ∀ b, blkOf v9 = some b → b = bb := fun b hb => by rw [hv9] at hb; cases hb; rfl
        have hh1 := hg.l1
        have hh2 := hg.l2
        refine ⟨[iv ((j + 1 + 1 : Nat) : Int)], g4, ?_, rfl, ⟨?_, ⟨v9, ?_, ?_, ?_⟩, ?_, ?_, htlt, by omega, by omega⟩, by omega, fun b hb q1 q2 => ?_⟩
        · unfold f86_l1
          rw [show AM.gv [iv ((j + 1 : Nat) : Int)] 0 = iv ((j + 1 : Nat) : Int) from rfl, asI_int, lt_t (by omega), ifB_true, asK_int, e1, asI_int, asP_ptr, asP_ptr, d3, cell_of hg.th, show ([iv (ts : Int)] : List Value)[0]? = some (iv ts) from rfl, Option.bind_some, asI_int,
            nn_ge (show (0 : Int) ≤ (x : Int) by omega), asP_ptr, asP_ptr, hor, w3, hw, Option.bind_some, asI_int, lt_t (by omega), ifB_true, asP_ptr, asP_ptr, d78, cell_of ((k2 _ hbl).trans l1), show ([lv] : List Value)[0]? = some lv from rfl, Option.bind_some, asI_int, hsub, e2, asI_int, kbld32,
            calls_eq (xs := [lv, .agg #[iv (nb m j : Nat), iv x]]) e87, asP_ptr, asP_ptr, w78, hw3, Option.bind_some, asI_int, hadd]
          rfl
        · rw [k4 _ (fun e => hbl e.symm), x3.blk _ (by omega)]; exact th2
        · rw [hg4]; exact blk_set_self _ _ _
        · simp only [stepE, Nat.succ_pos, if_true, Nat.add_sub_cancel]
          exact hia.slN.keepB (by omega) fun b hb => k4 b (by have := hbo b hb; omega)
        · intro e
          have := hbo _ e
          omega
        · simp only [stepE, Nat.succ_pos, if_true, Nat.add_sub_cancel]
          exact hg.gb.delE _ _
        · simp only [stepE, Nat.succ_pos, if_true, Nat.add_sub_cancel]
          rw [delE_len]; exact hgn
        · rw [k4 b q2, x3.blk b (by omega), k2 b q1]
          exact hblk b hb q1 q2
      · have hi00 : i = 0 := by omega
        subst hi00
        refine ⟨[iv ((0 + 1 : Nat) : Int)], g2, ?_, rfl, ⟨th2, ⟨lv, (k2 _ hbl).trans l1, hl2, l3⟩, hg.gb, hgn, htlt, by have := hg.l1; omega, by have := hg.l2; omega⟩, by omega, fun b hb q1 q2 => ?_⟩
        · unfold f86_l1
          rw [show AM.gv [iv ((0 : Nat) : Int)] 0 = iv ((0 : Nat) : Int) from rfl, asI_int, lt_t (by omega), ifB_true, asK_int, e1, asI_int, asP_ptr, asP_ptr, d3, cell_of hg.th, show ([iv (ts : Int)] : List Value)[0]? = some (iv ts) from rfl, Option.bind_some, asI_int,
            nn_ge (show (0 : Int) ≤ (x : Int) by omega), asP_ptr, asP_ptr, hor, w3, hw, Option.bind_some, asI_int, show AM.lt 0 ((0 : Nat) : Int) = false from rfl, ifB_false, asI_int, hadd]
          rfl
        · rw [k2 b q1]
          exact hblk b hb q1 q2)
  exact ⟨w, h', hl, he', hnx, hblk⟩

end Go.AM

end

section

/- An ear is added: the closure. -/
namespace Go.AM
open Go.Proofs
variable {R : Type}
attribute [local simp] nx_eq nx_new nx_set blk_new blk_set asI_int asK_int asB_bool asP_ptr al_eq bx_eq len_slice onE_exit onE_ret onR_ret Value.cells cell_new cell_set rd_new rd_set off eq lt le ifB gv out ext20 ext21
theorem row_ty {a b : List Value} {e e' : TypeId} {o o' : Bool} (h : some (Blk.row a e o) = some (Blk.row b e' o')) : e = e' := by
  injection h with h; injection h

theorem trunc_turned {P : Program} {h h1 : H} {v : Value} {b : Nat} (hb : b < h.nx) (hne : h1.blk b ≠ h.blk b) : Sm h1 (trunc P h h1 v) := by
  unfold trunc
  rw [if_neg (fun hc => hne (hc b hb))]
  exact ⟨rfl, rfl⟩

theorem HE.keep {n : Nat} {gl : List Nat} {there bth blf : Nat} {h h' : H} (a : HE n gl there bth blf h) (hn : h.nx ≤ h'.nx) (h1 : h'.blk bth = h.blk bth) (h2 : h'.blk blf = h.blk blf) (hk : ∀ b cs o, b < h.nx → b ≠ bth → h.blk b = some (.row cs 3 o) → h'.blk b = h.blk b) : HE n gl there bth blf h' := by
  obtain ⟨lv, l1, l2, l3⟩ := a.lf
  refine ⟨h1.trans a.th, ⟨lv, h2.trans l1, l2.keepB hn fun b hb => ?_, l3⟩, a.gb, a.gn, a.tn, Nat.lt_of_lt_of_le a.l1 hn, Nat.lt_of_lt_of_le a.l2 hn⟩
  obtain ⟨z1, cs, o, z2⟩ := l2.blkR hb
  exact hk b cs o z1 (fun e => l3 (by rw [← e]; exact hb)) z2

theorem s86 {n bth blf bou lo : Nat} {p} {q r : Nat} {ov : Value} {m gl : List Nat} {there : Nat} {vs : List Value} {h : H} (hm : ∀ x ∈ m, x < n) (hne : ∀ i, i + 1 < m.length → nb m i ≠ nb m (i + 1)) (hml : m.length ≤ 100) (h0 : SlR h 3 1 (.slice p q r) (cellsN m)) (h0b : blkOf (.slice p q r) ≠ some bth)
    (he : HE n gl there bth blf h) (ho : h.blk bou = some (.row [ov] 56 true)) (hol : bou < h.nx) (hov : AqR lo h 102 1 ov (cellsV vs)) (hlo : lo ≤ h.nx) (hvl : vs.length ≤ 1000) :
    ∃ h' ov', rn 86 #[.slice p q r, pt bth 0, pt blf 0, pt bou 0] h = some (undef, h') ∧ HE n (foldI (stepE m) m 0 (gl, there)).1 (foldI (stepE m) m 0 (gl, there)).2 bth blf h' ∧ h'.blk bou = some (.row [ov'] 56 true) ∧ AqR lo h' 102 1 ov' (cellsV (vs ++ [.slice p q r])) ∧
      h.nx ≤ h'.nx ∧ ∀ b, b < h.nx → b ≠ bth → b ≠ blf → b ≠ bou → blkOf ov ≠ some b → h'.blk b = h.blk b := by
  have hn0 : ∀ {T : Type} (K : Int → Option T), len (.slice p q r) K = K (m.length : Int) := fun K => by rw [h0.len]; simp
  obtain ⟨w, h1, hl, he1, n1, k1⟩ := s86_l hm hne hml h0 h0b he
  obtain ⟨lv, lv1, _⟩ := he.lf
  have o1 : bou ≠ bth := by rintro rfl; rw [he.th] at ho; cases ho
  have o2 : bou ≠ blf := by rintro rfl; rw [lv1] at ho; cases ho
  have ho1 : h1.blk bou = some (.row [ov] 56 true) := (k1 _ hol o1 o2).trans ho
  have hov1 : AqR lo h1 102 1 ov (cellsV vs) := hov.keep n1 fun b hb => by
    obtain ⟨_, z1, z2⟩ := hov.blkOf hb
    refine k1 b z1 ?_ ?_ <;> rintro rfl
    · rw [he.th] at z2; exact absurd (row_ty z2) (by decide)
    · rw [lv1] at z2; exact absurd (row_ty z2) (by decide)
  obtain ⟨ov', h2, e2, a2, n2, k2, b', hb', hbn⟩ := hov1.push app56 app56 (bls56 (x := p) (y := q) (z := r)) rfl rfl (by rw [List.length_map]; omega) (by omega)
  have hoo : blkOf ov ≠ some bou := fun e => by
    have := (hov.blkOf e).2.2
    rw [ho] at this; exact absurd (row_ty this) (by decide)
  have ho2 : h2.blk bou = some (.row [ov] 56 true) := (k2 _ (by omega) hoo).trans ho1
  obtain ⟨h3, hh3⟩ : ∃ h3, h3 = h2.set bou (.row [ov'] 56 true) := ⟨_, rfl⟩
  have hcells := a2.cells
  have hw : wrc 1 h2 bou 0 ov' = some h3 := by
    rw [hh3]; obtain ⟨x, y, z, rfl⟩ := a2.isSl
    unfold wrc; rw [ho2]; rfl
  have k3 : ∀ b, b ≠ bou → h3.blk b = h2.blk b := fun b hb => by rw [hh3]; exact blk_set_ne _ _ _ hb
  have n3 : h3.nx = h2.nx := by rw [hh3]; rfl
  have ho3 : h3.blk bou = some (.row [ov'] 56 true) := by rw [hh3]; exact blk_set_self _ _ _
  have e86 := t86 (k := 200) (v0 := .slice p q r) (v1 := pt bth 0) (v2 := pt blf 0) (v3 := pt bou 0) (h := h) (h1 := h3) (v := undef) (by
    unfold f86
    rw [hn0]
    refine (lp_eq hl).trans ?_
    rw [onE_exit, if_pos rfl, asP_ptr, show ld Tryd.prog h1 56 bou 0 = fun (K : Value → Option (Value × H)) => (h1.cell bou 0).bind K from funext fun K => d56, cell_of ho1]
    simp only [Option.bind_some, List.getElem?_cons_zero]
    rw [e2, asP_ptr, w56, hw]
    rfl)
  have sm := trunc_turned (P := Tryd.prog) (v := undef) hol (h1 := h3) (h := h) (by
    rw [ho3, ho]
    intro e
    cases e
    have := (hov1.blkOf hb').2.1
    omega)
  have m1 := he1.l1
  have m2 := he1.l2
  have hkk : ∀ b, b < h1.nx → blkOf ov ≠ some b → b ≠ bou → h3.blk b = h1.blk b := fun b hb q1 q2 => by rw [k3 b q2, k2 b hb q1]
  have he3 := he1.keep (h' := h3) (by omega) (hkk _ m1 (fun e => by have := (hov1.blkOf e).2.2; rw [he1.th] at this; exact absurd (row_ty this) (by decide)) (fun e => o1 e.symm))
    (hkk _ m2 (fun e => by have := (hov1.blkOf e).2.2; obtain ⟨lv', q1, _⟩ := he1.lf; rw [q1] at this; exact absurd (row_ty this) (by decide)) (fun e => o2 e.symm))
    (fun b cs o z1 z2 z3 => hkk b z1 (fun e => by have := (hov1.blkOf e).2.2; rw [z3] at this; cases this) (fun e => by rw [e, ho1] at z3; cases z3))
  refine ⟨_, ov', e86, he3.keep (by rw [sm.nx]; exact Nat.le_refl _) (by rw [sm.blk]) (by rw [sm.blk]) (fun b _ _ _ _ _ => by rw [sm.blk]), by rw [sm.blk]; exact ho3, ?_, by rw [sm.nx]; omega, fun b hb q1 q2 q3 q4 => ?_⟩
  · have : cellsV (vs ++ [.slice p q r]) = cellsV vs ++ [[.slice p q r]] := by simp
    rw [this]
    refine (a2.keep (h' := h3) (by omega) fun b hb => k3 b ?_).ext sm.ext
    rintro rfl
    have := (a2.blkOf hb).2.2
    rw [ho2] at this; exact absurd (row_ty this) (by decide)
  · rw [sm.blk, hkk b (by omega) q4 q3, k1 b hb q1 q2]

end Go.AM

end

section

/- Ears, plainly: edges taken out along a way, how many they are, and what ears leave. -/
namespace Go.AM
open Go.Proofs
/-- A graph without the edges along a list. -/
def delP (gl : List Nat) : List Nat → List Nat
  | [] => gl
  | [_] => gl
  | a :: b :: m => delP (delE gl a b) (b :: m)

/-- Two nodes stand beside each other in a list. -/
def onP : List Nat → Nat → Nat → Prop
  | [], _, _ => False
  | [_], _, _ => False
  | a :: b :: m, x, y => (x = a ∧ y = b) ∨ (x = b ∧ y = a) ∨ onP (b :: m) x y

/-- A list walks along edges, each taken out once it was used. -/
def Tra (gl : List Nat) : List Nat → Prop
  | [] => True
  | [_] => True
  | a :: b :: m => adj gl a b = true ∧ Tra (delE gl a b) (b :: m)

/-- A list walks along edges. -/
def Ch (gl : List Nat) : List Nat → Prop
  | [] => True
  | [_] => True
  | a :: b :: m => adj gl a b = true ∧ Ch gl (b :: m)

theorem delP_len : ∀ (m gl : List Nat), (delP gl m).length = gl.length
  | [], _ => rfl
  | [_], _ => rfl
  | a :: b :: m, gl => by rw [delP, delP_len (b :: m), delE_len]

theorem setOf_cons (x : Nat) (l : List Nat) : setOf (x :: l) = setOf l ||| 2 ^ x := rfl

theorem fold_stepE {M : List Nat} : ∀ (m pre : List Nat) (g : List Nat) (t x : Nat), M = pre ++ x :: m →
    foldI (stepE M) m (pre.length + 1) (g, t) = (delP g (x :: m), t ||| setOf m) := by
  intro m
  induction m with
  | nil => intro pre g t x _; simp [foldI, delP, setOf]
  | cons y m ih =>
    intro pre g t x hM
    have hx : nb M (pre.length + 1 - 1) = x := by
      rw [hM, Nat.add_sub_cancel]; unfold nb
      rw [List.getD_eq_getElem?_getD, List.getElem?_append_right (Nat.le_refl _), Nat.sub_self]; rfl
    have h2 := ih (pre ++ [x]) (delE g x y) (t ||| 2 ^ y) y (by rw [hM]; simp)
    rw [List.length_append, List.length_singleton] at h2
    rw [foldI, stepE, if_pos (Nat.succ_pos _), hx, h2, delP, setOf_cons, Nat.or_assoc, Nat.or_comm (2 ^ y)]

theorem fold_ear {m gl : List Nat} {there : Nat} : foldI (stepE m) m 0 (gl, there) = (delP gl m, there ||| setOf m) := by
  cases m with
  | nil => simp [foldI, delP, setOf]
  | cons x m =>
    rw [foldI, stepE, if_neg (by omega)]
    have := fold_stepE (M := x :: m) m [] gl (there ||| 2 ^ x) x rfl
    rw [List.length_nil] at this
    rw [this, setOf_cons, Nat.or_assoc, Nat.or_comm (2 ^ x)]

theorem GrN.delE {g : List Nat} (hg : GrN g) {a b : Nat} (hab : adj g a b = true) : GrN (delE g a b) := by
  obtain ⟨ha, hb⟩ := hg.adj_lt hab
  have hne : a ≠ b := by rintro rfl; rw [hg.irr] at hab; cases hab
  refine ⟨hg.toGrB.delE a b, by rw [delE_len]; exact hg.pos, fun x => ?_, fun x y => ?_⟩
  · rw [adj_delE ha hb hne, hg.irr]; rfl
  · rw [adj_delE ha hb hne, adj_delE ha hb hne, hg.sym x y]
    congr 2
    rw [Bool.or_comm]
    congr 1 <;> exact decide_eq_decide.2 ⟨fun h => ⟨h.2, h.1⟩, fun h => ⟨h.2, h.1⟩⟩

theorem GrN.delP : ∀ (m : List Nat) {g : List Nat}, GrN g → Tra g m → GrN (delP g m)
  | [], _, hg, _ => hg
  | [_], _, hg, _ => hg
  | _ :: b :: m, _, hg, ht => GrN.delP (b :: m) (hg.delE ht.1) ht.2

theorem adj_delP : ∀ (m : List Nat) {g : List Nat}, GrN g → Tra g m → ∀ x y, adj (delP g m) x y = true ↔ adj g x y = true ∧ ¬ onP m x y
  | [], _, _, _ => fun x y => by simp [delP, onP]
  | [_], _, _, _ => fun x y => by simp [delP, onP]
  | a :: b :: m, g, hg, ht => fun x y => by
    obtain ⟨ha, hb⟩ := hg.adj_lt ht.1
    have hne : a ≠ b := by rintro rfl; have := ht.1; rw [hg.irr] at this; cases this
    rw [delP, adj_delP (b :: m) (hg.delE ht.1) ht.2, adj_delE ha hb hne, onP, Bool.and_eq_true, Bool.not_eq_true', Bool.or_eq_false_iff, decide_eq_false_iff_not, decide_eq_false_iff_not]
    constructor
    · rintro ⟨⟨h1, h2, h3⟩, h4⟩
      exact ⟨h1, fun h => h.elim h2 fun h => h.elim h3 h4⟩
    · rintro ⟨h1, h2⟩
      exact ⟨⟨h1, fun h => h2 (.inl h), fun h => h2 (.inr (.inl h))⟩, fun h => h2 (.inr (.inr h))⟩

theorem onP_mem : ∀ (m : List Nat) {x y : Nat}, onP m x y → x ∈ m ∧ y ∈ m
  | [], _, _ => fun h => h.elim
  | [_], _, _ => fun h => h.elim
  | a :: b :: m, x, y => fun h => by
    rcases h with ⟨rfl, rfl⟩ | ⟨rfl, rfl⟩ | h
    · simp
    · simp
    · obtain ⟨h1, h2⟩ := onP_mem (b :: m) h
      exact ⟨List.mem_cons_of_mem _ h1, List.mem_cons_of_mem _ h2⟩

/-- Edges that are told twice: once from each end. -/
def dsum (g : List Nat) : Nat := (g.map pop).sum

theorem sum_set : ∀ (l : List Nat) (i x : Nat), i < l.length → ((l.set i x).map pop).sum + pop (nb l i) = (l.map pop).sum + pop x
  | [], i, x => fun h => by simp at h
  | y :: l, 0, x => fun _ => by simp [nb]; omega
  | y :: l, i + 1, x => fun h => by
    have := sum_set l i x (by simpa using h)
    have e : nb (y :: l) (i + 1) = nb l i := rfl
    simp only [List.set_cons_succ, List.map_cons, List.sum_cons, e]
    omega

theorem pop_take {S b : Nat} (hS : S < 1024) (h : S.testBit b = true) : pop (without S (2 ^ b)) + 1 = pop S := by
  have hp : (elts S).filter (fun i => decide (i = b)) = [b] := by
    have hm : b ∈ elts S := (mem_elts hS).2 h
    have hnd := elts_nodup S
    generalize elts S = l at hm hnd
    induction l with
    | nil => cases hm
    | cons x l ih =>
      rw [List.nodup_cons] at hnd
      rw [List.mem_cons] at hm
      rw [List.filter_cons]
      by_cases hx : x = b
      · subst hx
        rw [if_pos (by simp)]
        congr 1
        rw [List.filter_eq_nil_iff]
        intro y hy
        simp only [decide_eq_true_eq]
        rintro rfl
        exact hnd.1 hy
      · rw [if_neg (by simpa using hx)]
        exact ih (hm.resolve_left fun e => hx e.symm) hnd.2
  have h1 : pop S = (elts S).countP (fun i => decide (i = b)) + (elts S).countP (fun i => !decide (i = b)) := by
    rw [← elts_len, List.length_eq_countP_add_countP (fun i => decide (i = b))]
    congr 1
    exact List.countP_congr fun i _ => by simp
  have h2 : pop (without S (2 ^ b)) = (elts S).countP (fun i => !decide (i = b)) := by
    unfold pop elts
    rw [List.countP_filter]
    refine List.countP_congr fun i _ => ?_
    rw [bit_del]
    simp [and_comm]
  rw [h1, h2, List.countP_eq_length_filter (p := fun i => decide (i = b)), hp]
  simp; omega

theorem dsum_delE {g : List Nat} (hg : GrN g) {a b : Nat} (hab : adj g a b = true) : dsum (delE g a b) + 2 = dsum g := by
  obtain ⟨ha, hb⟩ := hg.adj_lt hab
  have hne : a ≠ b := by rintro rfl; rw [hg.irr] at hab; cases hab
  have hpow := hg.pow
  have h1 := sum_set g a (without (nb g a) (2 ^ b)) ha
  have h2 := sum_set (g.set a (without (nb g a) (2 ^ b))) b (without (nb g b) (2 ^ a)) (by simpa using hb)
  have e : nb (g.set a (without (nb g a) (2 ^ b))) b = nb g b := by rw [nb_set ha, if_neg (fun e => hne e.symm)]
  have p1 := pop_take (S := nb g a) (b := b) (Nat.lt_of_lt_of_le (hg.nb_lt a) hpow) hab
  have p2 := pop_take (S := nb g b) (b := a) (Nat.lt_of_lt_of_le (hg.nb_lt b) hpow) (by have := hg.sym a b; rw [hab] at this; exact this.symm)
  rw [e] at h2
  unfold dsum AM.delE
  omega

theorem dsum_delP : ∀ (m : List Nat) {g : List Nat}, GrN g → Tra g m → m ≠ [] → dsum (delP g m) + 2 * (m.length - 1) = dsum g
  | [], _, _, _ => fun h => absurd rfl h
  | [_], _, _, _ => fun _ => by simp [delP]
  | a :: b :: m, g, hg, ht => fun _ => by
    have := dsum_delP (b :: m) (hg.delE ht.1) ht.2 (by simp)
    have h2 := dsum_delE hg ht.1
    rw [delP]
    simp only [List.length_cons] at this ⊢
    omega

theorem dsum_zero {g : List Nat} (hg : GrN g) : dsum g = 0 ↔ edgesP g = [] := by
  constructor
  · intro h
    rw [List.eq_nil_iff_forall_not_mem]
    intro e he
    obtain ⟨h1, h2, h3⟩ := mem_edges.1 he
    have := dsum_delE hg h3
    omega
  · intro h
    unfold dsum
    have hz : ∀ l : List Nat, (∀ x ∈ l, x = 0) → l.sum = 0 := by
      intro l
      induction l with
      | nil => intro _; rfl
      | cons y l ih => intro hl; rw [List.sum_cons, hl y List.mem_cons_self, ih fun x hx => hl x (List.mem_cons_of_mem _ hx)]
    refine hz _ fun x hx => ?_
    obtain ⟨y, hy, rfl⟩ := List.mem_map.1 hx
    obtain ⟨i, hi, rfl⟩ := List.mem_iff_getElem.1 hy
    refine Classical.byContradiction fun hc => ?_
    have hp : 0 < pop g[i] := Nat.pos_of_ne_zero hc
    obtain ⟨j, _, hj⟩ := List.countP_pos_iff.1 hp
    have hij : adj g i j = true := by
      unfold adj nb; rw [List.getD_eq_getElem?_getD, List.getElem?_eq_getElem hi]; exact hj
    obtain ⟨_, hjl⟩ := hg.adj_lt hij
    have hne : i ≠ j := by rintro rfl; rw [hg.irr] at hij; cases hij
    have : ∃ e, e ∈ edgesP g := by
      rcases Nat.lt_or_ge i j with h | h
      · exact ⟨(i, j), mem_edges.2 ⟨h, hjl, hij⟩⟩
      · exact ⟨(j, i), mem_edges.2 ⟨by omega, hi, by have := hg.sym i j; rw [hij] at this; exact this.symm⟩⟩
    obtain ⟨e, he⟩ := this
    rw [h] at he; cases he

/-- A walk without a node twice uses no edge twice. -/
theorem tr_of : ∀ (m : List Nat) {g : List Nat}, GrN g → Ch g m → m.Nodup → Tra g m
  | [], _, _, _ => fun _ => trivial
  | [_], _, _, _ => fun _ => trivial
  | a :: b :: m, g, hg, hc => fun hn => by
    refine ⟨hc.1, tr_of (b :: m) (hg.delE hc.1) ?_ (List.nodup_cons.1 hn).2⟩
    obtain ⟨ha, hb⟩ := hg.adj_lt hc.1
    have hne : a ≠ b := by rintro rfl; have := hc.1; rw [hg.irr] at this; cases this
    have : ∀ (l : List Nat), a ∉ l → Ch g l → Ch (delE g a b) l := by
      intro l
      induction l with
      | nil => intro _ _; trivial
      | cons x l ih =>
        intro hm hl
        cases l with
        | nil => trivial
        | cons y l =>
          refine ⟨?_, ih (fun h => hm (List.mem_cons_of_mem _ h)) hl.2⟩
          rw [adj_delE ha hb hne, hl.1, Bool.true_and, Bool.not_eq_true', Bool.or_eq_false_iff, decide_eq_false_iff_not, decide_eq_false_iff_not]
          exact ⟨fun e => hm (by rw [e.1]; exact List.mem_cons_self), fun e => hm (by rw [e.2]; simp)⟩
    exact this _ (List.nodup_cons.1 hn).1 hc.2

theorem Tra.ch : ∀ (m : List Nat) {g : List Nat}, GrN g → Tra g m → Ch g m
  | [], _, _, _ => trivial
  | [_], _, _, _ => trivial
  | a :: b :: m, g, hg, ht => by
    refine ⟨ht.1, ?_⟩
    have h1 := Tra.ch (b :: m) (hg.delE ht.1) ht.2
    obtain ⟨ha, hb⟩ := hg.adj_lt ht.1
    have hne : a ≠ b := by rintro rfl; have := ht.1; rw [hg.irr] at this; cases this
    have : ∀ (l : List Nat), Ch (delE g a b) l → Ch g l := by
      intro l
      induction l with
      | nil => intro _; trivial
      | cons x l ih =>
        intro hl
        cases l with
        | nil => trivial
        | cons y l =>
          refine ⟨?_, ih hl.2⟩
          have := hl.1
          rw [adj_delE ha hb hne, Bool.and_eq_true] at this
          exact this.1
    exact this _ h1

theorem ch_of {g : List Nat} : ∀ (m : List Nat), (∀ i, i + 1 < m.length → adj g (nb m i) (nb m (i + 1)) = true) → Ch g m
  | [], _ => trivial
  | [_], _ => trivial
  | a :: b :: m, h => ⟨h 0 (by simp), ch_of (b :: m) fun i hi => h (i + 1) (by simpa using hi)⟩

theorem ch_get {g : List Nat} : ∀ (m : List Nat), Ch g m → ∀ i, i + 1 < m.length → adj g (nb m i) (nb m (i + 1)) = true
  | [], _, i, hi => by simp at hi
  | [_], _, i, hi => by simp at hi
  | a :: b :: m, h, 0, _ => h.1
  | a :: b :: m, h, i + 1, hi => ch_get (b :: m) h.2 i (by simpa using hi)

theorem nb_rev {l : List Nat} {i : Nat} (hi : i < l.length) : nb l.reverse i = nb l (l.length - 1 - i) := by
  unfold nb
  rw [List.getD_eq_getElem?_getD, List.getD_eq_getElem?_getD, List.getElem?_reverse hi]

theorem WayB.ch {g : List Nat} {a W to : Nat} {l : List Nat} (w : WayB g a W to l) : Ch g l.reverse := by
  refine ch_of _ fun i hi => ?_
  rw [List.length_reverse] at hi
  rw [nb_rev (by omega), nb_rev hi]
  have := w.chain (l.length - 1 - (i + 1)) (by omega)
  rw [show l.length - 1 - (i + 1) + 1 = l.length - 1 - i by omega] at this
  exact this

end Go.AM

end

section

/- Ears, plainly: what a list of ears is, what it leaves, and that one more can be found. -/
namespace Go.AM
open Go.Proofs
/-- The first ear: a cycle. -/
structure Ear1 (g m : List Nat) : Prop where
  len : 4 ≤ m.length
  ends : m.head? = m.getLast?
  nodup : m.dropLast.Nodup
  tr : Tra g m
  lt : ∀ x ∈ m, x < g.length

/-- A further ear: from what is there, through what is not, to what is there. -/
structure Ear2 (n : Nat) (left : List Nat) (there : Nat) (m : List Nat) : Prop where
  len : 2 ≤ m.length
  nodup : m.Nodup
  tr : Tra left m
  bits : ∀ i, i < m.length → (there.testBit (nb m i) = true ↔ i = 0 ∨ i + 1 = m.length)
  lt : ∀ x ∈ m, x < n

/-- Ears, one after the other: the edges that they leave and the nodes that they have. -/
inductive EL (g : List Nat) : List (List Nat) → List Nat → Nat → Prop
  | first {m : List Nat} : Ear1 g m → EL g [m] (delP g m) (setOf m)
  | next {es : List (List Nat)} {left : List Nat} {there : Nat} {m : List Nat} : EL g es left there → Ear2 g.length left there m → EL g (es ++ [m]) (delP left m) (there ||| setOf m)

theorem pop_put {S x : Nat} (hS : S < 1024) (hx : x < 10) (h : S.testBit x = false) : pop (S ||| 2 ^ x) = pop S + 1 := by
  have h1 : S ||| 2 ^ x < 1024 := Nat.or_lt_two_pow (n := 10) hS (Nat.pow_lt_pow_right (by omega) hx)
  have h2 := pop_take (S := S ||| 2 ^ x) (b := x) h1 (by rw [Nat.testBit_or, Nat.testBit_two_pow_self, Bool.or_true])
  have h3 : without (S ||| 2 ^ x) (2 ^ x) = S := by
    refine Nat.eq_of_testBit_eq fun i => ?_
    rw [Bool.eq_iff_iff, bit_del, Nat.testBit_or, Nat.testBit_two_pow, Bool.or_eq_true, decide_eq_true_iff]
    constructor
    · rintro ⟨h1 | h1, h2⟩
      · exact h1
      · exact absurd h1.symm h2
    · intro h1
      exact ⟨.inl h1, fun e => by rw [e, h] at h1; cases h1⟩
  rw [h3] at h2
  exact h2.symm

theorem pop_orL {t : Nat} (ht : t < 1024) : ∀ m : List Nat, m.Nodup → (∀ x ∈ m, x < 10) → pop (t ||| setOf m) = pop t + m.countP fun v => !t.testBit v
  | [], _, _ => by simp [setOf]
  | x :: m, hn, hl => by
    rw [List.nodup_cons] at hn
    have ih := pop_orL ht m hn.2 fun y hy => hl y (List.mem_cons_of_mem _ hy)
    have hx := hl x List.mem_cons_self
    have hlt : t ||| setOf m < 1024 := Nat.or_lt_two_pow (n := 10) ht (setOf_lt fun y hy => hl y (List.mem_cons_of_mem _ hy))
    rw [setOf_cons, ← Nat.or_assoc, List.countP_cons]
    cases hb : t.testBit x with
    | true =>
      have : t ||| setOf m ||| 2 ^ x = t ||| setOf m := by
        refine Nat.eq_of_testBit_eq fun i => ?_
        rw [Nat.testBit_or, Nat.testBit_two_pow, Bool.eq_iff_iff, Bool.or_eq_true, decide_eq_true_iff]
        refine ⟨fun h => h.elim id ?_, .inl⟩
        rintro rfl
        rw [Nat.testBit_or, hb]; rfl
      rw [this, ih]; simp
    | false =>
      rw [pop_put hlt hx (by
        rw [Nat.testBit_or, hb, Bool.false_or]
        exact Bool.eq_false_iff.2 fun h => hn.1 (setOf_bit.1 h)), ih]
      simp; omega

theorem pop_setOf {m : List Nat} (hn : m.Nodup) (hl : ∀ x ∈ m, x < 10) : pop (setOf m) = m.length := by
  have := pop_orL (t := 0) (by omega) m hn hl
  rw [Nat.zero_or] at this
  rw [this]
  have h0 : pop 0 = 0 := by decide
  rw [h0, List.countP_eq_length.2 (by simp)]
  omega

theorem snoc_of {m : List Nat} (h : m ≠ []) : ∃ p z, m = p ++ [z] := ⟨m.dropLast, m.getLast h, (List.dropLast_concat_getLast h).symm⟩

theorem nb_snoc (p : List Nat) (z : Nat) : nb (p ++ [z]) p.length = z := by
  unfold nb; rw [List.getD_eq_getElem?_getD, List.getElem?_append_right (Nat.le_refl _), Nat.sub_self]; rfl

theorem nb_app {p q : List Nat} {i : Nat} (h : i < p.length) : nb (p ++ q) i = nb p i := by
  unfold nb; rw [List.getD_eq_getElem?_getD, List.getD_eq_getElem?_getD, List.getElem?_append_left h]

theorem nb_mem {m : List Nat} {i : Nat} (h : i < m.length) : nb m i ∈ m := by
  unfold nb; rw [List.getD_eq_getElem?_getD, List.getElem?_eq_getElem h]; exact List.getElem_mem h

theorem mem_nb {m : List Nat} {x : Nat} (h : x ∈ m) : ∃ i, i < m.length ∧ nb m i = x := by
  obtain ⟨i, hi, rfl⟩ := List.mem_iff_getElem.1 h
  exact ⟨i, hi, by unfold nb; rw [List.getD_eq_getElem?_getD, List.getElem?_eq_getElem hi]; rfl⟩

theorem nodup_rev {l : List Nat} : l.reverse.Nodup ↔ l.Nodup := (List.reverse_perm l).nodup_iff

/-- A further ear has its two ends among what is there, and no more. -/
theorem Ear2.count {n : Nat} {left : List Nat} {there : Nat} {m : List Nat} (e : Ear2 n left there m) : m.countP (fun v => !there.testBit v) + 2 = m.length := by
  have hl := e.len
  cases m with
  | nil => simp at hl
  | cons a m =>
    cases m with
    | nil => simp at hl
    | cons b m =>
      obtain ⟨p, z, hp⟩ := snoc_of (m := b :: m) (by simp)
      rw [hp] at e ⊢
      have ha := (e.bits 0 (by simp)).2 (.inl rfl)
      have hz := (e.bits (p.length + 1) (by simp)).2 (.inr (by simp))
      have ha' : there.testBit a = true := ha
      have hz' : there.testBit z = true := by
        have : nb (a :: (p ++ [z])) (p.length + 1) = nb (p ++ [z]) p.length := rfl
        rw [this, nb_snoc] at hz
        exact hz
      have hmid : p.countP (fun v => !there.testBit v) = p.length := by
        rw [List.countP_eq_length]
        intro x hx
        obtain ⟨i, hi, rfl⟩ := mem_nb hx
        have h1 := e.bits (i + 1) (by simp; omega)
        have : nb (a :: (p ++ [z])) (i + 1) = nb p i := nb_app hi
        rw [this] at h1
        rw [Bool.not_eq_true']
        exact Bool.eq_false_iff.2 fun h => by
          have := h1.1 h
          simp at this
          omega
      rw [List.countP_cons, List.countP_append, hmid, List.countP_cons, ha', hz']
      simp

structure EI (g : List Nat) (k : Nat) (left : List Nat) (there : Nat) : Prop where
  gr : GrN left
  len : left.length = g.length
  sub : ∀ x y, adj left x y = true → adj g x y = true
  used : ∀ x y, adj g x y = true → adj left x y = true ∨ (there.testBit x = true ∧ there.testBit y = true)
  tn : there < 2 ^ g.length
  two : 2 ≤ pop there
  sum : dsum left + 2 * (pop there + k) = dsum g + 2

theorem Ear1.snoc {g m : List Nat} (e : Ear1 g m) : ∃ a p, m = a :: (p ++ [a]) ∧ (a :: p).Nodup ∧ 2 ≤ p.length := by
  have hl := e.len
  have hh := e.ends
  have hn := e.nodup
  cases m with
  | nil => simp at hl
  | cons a m =>
    obtain ⟨p, z, rfl⟩ := snoc_of (m := m) (by rintro rfl; simp at hl)
    rw [List.head?_cons, ← List.cons_append, List.getLast?_concat, Option.some.injEq] at hh
    rw [← List.cons_append, List.dropLast_concat] at hn
    subst hh
    refine ⟨a, p, rfl, hn, ?_⟩
    simp at hl
    omega

theorem EL.inv {g : List Nat} (hg : GrN g) {es : List (List Nat)} {left : List Nat} {there : Nat} (h : EL g es left there) : EI g es.length left there := by
  have hpow := hg.pow
  have hlen := hg.len
  induction h with
  | @first m e =>
    obtain ⟨a, p, rfl, hn, hp⟩ := e.snoc
    have hset : setOf (a :: (p ++ [a])) = setOf (a :: p) := Nat.eq_of_testBit_eq fun i => by
      rw [Bool.eq_iff_iff, setOf_bit, setOf_bit]
      simp only [List.mem_cons, List.mem_append, List.not_mem_nil, or_false]
      exact ⟨fun h => h.elim .inl fun h => h.elim .inr .inl, fun h => h.elim .inl fun h => .inr (.inl h)⟩
    have hpop : pop (setOf (a :: (p ++ [a]))) = p.length + 1 := by
      rw [hset, pop_setOf hn fun x hx => Nat.lt_of_lt_of_le (e.lt x (by rw [← List.cons_append]; exact List.mem_append_left _ hx)) hlen]
      rfl
    have hd := dsum_delP _ hg e.tr (by simp)
    refine ⟨hg.delP _ e.tr, delP_len _ _, fun x y h => ((adj_delP _ hg e.tr x y).1 h).1, fun x y h => ?_, setOf_lt e.lt, by omega, ?_⟩
    · by_cases ho : onP (a :: (p ++ [a])) x y
      · obtain ⟨h1, h2⟩ := onP_mem _ ho
        exact .inr ⟨setOf_bit.2 h1, setOf_bit.2 h2⟩
      · exact .inl ((adj_delP _ hg e.tr x y).2 ⟨h, ho⟩)
    · rw [hpop]
      simp only [List.length_cons, List.length_append, List.length_nil] at hd ⊢
      omega
  | @next es left there m hEL e ih =>
    have hd := dsum_delP _ ih.gr e.tr (by have := e.len; rintro rfl; simp at this)
    have hc := e.count
    have hpop := pop_orL (t := there) (Nat.lt_of_lt_of_le ih.tn hpow) m e.nodup fun x hx => Nat.lt_of_lt_of_le (e.lt x hx) hlen
    refine ⟨ih.gr.delP _ e.tr, (delP_len _ _).trans ih.len, fun x y h => ih.sub x y ((adj_delP _ ih.gr e.tr x y).1 h).1, fun x y h => ?_, Nat.or_lt_two_pow ih.tn (setOf_lt e.lt), by have := ih.two; omega, ?_⟩
    · rcases ih.used x y h with h1 | ⟨h1, h2⟩
      · by_cases ho : onP m x y
        · obtain ⟨h1, h2⟩ := onP_mem _ ho
          exact .inr ⟨by rw [Nat.testBit_or, setOf_bit.2 h1, Bool.or_true], by rw [Nat.testBit_or, setOf_bit.2 h2, Bool.or_true]⟩
        · exact .inl ((adj_delP _ ih.gr e.tr x y).2 ⟨h1, ho⟩)
      · exact .inr ⟨by rw [Nat.testBit_or, h1]; rfl, by rw [Nat.testBit_or, h2]; rfl⟩
    · have := ih.sum
      have := e.len
      rw [List.length_append, List.length_singleton]
      omega

theorem bit_all {g : List Nat} {x : Nat} (h : x < g.length) : (allN g).testBit x = true := by rw [allN_bit, decide_eq_true h]

/-- Where an edge is left, one of them begins at a node that is there. -/
theorem EI.more {g : List Nat} (hg : GrN g) (hb : Bi g (allN g)) {k : Nat} {left : List Nat} {there : Nat} (e : EI g k left there) (hne : edgesP left ≠ []) : ∃ u, there.testBit u = true ∧ nb left u ≠ 0 := by
  have hpow := hg.pow
  have ht1024 := Nat.lt_of_lt_of_le e.tn hpow
  obtain ⟨q, hq⟩ : ∃ q, q ∈ edgesP left := List.exists_mem_of_ne_nil _ hne
  obtain ⟨h1, h2, h3⟩ := mem_edges.1 hq
  obtain ⟨v0, hv0, _⟩ := exists_other1 (a := 0) ht1024 (by have := e.two; omega)
  have hc1 : q.1 < g.length := by rw [← e.len]; omega
  have hr := hb.conn (Nat.lt_of_lt_of_le (allN_lt g) hpow) v0 q.1 (bit_all (bit_lt e.tn hv0)) (bit_all hc1)
  have hne0 : ∀ x y, adj left x y = true → nb left x ≠ 0 := fun x y h h0 => by unfold adj at h; rw [h0] at h; simp at h
  have : ∀ z, Rch g (allN g) v0 z → there.testBit z = true ∨ ∃ u, there.testBit u = true ∧ nb left u ≠ 0 := by
    intro z hz
    induction hz with
    | base => exact .inl hv0
    | @step a b _ hab _ ih =>
      rcases ih with ih | ih
      · rcases e.used a b hab with h | h
        · exact .inr ⟨a, ih, hne0 a b h⟩
        · exact .inl h.2
      · exact .inr ih
  rcases this _ hr with h | h
  · exact ⟨q.1, h, hne0 _ _ h3⟩
  · exact h

/-- Where no edge is left, all nodes are there. -/
theorem EI.done {g : List Nat} (hg : GrN g) (hb : Bi g (allN g)) {k : Nat} {left : List Nat} {there : Nat} (e : EI g k left there) (he : edgesP left = []) : there = allN g ∧ dsum g + 2 = 2 * (g.length + k) := by
  have hpow := hg.pow
  have ht1024 := Nat.lt_of_lt_of_le e.tn hpow
  have hd0 := (dsum_zero e.gr).2 he
  have hno : ∀ x y, adj left x y = false := by
    intro x y
    refine Bool.eq_false_iff.2 fun h => ?_
    have := dsum_delE e.gr h
    omega
  obtain ⟨v0, hv0, _⟩ := exists_other1 (a := 0) ht1024 (by have := e.two; omega)
  have : there = allN g := by
    refine set_ext e.tn (allN_lt g) fun i hi => ?_
    rw [bit_all hi]
    have hr := hb.conn (Nat.lt_of_lt_of_le (allN_lt g) hpow) v0 i (bit_all (bit_lt e.tn hv0)) (bit_all hi)
    induction hr with
    | base => exact hv0
    | @step a b _ hab _ ih =>
      rcases e.used a b hab with h | h
      · rw [hno] at h; cases h
      · exact h.2
  refine ⟨this, ?_⟩
  have h1 := e.sum
  rw [hd0, this, show pop (allN g) = g.length from (pop_all hg.len).1] at h1
  omega

/-- A way that was found makes an ear. -/
theorem EI.ear {g : List Nat} (hg : GrN g) {k : Nat} {left : List Nat} {there : Nat} (e : EI g k left there) {u w W to x : Nat} {l : List Nat} (hu : there.testBit u = true) (huw : adj left u w = true)
    (hto : ∀ i, to.testBit i = true ↔ there.testBit i = true ∧ i ≠ u) (hW : ∀ i, W.testBit i = true → i ≠ u) (way : WayB g w W to l) (hh : l.head? = some x) (hx : to.testBit x = true) : Ear2 g.length left there (u :: l.reverse) := by
  have hun := bit_lt e.tn hu
  have hne : l ≠ [] := by rintro rfl; simp at hh
  have hl0 : 0 < l.length := List.length_pos_iff.2 hne
  obtain ⟨y, l', rfl⟩ : ∃ y l', l = y :: l' := by
    cases l with
    | nil => exact absurd rfl hne
    | cons y l' => exact ⟨y, l', rfl⟩
  simp only [List.head?_cons, Option.some.injEq] at hh
  subst hh
  have huw' : u ≠ w := by rintro rfl; rw [e.gr.irr] at huw; cases huw
  have hlast := way.last
  have hul : u ∉ y :: l' := by
    intro hm
    obtain ⟨p, z, hp⟩ := snoc_of (m := y :: l') (by simp)
    rw [hp, List.getLast?_concat, Option.some.injEq] at hlast
    have hW' := way.inW
    rw [hp, List.dropLast_concat] at hW'
    rw [hp, List.mem_append, List.mem_singleton] at hm
    rcases hm with h | h
    · exact hW u (hW' u h) rfl
    · exact huw' (h.trans hlast)
  have hnb : ∀ i, i < (y :: l').length → nb (y :: l').reverse i = nb (y :: l') ((y :: l').length - 1 - i) := fun i hi => nb_rev hi
  have hbit : ∀ i, i < (y :: l').length → (there.testBit (nb (y :: l').reverse i) = true ↔ i + 1 = (y :: l').length) := by
    intro i hi
    rw [hnb i hi]
    simp only [List.length_cons] at hi ⊢
    constructor
    · intro hb
      refine Classical.byContradiction fun hc => ?_
      have hm : nb (y :: l') (l'.length + 1 - 1 - i) ∈ l' := by
        obtain ⟨j, hj⟩ : ∃ j, l'.length + 1 - 1 - i = j + 1 := ⟨l'.length - i - 1, by omega⟩
        rw [hj]
        exact nb_mem (m := l') (by omega)
      have h1 := way.noTo _ hm
      have h2 := (hto (nb (y :: l') (l'.length + 1 - 1 - i))).2 ⟨hb, fun e => hul (by rw [← e]; exact List.mem_cons_of_mem _ hm)⟩
      rw [h1] at h2; cases h2
    · intro hi2
      rw [show l'.length + 1 - 1 - i = 0 by omega]
      exact ((hto y).1 hx).1
  refine ⟨by simp, List.nodup_cons.2 ⟨by rw [List.mem_reverse]; exact hul, nodup_rev.2 way.nodup⟩, ?_, ?_, ?_⟩
  · refine tr_of _ e.gr (ch_of _ fun i hi => ?_) (List.nodup_cons.2 ⟨by rw [List.mem_reverse]; exact hul, nodup_rev.2 way.nodup⟩)
    cases i with
    | zero =>
      have : nb (u :: (y :: l').reverse) (0 + 1) = w := by
        have h1 : nb (u :: (y :: l').reverse) (0 + 1) = nb (y :: l').reverse 0 := rfl
        rw [h1]
        obtain ⟨p, z, hp⟩ := snoc_of (m := y :: l') (by simp)
        rw [hp, List.getLast?_concat, Option.some.injEq] at hlast
        rw [hp, List.reverse_append, hlast]; rfl
      rw [this]; exact huw
    | succ i =>
      have h1 : ∀ j, nb (u :: (y :: l').reverse) (j + 1) = nb (y :: l').reverse j := fun _ => rfl
      rw [h1, h1]
      simp only [List.length_cons, List.length_reverse] at hi
      have hadj := ch_get _ way.ch i (by rw [List.length_reverse, List.length_cons]; omega)
      rcases e.used _ _ hadj with h | ⟨h, _⟩
      · exact h
      · have := (hbit i (by rw [List.length_cons]; omega)).1 h
        rw [List.length_cons] at this
        omega
  · intro i hi
    cases i with
    | zero => exact ⟨fun _ => .inl rfl, fun _ => hu⟩
    | succ i =>
      have h1 : nb (u :: (y :: l').reverse) (i + 1) = nb (y :: l').reverse i := rfl
      simp only [List.length_cons, List.length_reverse] at hi
      rw [h1, hbit i (by rw [List.length_cons]; omega)]
      simp only [List.length_cons, List.length_reverse]
      omega
  · intro z hz
    rw [List.mem_cons, List.mem_reverse] at hz
    rcases hz with rfl | hz
    · exact hun
    · exact way.lt z hz

/-- There is a way for an ear. -/
theorem EI.way {g : List Nat} (hg : GrN g) (hb : Bi g (allN g)) {k : Nat} {left : List Nat} {there : Nat} (e : EI g k left there) {u w W to : Nat} (hu : there.testBit u = true) (huw : adj left u w = true)
    (hto : ∀ i, to.testBit i = true ↔ there.testBit i = true ∧ i ≠ u) (hW : ∀ i, i < g.length → i ≠ u → W.testBit i = true) : ∃ x, to.testBit x = true ∧ Rch g W w x := by
  have hpow := hg.pow
  have huw' : w ≠ u := by rintro rfl; rw [e.gr.irr] at huw; cases huw
  have hwn := (hg.adj_lt (e.sub _ _ huw)).2
  obtain ⟨x, hx, hxu⟩ := exists_other1 (a := u) (Nat.lt_of_lt_of_le e.tn hpow) (by have := e.two; omega)
  refine ⟨x, (hto x).2 ⟨hx, hxu⟩, (hb u w x (bit_del.2 ⟨bit_all hwn, huw'⟩) (bit_del.2 ⟨bit_all (bit_lt e.tn hx), hxu⟩)).mono fun i hi => ?_⟩
  have h := bit_del.1 hi
  exact hW i (bit_lt (allN_lt g) h.1) h.2

/-- The first edge is in a cycle. -/
theorem first_way {g : List Nat} (hg : GrN g) (hb : Bi g (allN g)) (h3 : 3 ≤ g.length) {a b : Nat} (hab : adj g a b = true) : Rch (delE g a b) (allN g) a b := by
  have hpow := hg.pow
  obtain ⟨ha, hbn⟩ := hg.adj_lt hab
  have hne : a ≠ b := by rintro rfl; rw [hg.irr] at hab; cases hab
  have hp : pop (allN g) = g.length := (pop_all hg.len).1
  obtain ⟨c, hc, hca, hcb⟩ := exists_other (a := a) (b := b) (Nat.lt_of_lt_of_le (allN_lt g) hpow) (by rw [hp]; omega)
  have hda := fun {x : Nat} => bit_del (S := allN g) (w := a) (i := x)
  have hw : ∀ z, without (allN g) (2 ^ z) < 2 ^ g.length := fun z => without_le _ _ (allN_lt g)
  have r1 := hb b a c (bit_del.2 ⟨bit_all ha, hne⟩) (bit_del.2 ⟨hc, hcb⟩)
  have r2 := hb a c b (bit_del.2 ⟨hc, hca⟩) (bit_del.2 ⟨bit_all hbn, fun e => hne e.symm⟩)
  have n1 : ∀ z, (without (allN g) (2 ^ z)).testBit z = false := fun z => Bool.eq_false_iff.2 fun h => (bit_del.1 h).2 rfl
  exact (r1.del hg hab (.inr (n1 b)) (bit_del.2 ⟨bit_all ha, hne⟩) (hw b)).trans (r2.del hg hab (.inl (n1 a)) (bit_del.2 ⟨hc, hca⟩) (hw a))

theorem first_ear {g : List Nat} (hg : GrN g) {a b W : Nat} {l : List Nat} (hab : adj g a b = true) (way : WayB (delE g a b) a W (2 ^ b) l) (hh : l.head? = some b) : Ear1 g (l.reverse ++ [a]) := by
  obtain ⟨ha, hbn⟩ := hg.adj_lt hab
  have hne : a ≠ b := by rintro rfl; rw [hg.irr] at hab; cases hab
  have hgd := hg.delE hab
  have hch := way.ch
  have hlast := way.last
  have hnod := way.nodup
  have hlt := way.lt
  rw [delE_len] at hlt
  -- the way's list, read forward
  obtain ⟨p, hp⟩ : ∃ p, l.reverse = p := ⟨_, rfl⟩
  have hl : l = p.reverse := by rw [← hp, List.reverse_reverse]
  subst hl
  rw [List.reverse_reverse] at hch ⊢
  rw [List.getLast?_reverse] at hlast
  rw [List.head?_reverse] at hh
  rw [nodup_rev] at hnod
  have hlt' : ∀ x ∈ p, x < g.length := fun x hx => hlt x (List.mem_reverse.2 hx)
  cases p with
  | nil => simp at hlast
  | cons a' p =>
    simp only [List.head?_cons, Option.some.injEq] at hlast
    subst hlast
    cases p with
    | nil =>
      simp at hh
      exact absurd hh hne
    | cons c p =>
      cases p with
      | nil =>
        simp at hh
        subst hh
        have := hch.1
        rw [adj_delE ha hbn hne] at this
        simp at this
      | cons d p =>
        refine ⟨by simp, ?_, ?_, ?_, ?_⟩
        · rw [List.getLast?_concat]; rfl
        · rw [List.dropLast_concat]; exact hnod
        · have hac := hch.1
          have hsub : ∀ x y, adj (delE g a' b) x y = true → adj g x y = true := fun x y h => by
            rw [adj_delE ha hbn hne, Bool.and_eq_true] at h; exact h.1
          have hac' := hsub _ _ hac
          obtain ⟨_, hcn⟩ := hg.adj_lt hac'
          have hnac : a' ≠ c := by rintro rfl; rw [hg.irr] at hac'; cases hac'
          refine ⟨hac', ?_⟩
          rw [List.nodup_cons] at hnod
          obtain ⟨q, z, hq⟩ := snoc_of (m := d :: p) (by simp)
          have hz : z = b := by
            rw [List.getLast?_cons_cons, List.getLast?_cons_cons, hq, List.getLast?_concat] at hh
            exact Option.some.inj hh
          have hm2 : (c :: d :: p) ++ [a'] = c :: ((d :: p) ++ [a']) := rfl
          have hna : a' ∉ c :: d :: p := hnod.1
          have hcb : c ≠ b := by
            rintro rfl
            have := (List.nodup_cons.1 hnod.2).1
            rw [hq, hz] at this
            simp at this
          show Tra (delE g a' c) ((c :: d :: p) ++ [a'])
          refine tr_of _ (hg.delE hac') (ch_of _ fun i hi => ?_) ?_
          · simp only [List.length_append, List.length_cons, List.length_nil] at hi
            rw [adj_delE ha hcn hnac, Bool.and_eq_true]
            by_cases hi2 : i + 1 < (c :: d :: p).length
            · rw [nb_app (by omega), nb_app hi2]
              have h1 := ch_get _ hch (i + 1) (by simp at hi2 ⊢; omega)
              have h2 : ∀ j, nb (a' :: c :: d :: p) (j + 1) = nb (c :: d :: p) j := fun _ => rfl
              rw [h2, h2] at h1
              refine ⟨hsub _ _ h1, ?_⟩
              have m1 := nb_mem (m := c :: d :: p) (i := i) (by omega)
              have m2 := nb_mem (m := c :: d :: p) (i := i + 1) hi2
              rw [Bool.not_eq_true', Bool.or_eq_false_iff, decide_eq_false_iff_not, decide_eq_false_iff_not]
              exact ⟨fun h => hna (h.1 ▸ m1), fun h => hna (h.2 ▸ m2)⟩
            · have hi3 : i + 1 = (c :: d :: p).length := by simp at hi2 ⊢; omega
              rw [hi3, nb_snoc, nb_app (by omega)]
              have hzi : nb (c :: d :: p) i = b := by
                have : c :: d :: p = (c :: q) ++ [z] := by rw [hq]; rfl
                rw [this] at hi3 ⊢
                rw [show i = (c :: q).length by simp at hi3 ⊢; omega, nb_snoc, hz]
              rw [hzi]
              have := hg.sym a' b
              rw [hab] at this
              refine ⟨this.symm, ?_⟩
              rw [Bool.not_eq_true', Bool.or_eq_false_iff, decide_eq_false_iff_not, decide_eq_false_iff_not]
              exact ⟨fun h => hne h.1.symm, fun h => hcb h.1.symm⟩
          · rw [List.nodup_append]
            refine ⟨hnod.2, by simp, fun x hx y hy => ?_⟩
            rw [List.mem_singleton] at hy
            rintro rfl
            rw [hy] at hx
            exact hna hx
        · intro x hx
          rw [List.mem_append, List.mem_singleton] at hx
          rcases hx with hx | rfl
          · exact hlt' x hx
          · exact ha

end Go.AM

end

section

/- Ears in a heap; one more ear is found and added. -/
namespace Go.AM
open Go.Proofs
variable {R : Type}
attribute [local simp] nx_eq nx_new nx_set blk_new blk_set asI_int asK_int asB_bool asP_ptr al_eq bx_eq len_slice onE_exit onE_ret onR_ret Value.cells cell_new cell_set rd_new rd_set off eq lt le ifB gv out ext20 ext21
theorem app102 : okApp Tryd.prog 102 3 1 = true := by kernel_rfl

theorem bls102 (z : Int) (h : H) : buildSlice Tryd.prog 102 1 [(0, .int .i64 z)] h = some (.slice (some ⟨h.nx, 0, none⟩) 1 1, h.new (.row [iv z] 3 true)) := by kernel_rfl

/-- Slices that hold ears. -/
def ES (h : H) (bth : Nat) (vs : List Value) (es : List (List Nat)) : Prop := vs.length = es.length ∧ ∀ (i : Nat) (x : Value) (m : List Nat), vs[i]? = some x → es[i]? = some m → SlR h 3 1 x (cellsN m) ∧ blkOf x ≠ some bth

theorem ES.keep {h h' : H} {bth : Nat} {vs : List Value} {es : List (List Nat)} (a : ES h bth vs es) (hn : h.nx ≤ h'.nx) (hb : ∀ b cs o, b < h.nx → b ≠ bth → h.blk b = some (.row cs 3 o) → h'.blk b = h.blk b) : ES h' bth vs es :=
  ⟨a.1, fun i x m hx hm => by
    obtain ⟨a1, a2⟩ := a.2 i x m hx hm
    refine ⟨a1.keepB hn fun b hbb => ?_, a2⟩
    obtain ⟨h1, cs, o, h2⟩ := a1.blkR hbb
    exact hb b cs o h1 (fun e => a2 (by rw [← e]; exact hbb)) h2⟩

theorem ES.snoc {h : H} {bth : Nat} {vs : List Value} {es : List (List Nat)} (a : ES h bth vs es) {x : Value} {m : List Nat} (hx : SlR h 3 1 x (cellsN m)) (hx2 : blkOf x ≠ some bth) : ES h bth (vs ++ [x]) (es ++ [m]) := by
  refine ⟨by simp [a.1], fun i y k hy hk => ?_⟩
  have h1 := a.1
  by_cases hi : i < vs.length
  · rw [List.getElem?_append_left hi] at hy
    rw [List.getElem?_append_left (by omega)] at hk
    exact a.2 i y k hy hk
  · have hi2 := (List.getElem?_eq_some_iff.1 hy).1
    simp at hi2
    have : i = vs.length := by omega
    subst this
    simp at hy
    rw [h1] at hk
    simp at hk
    subst hy hk
    exact ⟨hx, hx2⟩

structure EJ (n : Nat) (h : H) (bth blf bou : Nat) (es : List (List Nat)) (left : List Nat) (there : Nat) (g : H) : Prop where
  he : HE n left there bth blf g
  out : ∃ ov vs, g.blk bou = some (.row [ov] 56 true) ∧ AqR h.nx g 102 1 ov (cellsV vs) ∧ AllSl vs ∧ ES g bth vs es
  ext : Ext h g
  b1 : h.nx ≤ bth
  b2 : h.nx ≤ blf
  b3 : h.nx ≤ bou
  b4 : bou < g.nx

section
variable {n bth blf bou there : Nat} {h g g' : H} {es : List (List Nat)} {left : List Nat}
theorem EJ.grow (a : EJ n h bth blf bou es left there g) (x : Ext g g') : EJ n h bth blf bou es left there g' := by
  obtain ⟨ov, vs, o1, o2, o3, o4⟩ := a.out
  refine ⟨a.he.keep x.nx (x.blk _ a.he.l1) (x.blk _ a.he.l2) (fun b _ _ hb _ _ => x.blk b hb), ⟨ov, vs, (x.blk _ a.b4).trans o1, o2.ext x, o3, o4.keep x.nx fun b _ _ hb _ _ => x.blk b hb⟩, a.ext.trans x, a.b1, a.b2, a.b3, Nat.lt_of_lt_of_le a.b4 x.nx⟩

theorem EJ.add (a : EJ n h bth blf bou es left there g) {m : List Nat} {p} {q r : Nat} (hm : ∀ x ∈ m, x < n) (hne : ∀ i, i + 1 < m.length → nb m i ≠ nb m (i + 1)) (hml : m.length ≤ 100) (h0 : SlR g 3 1 (.slice p q r) (cellsN m)) (h0b : blkOf (.slice p q r) ≠ some bth) (hes : es.length ≤ 1000) :
    ∃ g', rn 86 #[.slice p q r, pt bth 0, pt blf 0, pt bou 0] g = some (undef, g') ∧ EJ n h bth blf bou (es ++ [m]) (delP left m) (there ||| setOf m) g' := by
  obtain ⟨ov, vs, o1, o2, o3, o4⟩ := a.out
  obtain ⟨g', ov', e86, he, w1, w2, n1, k1⟩ := s86 hm hne hml h0 h0b a.he o1 a.b4 o2 a.ext.nx (by have := o4.1; omega)
  rw [fold_ear] at he
  have hb1 := a.b1
  have hb2 := a.b2
  have hb3 := a.b3
  obtain ⟨lv, l1, _⟩ := a.he.lf
  have hk : ∀ b cs o, b < g.nx → b ≠ bth → g.blk b = some (.row cs 3 o) → g'.blk b = g.blk b := fun b cs o hb hbt hr => by
    refine k1 b hb hbt ?_ ?_ ?_
    · rintro rfl; rw [l1] at hr; exact absurd (row_ty hr) (by decide)
    · rintro rfl; rw [o1] at hr; exact absurd (row_ty hr) (by decide)
    · intro e
      have := (o2.blkOf e).2.2
      rw [hr] at this; exact absurd (row_ty this) (by decide)
  refine ⟨g', e86, he, ⟨ov', vs ++ [.slice p q r], w1, w2, ?_, (o4.keep n1 hk).snoc (h0.keepB n1 fun b hb => ?_) h0b⟩, ⟨by have := a.ext.nx; omega, fun b hb => ?_⟩, hb1, hb2, hb3, by have := a.b4; omega⟩
  · intro x hx
    rw [List.mem_append, List.mem_singleton] at hx
    rcases hx with hx | rfl
    · exact o3 x hx
    · exact ⟨_, _, _, rfl⟩
  · obtain ⟨z1, cs, o, z2⟩ := h0.blkR hb
    exact hk b cs o z1 (fun e => h0b (by rw [← e]; exact hb)) z2
  · have := a.ext.nx
    rw [k1 b (by omega) (by omega) (by omega) (by omega) (fun e => by have := (o2.blkOf e).1; omega)]
    exact a.ext.blk b hb

end
theorem tra_ne {g : List Nat} (hg : GrN g) {m : List Nat} (h : Tra g m) : ∀ i, i + 1 < m.length → nb m i ≠ nb m (i + 1) := fun i hi e => by
  have := ch_get m (h.ch m hg) i hi
  rw [e, hg.irr] at this; cases this

set_option maxHeartbeats 1000000 in
theorem s42_l2 {G : List Nat} {tv v21 : Value} {h h3 h5 h7 g : H} {es : List (List Nat)} {left : List Nat} {there k : Nat} {ws0 : List Value} (hG : GrN G) (hbi : Bi G (allN G)) (hs : SlR h 3 1 tv (cellsN G)) (hEL : EL G es left there) (hes : es.length ≤ 1000) (hne : edgesP left ≠ [])
    (hJ : EJ G.length h h5.nx h3.nx h7.nx es left there g) (h21 : SlR g 3 1 v21 (cellsN (elts there))) (hk : 20 ≤ k) (hws : ws0 = [iv 0]) :
    ∃ w g', lpGo (f42_l2 rn k tv h3 h5 h7 v21 ((elts there).length : Int)) k ws0 g = some (.exit 2, w, g') ∧ ∃ m, Ear2 G.length left there m ∧ EJ G.length h h5.nx h3.nx h7.nx (es ++ [m]) (delP left m) (there ||| setOf m) g' := by
  subst hws
  have hlen := hG.len
  have hpow := hG.pow
  have hI := hEL.inv hG
  have ht1024 := Nat.lt_of_lt_of_le hI.tn hpow
  have hell : (elts there).length ≤ 10 := by unfold elts; exact Nat.le_trans (List.length_filter_le ..) (by simp)
  have hleft := hI.len
  obtain ⟨lv, l1, l2, l3⟩ := hJ.he.lf
  have hth := hJ.he.th
  have hsg := hs.ext hJ.ext
  obtain ⟨e, ws', g', hlp, rfl, m, hm1, hm2⟩ := lp_range (F := f42_l2 rn k tv h3 h5 h7 v21 ((elts there).length : Int)) (k := k) (n := (elts there).length)
    (fun i ws g' => g' = g ∧ ws = [iv i] ∧ ∀ j, j < i → nb left (nb (elts there) j) = 0)
    (fun e ws g' => e = .exit 2 ∧ ∃ m, Ear2 G.length left there m ∧ EJ G.length h h5.nx h3.nx h7.nx (es ++ [m]) (delP left m) (there ||| setOf m) g')
    (by
      rintro i ws g' hi ⟨rfl, rfl, hz⟩
      obtain ⟨u, hud⟩ : ∃ u, nb (elts there) i = u := ⟨_, rfl⟩
      have hum : u ∈ elts there := hud ▸ nb_mem hi
      have hut := (mem_elts ht1024).1 hum
      have hun := bit_lt hI.tn hut
      have hadd : add .i64 (i : Int) 1 = ((i + 1 : Nat) : Int) := by rw [add64 (by omega) (by omega)]; omega
      have e1 : ∀ (K : Value → Option (Ex × List Value × H)), (six v21 (i : Int) 1 fun b o => ld Tryd.prog g' 3 b o K) = K (iv (u : Nat)) := fun K => by
        simp only [d3]; rw [getN h21 hi, hud]
      have e2 : ∀ (K : Value → Option (Ex × List Value × H)), (six lv (u : Int) 1 fun b o => ld Tryd.prog g' 3 b o K) = K (iv (nb left u : Nat)) := fun K => by
        simp only [d3]; rw [getN l2 (by omega)]
      have hx1024 := Nat.lt_of_lt_of_le (hI.gr.nb_lt u) hI.gr.pow
      have start : ∀ r, (ifB (AM.eq (nb left u : Int) 0) (AM.out .normal [iv ((i + 1 : Nat) : Int)] g') (
          calls rn g' 89 [(.int .u64 (wr .u64 (nb left u : Nat)))] fun v27 h22 =>
          asI .i64 v27 fun n13 =>
          ld Tryd.prog h22 3 (nx h5) 0 fun v28 =>
          asI .i64 v28 fun n14 =>
          nn (u : Int) (
            calls rn h22 65 [tv] fun v29 h23 =>
            asI .i64 v29 fun n15 =>
            ck (freq (nx h5) (nx h22) (same h23 h22)) (
              ld Tryd.prog h23 3 (nx h5) 0 fun v30 =>
              asI .i64 v30 fun n16 =>
              ck (freq (nx h5) (nx h22) (same h23 h22)) (
                calls rn h23 88 [tv, (.int .i64 n13), (.int .i64 (AM.andNot .i64 n14 (AM.shl .i64 1 (u : Int)))), (.int .i64 (AM.andNot .i64 n15 n16))] fun v31 h24 =>
                bls Tryd.prog h24 102 1 [(0, (.int .i64 (u : Int)))] fun v32 h25 =>
                ck (freq (nx h5) (nx h24) (same h25 h24)) (
                  ck (freq (nx h5) (nx h24) (same h25 h24)) (
                    app Tryd.prog h25 102 22 v32 v31 fun v33 h26 =>
                    calls rn h26 86 [v33, (pt (nx h5) 0), (pt (nx h3) 0), (pt (nx h7) 0)] fun _ h27 =>
                    AM.out (.exit 2) [iv i] h27))))))) = r → f42_l2 rn k tv h3 h5 h7 v21 ((elts there).length : Int) [iv i] g' = r := by
        intro r hr
        unfold f42_l2
        rw [show AM.gv [iv i] 0 = iv i from rfl, asI_int, lt_t (by omega), ifB_true, asK_int, e1, asI_int]
        simp only [d78, nx_eq, cell_of l1]
        rw [show ([lv] : List Value)[0]? = some lv from rfl]
        simp only [Option.bind_some]
        rw [e2, asI_int, asI_int, hadd, e2, asI_int]
        exact hr
      by_cases hz0 : nb left u = 0
      · refine ⟨.normal, [iv ((i + 1 : Nat) : Int)], g', start _ ?_, .inl ⟨rfl, rfl, rfl, fun j hj => ?_⟩⟩
        · rw [hz0]; rfl
        · by_cases hji : j = i
          · rw [hji, hud]; exact hz0
          · exact hz j (by omega)
      · have hpos := Nat.pos_of_ne_zero hz0
        have hwb := low_bit hpos hx1024
        obtain ⟨w, hwd⟩ : ∃ w, low (nb left u) = w := ⟨_, rfl⟩
        rw [hwd] at hwb
        have huw : adj left u w = true := hwb
        have hwn := (hG.adj_lt (hI.sub _ _ huw)).2
        have e89 := s89 hpos hx1024 g'
        rw [hwd] at e89
        have hsh : AM.andNot .i64 (there : Int) (AM.shl .i64 1 (u : Int)) = ((without there (2 ^ u) : Nat) : Int) := by
          have h2u : (2 : Nat) ^ u < 1024 := Nat.pow_lt_pow_right (n := 10) (by omega) (by omega)
          rw [shl1_nat (by omega), andNot_nat (by omega) (by omega)]
        have hal := Nat.lt_of_lt_of_le (allN_lt G) hpow
        have han : AM.andNot .i64 (allN G : Int) (there : Int) = ((without (allN G) there : Nat) : Int) := andNot_nat (by omega) (by omega)
        obtain ⟨v31, g2, e88, x88', hor⟩ := s88 (to := without there (2 ^ u)) (thr := without (allN G) there) hG.toGrB hsg hwn (without_le _ _ hI.tn) (without_le _ _ (allN_lt G))
        have hto : ∀ i, (without there (2 ^ u)).testBit i = true ↔ there.testBit i = true ∧ i ≠ u := fun i => bit_del
        have hWb : ∀ i, (without (allN G) there ||| without there (2 ^ u)).testBit i = true ↔ i < G.length ∧ i ≠ u := fun i => by
          rw [Nat.testBit_or, Bool.or_eq_true, testBit_without, Bool.and_eq_true, Bool.not_eq_true', bit_del, allN_bit, decide_eq_true_iff]
          constructor
          · rintro (⟨h1, h2⟩ | ⟨h1, h2⟩)
            · exact ⟨h1, fun e => by rw [e, hut] at h2; cases h2⟩
            · exact ⟨bit_lt hI.tn h1, h2⟩
          · rintro ⟨h1, h2⟩
            cases hb : there.testBit i with
            | false => exact .inl ⟨h1, rfl⟩
            | true => exact .inr ⟨rfl, h2⟩
        rcases hor with ⟨l, x, way, hhd, hx, a31⟩ | ⟨_, hno⟩
        · have ear := hI.ear hG hut huw hto (fun i hi => ((hWb i).1 hi).2) way hhd hx
          obtain ⟨g3, hg3⟩ : ∃ g3, g3 = g2.new (.row [iv u] 3 true) := ⟨_, rfl⟩
          have x3 : Exw g2 g3 := by rw [hg3]; exact Exw.new _ _
          have n3 : g3.nx = g2.nx + 1 := by rw [hg3]; rfl
          have n2 := x88'.nx
          have hl1 := hJ.he.l1
          have hl2 := hJ.he.l2
          have hl4 := hJ.b4
          have hlit : AqR g2.nx g3 3 1 (.slice (some ⟨g2.nx, 0, none⟩) 1 1) (cellsN [u]) := by
            rw [hg3]
            exact AqR.lit (l := [[iv (u : Int)]]) (Nat.le_refl _) rfl (by simp) (by simp)
          have hll := nodes_le ear.nodup ear.lt
          rw [List.length_cons, List.length_reverse] at hll
          obtain ⟨v33, g4, ea, a4, n4, k4, _⟩ := hlit.app (y := v31) (ys := cellsN l.reverse) (P := Tryd.prog) (t := 102) (t' := 22) app102 app22 (a31.slR.ext x3.toExt) (cellsN_scal _) (by simp; omega) (by omega)
          have hcat : cellsN [u] ++ cellsN l.reverse = cellsN (u :: l.reverse) := rfl
          rw [hcat] at a4
          have x4 : Ext g' g4 := ⟨by omega, fun b hb => by
            rw [k4 b (by omega) (fun e => by cases e; omega), x3.blk b (by omega)]
            exact x88'.blk b hb⟩
          have hJ4 := hJ.grow x4
          obtain ⟨p, q, r, rfl⟩ := a4.isSl
          obtain ⟨g5, e86, hJ5⟩ := hJ4.add (m := u :: l.reverse) ear.lt (tra_ne hI.gr ear.tr) (by simp; omega) a4.slR (fun e => by have := (a4.blkOf e).1; omega) hes
          refine ⟨.exit 2, [iv i], g5, start _ ?_, .inr ⟨by simp, rfl, _, ear, hJ5⟩⟩
          rw [show AM.eq (nb left u : Int) 0 = false by simp [AM.eq]; omega, ifB_false, wr64u hx1024, calls_eq (xs := [.int .u64 (nb left u : Nat)]) e89, asI_int]
          simp only [d3, nx_eq, cell_of hth]
          rw [show ([iv (there : Int)] : List Value)[0]? = some (iv there) from rfl]
          simp only [Option.bind_some]
          rw [asI_int, nn_ge (show (0 : Int) ≤ (u : Int) by omega), calls_eq (xs := [tv]) (s65 hG.toGrB hsg), asI_int]
          simp only [freq, same_self, decide_eq_true hl1, Bool.and_self, ck_true, cell_of hth]
          rw [show ([iv (there : Int)] : List Value)[0]? = some (iv there) from rfl]
          simp only [Option.bind_some, asI_int]
          rw [hsh, han, calls_eq (xs := [tv, iv w, iv ((without there (2 ^ u) : Nat) : Int), iv ((without (allN G) there : Nat) : Int)]) e88, bls_some (bls102 (u : Int) g2), ← hg3,
            show same g3 g2 = true by simp [same, x3.wr], decide_eq_true (show h5.nx < g2.nx by omega), Bool.and_self, ck_true, ck_true, ea, calls_eq (xs := [.slice p q r, pt h5.nx 0, pt h3.nx 0, pt h7.nx 0]) e86]
          rfl
        · obtain ⟨x, hx, hr⟩ := hI.way hG hbi hut huw hto (fun i h1 h2 => (hWb i).2 ⟨h1, h2⟩)
          exact absurd hr (hno x hx))
    (by
      rintro ws g' ⟨_, _, hz⟩
      obtain ⟨u, hu, hnz⟩ := hI.more hG hbi hne
      obtain ⟨j, hj, rfl⟩ := mem_nb ((mem_elts ht1024).2 hu)
      exact absurd (hz j hj) hnz)
    (ws := [iv 0]) (h := g) (by omega) ⟨rfl, rfl, fun j hj => by omega⟩
  exact ⟨ws', g', hlp, m, hm1, hm2⟩

end Go.AM

end

section

/- Ears: the program's search, whole. -/
namespace Go.AM
open Go.Proofs
variable {R : Type}
attribute [local simp] nx_eq nx_new nx_set blk_new blk_set asI_int asK_int asB_bool asP_ptr al_eq bx_eq len_slice onE_exit onE_ret onR_ret Value.cells cell_new cell_set rd_new rd_set off eq lt le ifB gv out ext20 ext21
theorem pop_le10 (x : Nat) : pop x ≤ 10 := by unfold pop; exact Nat.le_trans List.countP_le_length (by simp)

theorem dsum_le : ∀ g : List Nat, dsum g ≤ 10 * g.length
  | [] => by simp [dsum]
  | x :: g => by
    have := dsum_le g
    have h2 := pop_le10 x
    unfold dsum at this ⊢
    rw [List.map_cons, List.sum_cons, List.length_cons]
    omega

set_option maxHeartbeats 1000000 in
theorem s42_l1 {G : List Nat} {tv : Value} {h h3 h5 h7 g : H} {es : List (List Nat)} {left : List Nat} {there : Nat} (hG : GrN G) (hbi : Bi G (allN G)) (hs : SlR h 3 1 tv (cellsN G)) (hEL : EL G es left there)
    (hJ : EJ G.length h h5.nx h3.nx h7.nx es left there g) :
    ∃ w g', lpGo (f42_l1 rn 600 tv h3 h5 h7) 600 [] g = some (.exit 0, w, g') ∧ ∃ es' left', EL G es' left' (allN G) ∧ edgesP left' = [] ∧ EJ G.length h h5.nx h3.nx h7.nx es' left' (allN G) g' := by
  have hlen := hG.len
  have hpow := hG.pow
  have hdG := dsum_le G
  obtain ⟨e, w, g', hlp, rfl, es', left', q⟩ := lpGo_inv (F := f42_l1 rn 600 tv h3 h5 h7)
    (fun d _ g => ∃ es left there, d = dsum left ∧ EL G es left there ∧ EJ G.length h h5.nx h3.nx h7.nx es left there g)
    (fun e _ g' => e = .exit 0 ∧ ∃ es' left', EL G es' left' (allN G) ∧ edgesP left' = [] ∧ EJ G.length h h5.nx h3.nx h7.nx es' left' (allN G) g')
    (by
      rintro d ws g ⟨es, left, there, rfl, hEL, hJ⟩
      have hI := hEL.inv hG
      have ht1024 := Nat.lt_of_lt_of_le hI.tn hpow
      have hsum := hI.sum
      obtain ⟨lv, l1, l2, l3⟩ := hJ.he.lf
      obtain ⟨v19, g1, e77, x1, a19⟩ := s77 hI.gr.toGrB l2
      have hJ1 := hJ.grow x1.toExt
      have hn19 : ∀ {T : Type} (K : Int → Option T), len v19 K = K ((edgesP left).length : Int) := fun K => by rw [a19.slR.len]; simp
      have hth1 := hJ1.he.th
      by_cases hne : edgesP left = []
      · obtain ⟨hta, _⟩ := hI.done hG hbi hne
        subst hta
        refine ⟨.exit 0, [], g1, ?_, .inr ⟨by simp, rfl, es, left, hEL, hne, hJ1⟩⟩
        unfold f42_l1
        simp only [d78, nx_eq, cell_of l1]
        rw [show ([lv] : List Value)[0]? = some lv from rfl]
        simp only [Option.bind_some]
        rw [calls_eq (xs := [lv]) e77, hn19, hne]
        rfl
      · have hpos : 0 < (edgesP left).length := List.length_pos_iff.2 hne
        obtain ⟨v21, g2, e76, x2, a21⟩ := s76A ht1024 g1
        have hJ2 := hJ1.grow x2.toExt
        have hn21 : ∀ {T : Type} (K : Int → Option T), len v21 K = K ((elts there).length : Int) := fun K => by rw [a21.slR.len]; simp
        obtain ⟨w, g3, e3, m, ear, hJ3⟩ := s42_l2 (k := 600) (ws0 := [iv 0]) hG hbi hs hEL (by omega) hne hJ2 a21.slR (by omega) rfl
        have hel : 2 ≤ m.length := ear.len
        have hdd := dsum_delP m hI.gr ear.tr (by rintro rfl; simp at hel)
        refine ⟨.normal, [], g3, ?_, .inl ⟨rfl, dsum (delP left m), by omega, es ++ [m], _, _, rfl, .next hEL ear, hJ3⟩⟩
        unfold f42_l1
        simp only [d78, nx_eq, cell_of l1]
        rw [show ([lv] : List Value)[0]? = some lv from rfl]
        simp only [Option.bind_some]
        rw [calls_eq (xs := [lv]) e77, hn19, lt_t (by omega), ifB_true]
        simp only [d3, cell_of hth1]
        rw [show ([iv (there : Int)] : List Value)[0]? = some (iv there) from rfl]
        simp only [Option.bind_some]
        rw [asI_int, calls_eq (xs := [iv there]) e76, hn21]
        refine (lp_eq e3).trans ?_
        rw [onE_exit, if_pos rfl]
        rfl)
    (dsum left) 600 (by
      have := hEL.inv hG
      have := this.sum
      have := (hEL.inv hG).two
      omega) (ws := []) (h := g) ⟨es, left, there, rfl, hEL, hJ⟩
  exact ⟨w, g', hlp, es', left', q⟩

theorem s42_bad {v : Value} {l : List Int} {h : H} (hval : validG l = false) (hs : SlR h 3 1 v (cellsI l)) : rn 42 #[v] h = some (.tuple #[.slice none 0 0, iv 2], h) := by
  have c63 := fun (K : Value → H → Option (Value × H)) => calls_eq (K := K) (xs := [v]) (s63 hs)
  rw [hval] at c63
  refine y42 (k := 0) ?_
  unfold f42
  rw [c63]
  rfl

theorem s42_single {v : Value} {g : List Nat} {h : H} (hg : GrN g) (hval : validG (g.map Int.ofNat) = true) (hs : SlR h 3 1 v (cellsN g)) (hd : doubleP g = false) : rn 42 #[v] h = some (.tuple #[.slice none 0 0, iv 5], h) := by
  have c63 := fun (K : Value → H → Option (Value × H)) => calls_eq (K := K) (xs := [v]) (s63 (l := g.map Int.ofNat) (h := h) (by rw [cellsN_eq]; exact hs))
  rw [if_pos hval] at c63
  refine y42 (k := 0) ?_
  unfold f42
  rw [c63, ext20, ext21, asB_bool, show (!true) = false from rfl, ifB_false, calls_eq (xs := [v]) (s81 hg hs), asB_bool, hd]
  rfl

set_option maxHeartbeats 2000000 in
theorem s42 {v : Value} {G : List Nat} {h : H} (hG : GrN G) (hval : validG (G.map Int.ofNat) = true) (hs : SlR h 3 1 v (cellsN G)) (hd : doubleP G = true) :
    ∃ v' h' vs es left, rn 42 #[v] h = some (.tuple #[v', iv 0], h') ∧ Exw h h' ∧ EL G es left (allN G) ∧ edgesP left = [] ∧ SlR h' 102 1 v' (cellsV vs) ∧ AllSl vs ∧ vs.length = es.length ∧
      ∀ (i : Nat) (x : Value) (m : List Nat), vs[i]? = some x → es[i]? = some m → SlR h' 3 1 x (cellsN m) := by
  have hlen := hG.len
  have hpow := hG.pow
  have hbi := double_bi hG hd
  have h3le : 3 ≤ G.length := by
    unfold doubleP at hd
    simp only [Bool.and_eq_true, decide_eq_true_eq] at hd
    exact hd.1.1
  have hG0 : G ≠ [] := by rintro rfl; simp at h3le
  have c63 := fun (K : Value → H → Option (Value × H)) => calls_eq (K := K) (xs := [v]) (s63 (l := G.map Int.ofNat) (h := h) (by rw [cellsN_eq]; exact hs))
  rw [if_pos hval] at c63
  have c81 := fun (K : Value → H → Option (Value × H)) => calls_eq (K := K) (xs := [v]) (s81 hG hs)
  rw [hd] at c81
  refine s85 hG.toGrB hG0 hs fun v5 h3 bb e85 x3 hbb hia => ?_
  obtain ⟨c5, hv5, _⟩ := hia.val
  have hbl := hia.lt
  obtain ⟨h4, hh4⟩ : ∃ h4, h4 = h3.new (.row [.slice none 0 0] 78 true) := ⟨_, rfl⟩
  obtain ⟨h5, hh5⟩ : ∃ h5, h5 = h4.set h3.nx (.row [v5] 78 true) := ⟨_, rfl⟩
  obtain ⟨h6, hh6⟩ : ∃ h6, h6 = h5.new (.row [iv 0] 3 true) := ⟨_, rfl⟩
  obtain ⟨h7, hh7⟩ : ∃ h7, h7 = h6.set h5.nx (.row [iv 0] 3 true) := ⟨_, rfl⟩
  obtain ⟨h8, hh8⟩ : ∃ h8, h8 = h7.new (.row [.slice none 0 0] 56 true) := ⟨_, rfl⟩
  have n4 : h4.nx = h3.nx + 1 := by rw [hh4]; rfl
  have n5 : h5.nx = h3.nx + 1 := by rw [hh5, nx_set, n4]
  have n6 : h6.nx = h3.nx + 2 := by rw [hh6, nx_new, n5]
  have n7 : h7.nx = h3.nx + 2 := by rw [hh7, nx_set, n6]
  have n8 : h8.nx = h3.nx + 3 := by rw [hh8, nx_new, n7]
  have n3 := x3.nx
  have x5 : Ext h3 h5 := by rw [hh5, hh4]; exact ((Ext.refl h3).new' _).set (Nat.le_refl _) _
  have x7 : Ext h5 h7 := by rw [hh7, hh6]; exact ((Ext.refl h5).new' _).set (Nat.le_refl _) _
  have x8 : Ext h7 h8 := by rw [hh8]; exact Ext.new _ _
  have w4 : ∀ (K : H → Option (Value × H)), (wrc 1 h4 h3.nx 0 v5).bind K = K h5 := fun K => by
    rw [hh5, hh4, hv5]; unfold wrc; rw [blk_new_self]; rfl
  have w6 : ∀ (K : H → Option (Value × H)), (wrc 1 h6 h5.nx 0 (.int .i64 0)).bind K = K h7 := fun K => by
    rw [hh7, hh6]; unfold wrc; rw [blk_new_self]; rfl
  have b3 : h5.blk h3.nx = some (.row [v5] 78 true) := by rw [hh5]; exact blk_set_self _ _ _
  have b5 : h7.blk h5.nx = some (.row [iv 0] 3 true) := by rw [hh7]; exact blk_set_self _ _ _
  have b7 : h8.blk h7.nx = some (.row [.slice none 0 0] 56 true) := by rw [hh8]; exact blk_new_self _ _
  have xh8 : Ext h3 h8 := x5.trans (x7.trans x8)
  have hbv : ∀ b, blkOf v5 = some b → b = bb := fun b hb => by rw [hv5] at hb; cases hb; rfl
  have hJ8 : EJ G.length h h5.nx h3.nx h7.nx [] G 0 h8 := by
    refine ⟨⟨(x8.blk _ (by omega)).trans b5, ⟨v5, ((x7.trans x8).blk _ (by omega)).trans b3, hia.slN.ext xh8, fun e => by have := hbv _ e; omega⟩, hG.toGrB, rfl, Nat.two_pow_pos _, by omega, by omega⟩,
      ⟨.slice none 0 0, [], b7, .nil, (fun x hx => by cases hx), ⟨rfl, fun i x m hx => by simp at hx⟩⟩, x3.toExt.trans xh8, by omega, by omega, by omega, by omega⟩
  obtain ⟨v6, h9, e77, x9, a6⟩ := s77 hG.toGrB (hs.ext (x3.toExt.trans xh8))
  -- the first edge
  obtain ⟨q, E, hE⟩ : ∃ q E, edgesP G = q :: E := by
    cases hq : edgesP G with
    | nil =>
      exfalso
      have hc := hbi.conn (Nat.lt_of_lt_of_le (allN_lt G) hpow) 0 1 (bit_all (by omega)) (bit_all (by omega))
      obtain ⟨u, hu, _⟩ := hc.next (by omega)
      have := (dsum_zero hG).2 hq
      have := dsum_delE hG hu
      omega
    | cons q E => exact ⟨q, E, rfl⟩
  obtain ⟨a, b⟩ := q
  obtain ⟨hab, hbn, hadj⟩ := mem_edges.1 (show (a, b) ∈ edgesP G by rw [hE]; exact List.mem_cons_self)
  simp only at hab hbn hadj
  obtain ⟨h11, hh11⟩ : ∃ h11, h11 = (h9.new (.row [.int .i64 0, .int .i64 0] 32 true)).set h9.nx (.row [iv a, iv b] 32 true) := ⟨_, rfl⟩
  have b11 : h11.blk h9.nx = some (.row [iv a, iv b] 32 true) := by rw [hh11]; exact blk_set_self _ _ _
  have n11 : h11.nx = h9.nx + 1 := by rw [hh11]; rfl
  have x11 : Ext h9 h11 := by rw [hh11]; exact ((Ext.refl h9).new' _).set (Nat.le_refl _) _
  have xh11 : Ext h h11 := (x3.toExt.trans xh8).trans (x9.toExt.trans x11)
  obtain ⟨v9, h12, e87, x12, bb2, hbb2, hia2⟩ := s87 (a := a) (b := b) hG.toGrB (by omega) hbn (by omega) (hs.ext xh11)
  have xh12 : Ext h h12 := xh11.trans x12.toExt
  have b12 : h12.blk h9.nx = some (.row [iv a, iv b] 32 true) := (x12.blk _ (by omega)).trans b11
  have hgd := hG.delE hadj
  have hdl : (delE G a b).length = G.length := delE_len G a b
  have h2b : 2 ^ b < 2 ^ G.length := Nat.pow_lt_pow_right (by omega) hbn
  have hallE : allN (delE G a b) = allN G := allN_delE G a b
  obtain ⟨v13, h14, e88, x14, hor⟩ := s88 (a := a) (to := 2 ^ b) (thr := allN G) hgd.toGrB hia2.slN (by omega) (by rw [hdl]; exact h2b) (by rw [hdl]; exact allN_lt G)
  have hmono : ∀ i, (allN G).testBit i = true → (allN G ||| 2 ^ b).testBit i = true := fun i hi => by rw [Nat.testBit_or, hi]; rfl
  rcases hor with ⟨l, x, way, hhd, hx, a13⟩ | ⟨_, hno⟩
  · have hxb : x = b := by rw [Nat.testBit_two_pow, decide_eq_true_iff] at hx; exact hx.symm
    subst hxb
    have ear := first_ear hG hadj way hhd
    obtain ⟨h15, hh15⟩ : ∃ h15, h15 = h14.new (.row [iv a] 3 true) := ⟨_, rfl⟩
    have x15 : Exw h14 h15 := by rw [hh15]; exact Exw.new _ _
    have n15 : h15.nx = h14.nx + 1 := by rw [hh15]; rfl
    have n12 := x12.nx
    have n14 := x14.nx
    have n9 := x9.nx
    have hlit : AqR h14.nx h15 3 1 (.slice (some ⟨h14.nx, 0, none⟩) 1 1) (cellsN [a]) := by
      rw [hh15]
      exact AqR.lit (l := [[iv (a : Int)]]) (Nat.le_refl _) rfl (by simp) (by simp)
    have hll := nodes_le way.nodup way.lt
    obtain ⟨v16, h16, ea, a16, n16, k16, _⟩ := (a13.ext x15.toExt).app (y := .slice (some ⟨h14.nx, 0, none⟩) 1 1) (ys := cellsN [a]) (P := Tryd.prog) (t := 102) (t' := 102) app102 app102 hlit.slR (cellsN_scal _) (by simp; omega) (by omega)
    have hcat : cellsN l.reverse ++ cellsN [a] = cellsN (l.reverse ++ [a]) := by simp
    rw [hcat] at a16
    have x16 : Ext h8 h16 := ⟨by omega, fun y hy => by
      rw [k16 y (by omega) (fun e => by have := (a13.blkOf e).1; omega), x15.blk y (by omega), x14.blk y (by omega), x12.blk y (by omega), x11.blk y (by omega)]
      exact x9.blk y hy⟩
    have hJ16 := hJ8.grow x16
    obtain ⟨p, qq, r, rfl⟩ := a16.isSl
    obtain ⟨h17, e86, hJ17⟩ := hJ16.add (m := l.reverse ++ [a]) ear.lt (tra_ne hG ear.tr) (by simp; omega) a16.slR (fun e => by have := (a16.blkOf e).1; omega) (by simp)
    rw [List.nil_append, Nat.zero_or] at hJ17
    obtain ⟨w, h29, el1, es, left, hEL, hle, hJ29⟩ := s42_l1 (h3 := h3) (h5 := h5) (h7 := h7) hG hbi hs (.first ear) hJ17
    obtain ⟨ov, vs, o1, o2, o3, o4⟩ := hJ29.out
    have e1 : ∀ (K : Value → Option (Value × H)), (six v6 0 2 fun b o => ld Tryd.prog h9 32 b o K) = K (.agg #[iv a, iv x]) := fun K =>
      a6.slR.ldA ag32 sz32 (by omega) (x := [iv a, iv x]) (by simp [hE]) K
    have w10 : ∀ (K : H → Option (Value × H)), (wrc 2 (h9.new (.row [.int .i64 0, .int .i64 0] 32 true)) h9.nx 0 (.agg #[iv a, iv x])).bind K = K h11 := fun K => by
      rw [hh11]; unfold wrc; rw [blk_new_self]; rfl
    have hsame1 : same h12 h11 = true := by simp [same, x12.wr]
    have hsame2 : same h14 h12 = true := by simp [same, x14.wr]
    have hsame3 : same h15 h14 = true := by simp [same, x15.wr]
    have b14 : h14.blk h9.nx = some (.row [iv a, iv x] 32 true) := (x14.blk _ (by omega)).trans b12
    have hshl : AM.shl .i64 1 (x : Int) = ((2 ^ x : Nat) : Int) := shl1_nat (by omega)
    have f1 : freq h9.nx h11.nx (same h12 h11) = true := by simp [freq, hsame1]; omega
    have f2 : freq h9.nx h12.nx (same h12 h12) = true := by simp [freq, same_self]; omega
    have f3 : freq h9.nx h12.nx (same h14 h12) = true := by simp [freq, hsame2]; omega
    have f4 : freq h9.nx h14.nx (same h15 h14) = true := by simp [freq, hsame3]; omega
    have e42 : f42 rn 600 v h = some (.tuple #[ov, iv 0], h29) := by
      unfold f42
      rw [c63, ext20, ext21, asB_bool, show (!true) = false from rfl, ifB_false, c81, asB_bool, show (!true) = false from rfl, ifB_false, calls_eq (xs := [v]) e85, al_eq, ← hh4, w78, nx_eq, w4, al_eq, ← hh6, w3, nx_eq, w6, al_eq, ← hh8, calls_eq (xs := [v]) e77, e1, al_eq, w32, nx_eq, w10]
      simp only [aix_in (show (0 : Int) ≤ 0 by omega) (show (0 : Int) < ((2 : Nat) : Int) by omega), aix_in (show (0 : Int) ≤ 1 by omega) (show (1 : Int) < ((2 : Nat) : Int) by omega), d32, d3, at_, show h11.rd h9.nx 0 2 = some [iv (a : Int), iv (x : Int)] from rd_all b11 rfl, Option.bind_some]
      rw [show (Value.agg [iv (a : Int), iv (x : Int)].toArray) = .agg #[iv a, iv x] from rfl, calls_eq (xs := [v, .agg #[iv a, iv x]]) e87]
      simp only [cell_of b12, cell_of b14]
      rw [show ([iv (a : Int), iv (x : Int)] : List Value)[0 + (0 : Int).toNat * 1]? = some (iv a) from rfl, show ([iv (a : Int), iv (x : Int)] : List Value)[0 + (1 : Int).toNat * 1]? = some (iv x) from rfl]
      simp only [nx_eq, Option.bind_some, asI_int, f1, ck_true]
      rw [nn_ge (show (0 : Int) ≤ (x : Int) by omega), calls_eq (xs := [v]) (s65 hG.toGrB (hs.ext xh12)), asI_int]
      simp only [nx_eq, f2, ck_true]
      rw [hshl, calls_eq (xs := [v9, iv a, iv ((2 ^ x : Nat) : Int), iv (allN G : Nat)]) e88]
      simp only [cell_of b14]
      rw [show ([iv (a : Int), iv (x : Int)] : List Value)[0 + (0 : Int).toNat * 1]? = some (iv a) from rfl]
      simp only [nx_eq, Option.bind_some, asI_int, f1, f2, f3, ck_true]
      rw [bls_some (bls102 (a : Int) h14), ← hh15]
      simp only [nx_eq, f4, ck_true]
      rw [ea, calls_eq (xs := [.slice p qq r, pt h5.nx 0, pt h3.nx 0, pt h7.nx 0]) e86]
      rw [lp_eq el1]
      rw [onE_exit, if_pos rfl]
      simp only [d56, nx_eq, cell_of o1]
      rfl
    obtain ⟨h30, e30, m30, w30⟩ := x42 e42 o2.slR.notR2
    exact ⟨ov, h30, vs, es, left, e30, w30 hJ29.ext, hEL, hle, o2.slR.ext m30.ext, o3, o4.1, fun i y m hy hm => (o4.2 i y m hy hm).1.ext m30.ext⟩
  · have hw := first_way hG hbi h3le hadj
    exact absurd (hw.mono hmono) (hno b (by rw [Nat.testBit_two_pow, decide_eq_true rfl]))

end Go.AM

end

section

/- Ears, plainly: what a check of ears says, and that ears leave no cut node. -/
namespace Go.AM
open Go.Proofs
/-! ### How many edges -/
theorem perm_len {α : Type} {a b : List α} (ha : a.Nodup) (hb : b.Nodup) (h : ∀ x, x ∈ a ↔ x ∈ b) : a.length = b.length :=
  ((List.perm_ext_iff_of_nodup ha hb).2 h).length_eq

/-! ### One more node at the end -/
theorem delP_snoc : ∀ (m : List Nat) (g : List Nat) (a b : Nat), delP g (m ++ [a, b]) = delE (delP g (m ++ [a])) a b
  | [], _, _, _ => rfl
  | [_], _, _, _ => rfl
  | x :: y :: m, g, a, b => delP_snoc (y :: m) (delE g x y) a b

theorem tra_snoc : ∀ (m : List Nat) (g : List Nat) (a b : Nat), Tra g (m ++ [a, b]) ↔ Tra g (m ++ [a]) ∧ adj (delP g (m ++ [a])) a b = true
  | [], _, _, _ => ⟨fun h => ⟨trivial, h.1⟩, fun h => ⟨h.2, trivial⟩⟩
  | [x], _, _, _ => ⟨fun h => ⟨⟨h.1, trivial⟩, h.2.1⟩, fun h => ⟨h.1.1, h.2, trivial⟩⟩
  | x :: y :: m, g, a, b => by
    have := tra_snoc (y :: m) (delE g x y) a b
    exact ⟨fun h => ⟨⟨h.1, (this.1 h.2).1⟩, (this.1 h.2).2⟩, fun h => ⟨h.1.1, this.2 ⟨h.1.2, h.2⟩⟩⟩

/-! ### An ear that may be the first -/
structure EarK (k n : Nat) (left : List Nat) (there : Nat) (m : List Nat) : Prop where
  len : 2 ≤ m.length
  first : k = 0 → 4 ≤ m.length ∧ nb m 0 = nb m (m.length - 1)
  lt : ∀ x ∈ m, x < n
  tr : Tra left m
  fresh : ∀ i, i < m.length → (0 < k ∨ i + 1 < m.length) → nb m i ∉ m.take i
  bits : 0 < k → ∀ i, i < m.length → (there.testBit (nb m i) = true ↔ i = 0 ∨ i + 1 = m.length)

theorem nodup_fresh {m : List Nat} : m.Nodup ↔ ∀ i, i < m.length → nb m i ∉ m.take i := by
  constructor
  · intro h i hi hm
    obtain ⟨j, hj, he⟩ := mem_nb hm
    rw [List.length_take] at hj
    have h1 : nb (m.take i) j = nb m j := by
      unfold nb; rw [List.getD_eq_getElem?_getD, List.getD_eq_getElem?_getD, List.getElem?_take_of_lt (by omega)]
    rw [h1] at he
    unfold nb at he
    rw [List.getD_eq_getElem?_getD, List.getD_eq_getElem?_getD, List.getElem?_eq_getElem hi, List.getElem?_eq_getElem (show j < m.length by omega)] at he
    have := (List.getElem_inj h).1 he
    omega
  · intro h
    rw [List.nodup_iff_pairwise_ne, List.pairwise_iff_getElem]
    intro j i hj hi hji he
    refine h i hi ?_
    have : nb m i = m[i] := by unfold nb; rw [List.getD_eq_getElem?_getD, List.getElem?_eq_getElem hi]; rfl
    rw [this, ← he, List.mem_iff_getElem]
    exact ⟨j, by rw [List.length_take]; omega, by rw [List.getElem_take]⟩

theorem earK_one {g m : List Nat} {there : Nat} : EarK 0 g.length g there m ↔ Ear1 g m := by
  constructor
  · intro e
    obtain ⟨h4, hh⟩ := e.first rfl
    have hne : m ≠ [] := by rintro rfl; simp at h4
    refine ⟨h4, ?_, ?_, e.tr, e.lt⟩
    · unfold nb at hh
      rw [List.getD_eq_getElem?_getD, List.getD_eq_getElem?_getD, List.getElem?_eq_getElem (show 0 < m.length by omega), List.getElem?_eq_getElem (show m.length - 1 < m.length by omega)] at hh
      rw [List.head?_eq_getElem?, List.getLast?_eq_getElem?, List.getElem?_eq_getElem (show 0 < m.length by omega), List.getElem?_eq_getElem (show m.length - 1 < m.length by omega)]
      exact congrArg some hh
    · rw [nodup_fresh]
      intro i hi
      rw [List.length_dropLast] at hi
      have h1 := e.fresh i (by omega) (.inr (by omega))
      have h2 : nb m.dropLast i = nb m i := by
        unfold nb; rw [List.getD_eq_getElem?_getD, List.getD_eq_getElem?_getD, List.getElem?_dropLast, if_pos (by omega)]
      rw [h2, List.dropLast_eq_take, List.take_take, Nat.min_eq_left (by omega)]
      exact h1
  · intro e
    have h4 := e.len
    have hh := e.ends
    refine ⟨by omega, fun _ => ⟨h4, ?_⟩, e.lt, e.tr, ?_, fun h => absurd h (by omega)⟩
    · rw [List.head?_eq_getElem?, List.getLast?_eq_getElem?] at hh
      unfold nb
      rw [List.getD_eq_getElem?_getD, List.getD_eq_getElem?_getD, hh]
    · intro i hi hor
      have h1 := nodup_fresh.1 e.nodup i (by rw [List.length_dropLast]; omega)
      have h2 : nb m.dropLast i = nb m i := by
        unfold nb; rw [List.getD_eq_getElem?_getD, List.getD_eq_getElem?_getD, List.getElem?_dropLast, if_pos (by omega)]
      rw [h2, List.dropLast_eq_take, List.take_take, Nat.min_eq_left (by omega)] at h1
      exact h1

theorem earK_two {k n there : Nat} {left m : List Nat} (hk : 0 < k) : EarK k n left there m ↔ Ear2 n left there m := by
  constructor
  · intro e
    exact ⟨e.len, nodup_fresh.2 fun i hi => e.fresh i hi (.inl hk), e.tr, e.bits hk, e.lt⟩
  · intro e
    exact ⟨e.len, fun h => absurd h (by omega), e.lt, e.tr, fun i hi _ => nodup_fresh.1 e.nodup i hi, fun _ => e.bits⟩

/-! ### The check of a list -/
/-- What a check has: nothing yet, or ears. -/
def ELk (g : List Nat) (es : List (List Nat)) (left : List Nat) (there : Nat) : Prop := (es = [] ∧ left = g ∧ there = 0) ∨ EL g es left there

theorem ELk.add {g : List Nat} {es : List (List Nat)} {left : List Nat} {there : Nat} {m : List Nat} (h : ELk g es left there) (e : EarK es.length g.length left there m) : ELk g (es ++ [m]) (delP left m) (there ||| setOf m) := by
  rcases h with ⟨rfl, rfl, rfl⟩ | h
  · rw [Nat.zero_or, List.nil_append]
    exact .inr (.first (earK_one.1 e))
  · have : 0 < es.length := by
      cases h with
      | first => simp
      | next => simp
    exact .inr (.next h ((earK_two this).1 e))

theorem EL.pos {g : List Nat} {es : List (List Nat)} {left : List Nat} {there : Nat} (h : EL g es left there) : 0 < es.length := by
  cases h with
  | first => simp
  | next => simp

/-- A list of ears takes a graph together. -/
def EarsOk (g : List Nat) (LL : List (List Int)) : Prop := ∃ es left, LL = es.map (fun m => m.map Int.ofNat) ∧ EL g es left (allN g) ∧ edgesP left = []

theorem EL.split {g : List Nat} {es : List (List Nat)} {left : List Nat} {there : Nat} (h : EL g es left there) : ∀ (i : Nat) (m : List Nat), es[i]? = some m → ∃ left' there', ELk g (es.take i) left' there' ∧ EarK i g.length left' there' m := by
  induction h with
  | @first m e =>
    intro i x hx
    have hi := (List.getElem?_eq_some_iff.1 hx).1
    simp at hi
    subst hi
    simp at hx
    subst hx
    exact ⟨g, 0, .inl ⟨rfl, rfl, rfl⟩, earK_one.2 e⟩
  | @next es left there m h e ih =>
    intro i x hx
    have hi := (List.getElem?_eq_some_iff.1 hx).1
    by_cases hlt : i < es.length
    · rw [List.getElem?_append_left hlt] at hx
      obtain ⟨l', t', h1, h2⟩ := ih i x hx
      refine ⟨l', t', ?_, h2⟩
      rw [List.take_append_of_le_length (by omega)]
      exact h1
    · simp at hi
      have : i = es.length := by omega
      subst this
      simp at hx
      subst hx
      refine ⟨left, there, ?_, (earK_two h.pos).2 e⟩
      rw [List.take_append_of_le_length (by omega), List.take_of_length_le (by omega)]
      exact .inr h

theorem ELk.fun_ {g : List Nat} {es : List (List Nat)} {l1 l2 : List Nat} {t1 t2 : Nat} (h1 : ELk g es l1 t1) (h2 : ELk g es l2 t2) : l1 = l2 ∧ t1 = t2 := by
  have key : ∀ {es : List (List Nat)} {l1 : List Nat} {t1 : Nat}, EL g es l1 t1 → ∀ {l2 : List Nat} {t2 : Nat}, EL g es l2 t2 → l1 = l2 ∧ t1 = t2 := by
    intro es l1 t1 h
    induction h with
    | @first m e =>
      intro l2 t2 h2
      generalize hes : [m] = es at h2
      cases h2 with
      | first e' => cases hes; exact ⟨rfl, rfl⟩
      | next h' e' =>
        have h3 := h'.pos
        have h5 := congrArg List.length hes
        rw [List.length_append, List.length_singleton, List.length_singleton] at h5
        omega
    | @next es left there m h e ih =>
      intro l2 t2 h2
      generalize hes : es ++ [m] = es' at h2
      cases h2 with
      | first e' =>
        have h3 := h.pos
        have h5 := congrArg List.length hes
        rw [List.length_append, List.length_singleton, List.length_singleton] at h5
        omega
      | next h' e' =>
        obtain ⟨h3, h4⟩ := List.append_inj' hes rfl
        cases h3; cases h4
        obtain ⟨rfl, rfl⟩ := ih h'
        exact ⟨rfl, rfl⟩
  rcases h1 with ⟨rfl, rfl, rfl⟩ | h1
  · rcases h2 with ⟨_, rfl, rfl⟩ | h2
    · exact ⟨rfl, rfl⟩
    · exact absurd h2.pos (by simp)
  · rcases h2 with ⟨rfl, _, _⟩ | h2
    · exact absurd h1.pos (by simp)
    · exact key h1 h2

theorem EL.ear_len {g : List Nat} {es : List (List Nat)} {left : List Nat} {there : Nat} (h : EL g es left there) : ∀ m ∈ es, m.length ≤ g.length + 1 := by
  intro m hm
  obtain ⟨i, hi, rfl⟩ := List.mem_iff_getElem.1 hm
  obtain ⟨l', t', hk0, e⟩ := h.split i _ (List.getElem?_eq_getElem hi)
  by_cases hk : 0 < i
  · have e2 := (earK_two hk).1 e
    have := nodes_le e2.nodup e2.lt
    omega
  · have : i = 0 := by omega
    subst this
    have hlg : l' = g := by
      rcases hk0 with ⟨_, h1, _⟩ | h1
      · exact h1
      · exact absurd h1.pos (by simp)
    rw [hlg] at e
    have e1 := earK_one.1 e
    have := nodes_le e1.nodup (fun x hx => e1.lt x (List.dropLast_subset _ hx))
    rw [List.length_dropLast] at this
    omega

theorem EL.three {g : List Nat} (hg : GrN g) {es : List (List Nat)} {left : List Nat} {there : Nat} (h : EL g es left there) : 3 ≤ pop there := by
  have hlen := hg.len
  induction h with
  | @first m e =>
    obtain ⟨a, p, rfl, hn, hp⟩ := e.snoc
    have hset : setOf (a :: (p ++ [a])) = setOf (a :: p) := Nat.eq_of_testBit_eq fun i => by
      rw [Bool.eq_iff_iff, setOf_bit, setOf_bit]
      simp only [List.mem_cons, List.mem_append, List.not_mem_nil, or_false]
      exact ⟨fun h => h.elim .inl fun h => h.elim .inr .inl, fun h => h.elim .inl fun h => .inr (.inl h)⟩
    rw [hset, pop_setOf hn fun x hx => Nat.lt_of_lt_of_le (e.lt x (by rw [← List.cons_append]; exact List.mem_append_left _ hx)) hlen, List.length_cons]
    omega
  | @next es left there m h e ih =>
    exact Nat.le_trans ih (pop_le_of fun j hj => by rw [Nat.testBit_or, hj]; rfl)

theorem EarsOk.small {g : List Nat} (hg : GrN g) {LL : List (List Int)} (h : EarsOk g LL) : LL.length ≤ 48 ∧ ∀ x ∈ LL, x.length ≤ 11 := by
  have hlen := hg.len
  obtain ⟨es, left, rfl, h1, h2⟩ := h
  have hs := (h1.inv hg).sum
  have h3 := h1.three hg
  have hd := dsum_le g
  refine ⟨by rw [List.length_map]; omega, fun x hx => ?_⟩
  obtain ⟨m, hm, rfl⟩ := List.mem_map.1 hx
  have := h1.ear_len m hm
  rw [List.length_map]
  omega

/-! ### No cut node -/
/-- Along a stretch of a walk, within what has it. -/
theorem reach_up {g : List Nat} {m : List Nat} {S : Nat} (hc : Ch g m) : ∀ (d i : Nat), i + d < m.length → (∀ t, i ≤ t → t ≤ i + d → S.testBit (nb m t) = true) → Rch g S (nb m i) (nb m (i + d))
  | 0, i, _, _ => .base
  | d + 1, i, h, hS => by
    refine .step (reach_up hc d i (by omega) fun t h1 h2 => hS t h1 (by omega)) ?_ (hS _ (by omega) (by omega))
    exact ch_get m hc (i + d) (by omega)

theorem nb_inj {m : List Nat} (h : m.Nodup) {i j : Nat} (hi : i < m.length) (hj : j < m.length) (e : nb m i = nb m j) : i = j := by
  unfold nb at e
  rw [List.getD_eq_getElem?_getD, List.getD_eq_getElem?_getD, List.getElem?_eq_getElem hi, List.getElem?_eq_getElem hj] at e
  exact (List.getElem_inj h).1 e

theorem cycle_bi {g m : List Nat} (hg : GrN g) (e : Ear1 g m) : Bi g (setOf m) := by
  obtain ⟨a, p, rfl, hn, hp⟩ := e.snoc
  have hc := e.tr.ch _ hg
  have hsym := hg.sym
  have hmem : ∀ x, x ∈ a :: (p ++ [a]) ↔ x ∈ a :: p := fun x => by
    simp only [List.mem_cons, List.mem_append, List.not_mem_nil, or_false]
    exact ⟨fun h => h.elim .inl fun h => h.elim .inr .inl, fun h => h.elim .inl fun h => .inr (.inl h)⟩
  have hnb : ∀ i, i < p.length + 1 → nb (a :: (p ++ [a])) i = nb (a :: p) i := fun i hi => by
    rw [← List.cons_append]; exact nb_app (by simpa using hi)
  have hlast : nb (a :: (p ++ [a])) (p.length + 1) = a := by
    rw [← List.cons_append]; exact nb_snoc (a :: p) a
  intro w x y hx hy
  rw [bit_del, setOf_bit, hmem] at hx hy
  obtain ⟨i, hi, rfl⟩ := mem_nb hx.1
  obtain ⟨j, hj, rfl⟩ := mem_nb hy.1
  rw [List.length_cons] at hi hj
  have hmb : ∀ t, t < p.length + 2 → nb (a :: (p ++ [a])) t ∈ a :: (p ++ [a]) := fun t ht => nb_mem (by simpa using ht)
  have hin : ∀ t, t < p.length + 2 → nb (a :: (p ++ [a])) t ≠ w → (without (setOf (a :: (p ++ [a]))) (2 ^ w)).testBit (nb (a :: (p ++ [a])) t) = true := fun t ht hne => bit_del.2 ⟨setOf_bit.2 (hmb t ht), hne⟩
  -- from a lower place to a higher one
  have key : ∀ i j, i ≤ j → j < p.length + 1 → nb (a :: p) i ≠ w → nb (a :: p) j ≠ w → Rch g (without (setOf (a :: (p ++ [a]))) (2 ^ w)) (nb (a :: p) i) (nb (a :: p) j) := by
    intro i j hij hj hiw hjw
    by_cases hb : ∃ t, i ≤ t ∧ t ≤ j ∧ nb (a :: p) t = w
    · obtain ⟨t, h1, h2, h3⟩ := hb
      have hti : t ≠ i := fun e => hiw (by rw [← e]; exact h3)
      have htj : t ≠ j := fun e => hjw (by rw [← e]; exact h3)
      have hone : ∀ s, s < p.length + 1 → s ≠ t → nb (a :: p) s ≠ w := fun s hs hst e => hst (nb_inj hn (by simpa using hs) (by simp; omega) (e.trans h3.symm))
      have haw : a ≠ w := by
        have := hone 0 (by omega) (by omega)
        exact this
      have r1 := reach_up (S := without (setOf (a :: (p ++ [a]))) (2 ^ w)) hc i 0 (by simp; omega) (fun s _ h5 => hin s (by omega) (by rw [hnb s (by omega)]; exact hone s (by omega) (by omega)))
      have r2 := reach_up (S := without (setOf (a :: (p ++ [a]))) (2 ^ w)) hc (p.length + 1 - j) j (by simp; omega) (fun s h4 h5 => hin s (by omega) (by
        by_cases hs : s = p.length + 1
        · rw [hs, hlast]; exact haw
        · rw [hnb s (by omega)]; exact hone s (by omega) (by omega)))
      rw [Nat.zero_add, hnb i (by omega), hnb 0 (by omega)] at r1
      rw [show j + (p.length + 1 - j) = p.length + 1 by omega, hlast, hnb j hj] at r2
      have ha0 : (without (setOf (a :: (p ++ [a]))) (2 ^ w)).testBit a = true := bit_del.2 ⟨setOf_bit.2 (by simp), haw⟩
      have hjb : (without (setOf (a :: (p ++ [a]))) (2 ^ w)).testBit (nb (a :: p) j) = true := by
        have := hin j (by omega) (by rw [hnb j hj]; exact hjw)
        rw [hnb j hj] at this; exact this
      exact (r1.sym hsym ha0).trans (r2.sym hsym hjb)
    · have r := reach_up (S := without (setOf (a :: (p ++ [a]))) (2 ^ w)) hc (j - i) i (by simp; omega) (fun s h4 h5 => hin s (by omega) (by
        rw [hnb s (by omega)]; exact fun e => hb ⟨s, h4, by omega, e⟩))
      rw [show i + (j - i) = j by omega, hnb i (by omega), hnb j hj] at r
      exact r
  rcases Nat.le_total i j with h | h
  · exact key i j h hj hx.2 hy.2
  · refine (key j i h hi hy.2 hx.2).sym hsym ?_
    exact bit_del.2 ⟨setOf_bit.2 ((hmem _).2 hy.1), hy.2⟩

theorem ear_add_bi {g m left : List Nat} {there n : Nat} (hg : GrN g) (hsub : ∀ x y, adj left x y = true → adj g x y = true) (hgl : GrN left) (hb : Bi g there) (e : Ear2 n left there m) : Bi g (there ||| setOf m) := by
  have hsym := hg.sym
  have hl2 := e.len
  have hc : Ch g m := ch_of _ fun i hi => hsub _ _ (ch_get m (e.tr.ch m hgl) i hi)
  intro w
  have hS : ∀ x, (without (there ||| setOf m) (2 ^ w)).testBit x = true ↔ (there.testBit x = true ∨ x ∈ m) ∧ x ≠ w := fun x => by
    rw [bit_del, Nat.testBit_or, Bool.or_eq_true, setOf_bit]
  -- every node leads to one of the old ones
  have key : ∀ x, (there.testBit x = true ∨ x ∈ m) ∧ x ≠ w → ∃ z, there.testBit z = true ∧ z ≠ w ∧ Rch g (without (there ||| setOf m) (2 ^ w)) x z := by
    rintro x ⟨hx | hx, hxw⟩
    · exact ⟨x, hx, hxw, .base⟩
    · obtain ⟨i, hi, rfl⟩ := mem_nb hx
      by_cases hbw : ∃ t, i ≤ t ∧ t < m.length ∧ nb m t = w
      · obtain ⟨t, h1, h2, h3⟩ := hbw
        have hti : t ≠ i := fun e => hxw (by rw [← e]; exact h3)
        have hone : ∀ s, s < m.length → s ≠ t → nb m s ≠ w := fun s hs hst e' => hst (nb_inj e.nodup hs h2 (e'.trans h3.symm))
        have r := reach_up (S := without (there ||| setOf m) (2 ^ w)) hc i 0 (by omega) (fun s _ h5 => (hS _).2 ⟨.inr (nb_mem (by omega)), hone s (by omega) (by omega)⟩)
        rw [Nat.zero_add] at r
        have h0 := hone 0 (by omega) (by omega)
        exact ⟨nb m 0, (e.bits 0 (by omega)).2 (.inl rfl), h0, r.sym hsym ((hS _).2 ⟨.inr (nb_mem (by omega)), h0⟩)⟩
      · have r := reach_up (S := without (there ||| setOf m) (2 ^ w)) hc (m.length - 1 - i) i (by omega) (fun s h4 h5 => (hS _).2 ⟨.inr (nb_mem (by omega)), fun e' => hbw ⟨s, h4, by omega, e'⟩⟩)
        rw [show i + (m.length - 1 - i) = m.length - 1 by omega] at r
        exact ⟨nb m (m.length - 1), (e.bits _ (by omega)).2 (.inr (by omega)), fun e' => hbw ⟨m.length - 1, by omega, by omega, e'⟩, r⟩
  intro x y hx hy
  obtain ⟨z1, a1, a2, a3⟩ := key x ((hS x).1 hx)
  obtain ⟨z2, b1, b2, b3⟩ := key y ((hS y).1 hy)
  have hz := (hb w z1 z2 (bit_del.2 ⟨a1, a2⟩) (bit_del.2 ⟨b1, b2⟩)).mono (W' := without (there ||| setOf m) (2 ^ w)) fun i hi => by
    obtain ⟨h1, h2⟩ := bit_del.1 hi
    exact (hS i).2 ⟨.inl h1, h2⟩
  exact (a3.trans hz).trans (b3.sym hsym hy)

theorem EL.bi {g : List Nat} (hg : GrN g) {es : List (List Nat)} {left : List Nat} {there : Nat} (h : EL g es left there) : Bi g there := by
  induction h with
  | first e => exact cycle_bi hg e
  | next h e ih =>
    have hI := h.inv hg
    exact ear_add_bi hg hI.sub hI.gr ih e

/-- Ears are in a double graph alone. -/
theorem EarsOk.double {g : List Nat} (hg : GrN g) {LL : List (List Int)} (h : EarsOk g LL) : doubleP g = true := by
  obtain ⟨es, left, _, h1, _⟩ := h
  have hb := h1.bi hg
  have h3 := h1.three hg
  have hp : pop (allN g) = g.length := (pop_all hg.len).1
  have := (cand2_iff hg (allN_lt g)).2 ⟨by omega, hb⟩
  unfold cand2 at this
  unfold doubleP
  rw [Bool.and_eq_true, Bool.and_eq_true] at this
  rw [this.1.2, this.2, decide_eq_true (by omega)]
  rfl

end Go.AM

end

section

/- The document's check of ears: edges that are used. -/
namespace Go.AM
open Go.Proofs
variable {R : Type}
attribute [local simp] nx_eq nx_new nx_set blk_new blk_set asI_int asK_int asB_bool asP_ptr al_eq bx_eq len_slice onE_exit onE_ret onR_ret Value.cells cell_new cell_set rd_new rd_set off eq lt le ifB gv out ext20 ext21
/-! ### Plain -/
theorem tra_pre : ∀ (p q : List Nat) (g : List Nat), Tra g (p ++ q) → Tra g p
  | [], _, _, _ => trivial
  | [_], _, _, _ => trivial
  | a :: b :: p, q, g, h => ⟨h.1, tra_pre (b :: p) q (delE g a b) h.2⟩

section
variable {g left : List Nat} {used : List (Nat × Nat)}
end
/-! ### The walk -/
end Go.AM

end

section

/- The document's check of ears: whole. -/
namespace Go.AM
open Go.Proofs
variable {R : Type}
attribute [local simp] nx_eq nx_new nx_set blk_new blk_set asI_int asK_int asB_bool asP_ptr al_eq bx_eq len_slice onE_exit onE_ret onR_ret Value.cells cell_new cell_set rd_new rd_set off eq lt le ifB gv out ext20 ext21
/-! ### Plain -/
theorem setOf_snoc (q : List Nat) (x : Nat) : setOf (q ++ [x]) = setOf q ||| 2 ^ x := Nat.eq_of_testBit_eq fun i => by
  rw [Bool.eq_iff_iff, Nat.testBit_or, Bool.or_eq_true, setOf_bit, setOf_bit, List.mem_append, List.mem_singleton, Nat.testBit_two_pow, decide_eq_true_iff]
  exact ⟨fun h => h.elim .inl fun e => .inr e.symm, fun h => h.elim .inl fun e => .inr e.symm⟩

theorem map_inj {a b : List Nat} (h : a.map Int.ofNat = b.map Int.ofNat) : a = b := by
  have := congrArg (List.map Int.toNat) h
  rw [List.map_map, List.map_map] at this
  have e : (Int.toNat ∘ Int.ofNat) = id := rfl
  rw [e, List.map_id, List.map_id] at this
  exact this

theorem map2_inj {a b : List (List Nat)} (h : a.map (fun m => m.map Int.ofNat) = b.map (fun m => m.map Int.ofNat)) : a = b := by
  induction a generalizing b with
  | nil =>
    cases b with
    | nil => rfl
    | cons => simp at h
  | cons x a ih =>
    cases b with
    | nil => simp at h
    | cons y b =>
      rw [List.map_cons, List.map_cons, List.cons.injEq] at h
      rw [map_inj h.1, ih h.2]

section
variable {G : List Nat} {es : List (List Nat)} {left : List Nat} {met : Nat}
structure ElB (G : List Nat) (es : List (List Nat)) (left : List Nat) (met : Nat) : Prop where
  gr : GrN left
  len : left.length = G.length
  sub : ∀ x y, adj left x y = true → adj G x y = true
  tn : met < 2 ^ G.length
  zero : es.length = 0 → met = 0

theorem ELk.base (hG : GrN G) (h : ELk G es left met) : ElB G es left met := by
  rcases h with ⟨rfl, rfl, rfl⟩ | h
  · exact ⟨hG, rfl, fun _ _ h => h, Nat.two_pow_pos _, fun _ => rfl⟩
  · have i := h.inv hG
    exact ⟨i.gr, i.len, i.sub, i.tn, fun h0 => absurd h.pos (by omega)⟩

theorem not_ok {LL : List (List Int)} {i : Nat} {x : List Int} (hk : ELk G es left met) (ht : LL.take i = es.map fun m => m.map Int.ofNat) (hx : LL[i]? = some x) (hno : ∀ m : List Nat, x = m.map Int.ofNat → ¬ EarK i G.length left met m) : ¬ EarsOk G LL := by
  rintro ⟨es', left', rfl, hEL, _⟩
  rw [List.getElem?_map] at hx
  obtain ⟨m, hm, rfl⟩ := Option.map_eq_some_iff.1 hx
  obtain ⟨l', t', h1, h2⟩ := hEL.split i m hm
  rw [← List.map_take] at ht
  rw [map2_inj ht] at h1
  obtain ⟨rfl, rfl⟩ := h1.fun_ hk
  exact hno m rfl h2

end
/-! ### The walk -/
end Go.AM

end

section

/- The program's check of ears. -/
namespace Go.AM
open Go.Proofs
variable {R : Type}
attribute [local simp] nx_eq nx_new nx_set blk_new blk_set asI_int asK_int asB_bool asP_ptr al_eq bx_eq len_slice onE_exit onE_ret onR_ret Value.cells cell_new cell_set rd_new rd_set off eq lt le ifB gv out ext20 ext21
theorem under102 : Tryd.prog.underlying 102 = some (.slice 3) := by kernel_rfl

theorem cellsI_take (x : List Int) (n : Nat) : (cellsI x).take n = cellsI (x.take n) := List.map_take.symm

theorem l4_eq54 : f54_l4 = f54_l2 := by kernel_rfl

theorem l5_eq54 : f54_l5 = f54_l3 := by kernel_rfl

theorem s111 {v : Value} {l : List Int} {z : Int} {h : H} (hs : SlR h 3 1 v (cellsI l)) : ∃ r, rn 111 #[v, iv z] h = some (iv r, h) ∧ (0 ≤ r ↔ z ∈ l) := by
  have hl62 := hs.lt62
  rw [List.length_map] at hl62
  have hn : ∀ {T : Type} (K : Int → Option T), len v K = K (l.length : Int) := fun K => by rw [hs.len, List.length_map]
  obtain ⟨e, ws', h', hl, rfl, hor⟩ := lp_range (F := f111_l1 rn (l.length + 1) v z l.length) (k := l.length + 1) (n := l.length)
    (fun i ws g => g = h ∧ ws = [iv 0, iv i] ∧ z ∉ l.take i)
    (fun e ws g => g = h ∧ ((e = .exit 0 ∧ z ∉ l) ∨ (e = .ret ∧ z ∈ l ∧ ∃ i : Nat, AM.gv ws 0 = iv i)))
    (by
      rintro i ws g hi ⟨rfl, rfl, hno⟩
      have hx := List.getElem?_eq_getElem hi
      generalize hxd : l[i] = x at hx
      have hadd : add .i64 (i : Int) 1 = ((i + 1 : Nat) : Int) := by rw [add64 (by omega) (by omega)]; omega
      by_cases hzx : z = x
      · refine ⟨.ret, [iv i, iv i], g, ?_, .inr ⟨by simp, rfl, .inr ⟨rfl, ?_, i, rfl⟩⟩⟩
        · unfold f111_l1
          rw [show AM.gv [iv 0, iv i] 1 = iv i from rfl, asI_int, lt_t (by omega), ifB_true, asK_int, getI hs hx, asI_int, hzx, show AM.eq x x = true by simp [AM.eq], ifB_true]
          rfl
        · rw [hzx]; exact List.mem_of_getElem? hx
      · refine ⟨.normal, [iv 0, iv ((i + 1 : Nat) : Int)], g, ?_, .inl ⟨rfl, rfl, rfl, ?_⟩⟩
        · unfold f111_l1
          rw [show AM.gv [iv 0, iv i] 1 = iv i from rfl, asI_int, lt_t (by omega), ifB_true, asK_int, getI hs hx, asI_int, show AM.eq z x = false by simp [AM.eq, hzx], ifB_false, asI_int, hadd]
          rfl
        · rw [List.take_add_one, hx, List.mem_append]
          simp [hno, hzx])
    (by
      rintro ws g ⟨rfl, rfl, hno⟩
      rw [List.take_length] at hno
      exact ⟨.exit 0, [iv 0, iv l.length], g, by simp [f111_l1], by simp, rfl, .inl ⟨rfl, hno⟩⟩)
    (ws := [iv 0, iv 0]) (h := h) (by omega) ⟨rfl, rfl, by simp⟩
  rcases hor with ⟨rfl, hno⟩ | ⟨rfl, hin, i, hw⟩
  · refine ⟨-1, p111 (k := l.length + 1) (h1 := h') ?_ rfl (.refl _), by simp [hno]⟩
    unfold f111
    rw [hn]
    exact (lp_eq hl).trans rfl
  · refine ⟨i, p111 (k := l.length + 1) (h1 := h') ?_ rfl (.refl _), by simp [hin]⟩
    unfold f111
    rw [hn]
    refine (lp_eq hl).trans ?_
    rw [onE_ret, onR_ret, hw]

theorem s97 {v : Value} {l : List Int} {z : Int} {h : H} (hs : SlR h 3 1 v (cellsI l)) : rn 97 #[v, iv z] h = some (.bool (decide (z ∈ l)), h) := by
  obtain ⟨r, e, hr⟩ := s111 (z := z) hs
  refine p97 (k := 0) (h1 := h) ?_ rfl (.refl _)
  unfold f97
  rw [calls_eq (xs := [v, iv z]) e, asI_int]
  have : AM.le 0 r = decide (z ∈ l) := by
    show decide (0 ≤ r) = _
    exact decide_eq_decide.2 hr
  rw [this]

/-! ### One ear -/
def CkAt (k there len : Nat) (m : List Nat) (j : Nat) : Prop := (0 < k ∨ j + 1 < len → nb m j ∉ m.take j) ∧ (0 < k → (there.testBit (nb m j) = true ↔ j = 0 ∨ j + 1 = len))

structure CkAll (k n : Nat) (left : List Nat) (there : Nat) (m : List Nat) : Prop where
  lt : ∀ x ∈ m, x < n
  tr : Tra left m
  at_ : ∀ j, j < m.length → CkAt k there m.length m j

theorem earK_ck {k n there : Nat} {left m : List Nat} : EarK k n left there m ↔ (2 ≤ m.length ∧ (k = 0 → 4 ≤ m.length ∧ nb m 0 = nb m (m.length - 1))) ∧ CkAll k n left there m := by
  constructor
  · intro e
    exact ⟨⟨e.len, e.first⟩, e.lt, e.tr, fun j hj => ⟨fun h => e.fresh j hj h, fun h => e.bits h j hj⟩⟩
  · rintro ⟨⟨h1, h2⟩, h3⟩
    exact ⟨h1, h2, h3.lt, h3.tr, fun j hj h => (h3.at_ j hj).1 h, fun h j hj => (h3.at_ j hj).2 h⟩

theorem ckAt_pre {k there len j : Nat} {m q : List Nat} (hj : j < m.length) : CkAt k there len (m ++ q) j ↔ CkAt k there len m j := by
  unfold CkAt
  rw [nb_app hj, List.take_append_of_le_length (by omega)]

set_option maxHeartbeats 4000000 in
theorem s54_l2 {K k there : Nat} {v3 v6 lv : Value} {ws0 : List Value} {G left : List Nat} {x : List Int} {h0 h : H} (hG : GrN G) (hs3 : SlR h0 3 1 v3 (cellsN G)) (hs6 : SlR h0 3 1 v6 (cellsI x)) (xh : Ext h0 h) (hgl : GrN left) (hll : left.length = G.length) (hl : SlR h 3 1 lv (cellsN left))
    (gv3 : AM.gv ws0 3 = iv there) (gv4 : AM.gv ws0 4 = iv k) (hth : there < 1024) (hk : k < 4611686018427387904) (hx1 : 1 ≤ x.length) (hK : x.length < K) :
    (∃ m : List Nat, x = m.map Int.ofNat ∧ CkAll k G.length left there m ∧ ∃ lv' z h', lpGo (f54_l2 rn K v3 ws0 v6 x.length) K [.bool false, iv 0, lv, iv 0] h = some (.exit 2, [.bool false, iv 0, lv', z], h') ∧ Ext h0 h' ∧ SlR h' 3 1 lv' (cellsN (delP left m))) ∨
    ((∀ m : List Nat, x = m.map Int.ofNat → ¬ CkAll k G.length left there m) ∧ ∃ a b h', lpGo (f54_l2 rn K v3 ws0 v6 x.length) K [.bool false, iv 0, lv, iv 0] h = some (.ret, [.bool false, iv 0, a, b], h') ∧ Ext h0 h') := by
  have hlen := hG.len
  have hx62 := hs6.lt62
  rw [List.length_map] at hx62
  obtain ⟨e, ws', h', hlp, xg, hor⟩ := lp_range (F := f54_l2 rn K v3 ws0 v6 x.length) (k := K) (n := x.length)
    (fun i ws g => ∃ (m : List Nat) (lv' : Value), ws = [.bool false, iv 0, lv', iv i] ∧ Ext h0 g ∧ x.take i = m.map Int.ofNat ∧ (∀ y ∈ m, y < G.length) ∧ Tra left m ∧ (∀ j, j < m.length → CkAt k there x.length m j) ∧ SlR g 3 1 lv' (cellsN (delP left m)))
    (fun e ws g => Ext h0 g ∧ ((e = .exit 2 ∧ ∃ (m : List Nat) (lv' z : Value), x = m.map Int.ofNat ∧ CkAll k G.length left there m ∧ ws = [.bool false, iv 0, lv', z] ∧ SlR g 3 1 lv' (cellsN (delP left m))) ∨ (e = .ret ∧ (∀ m : List Nat, x = m.map Int.ofNat → ¬ CkAll k G.length left there m) ∧ ∃ a b, ws = [.bool false, iv 0, a, b])))
    (by
      rintro i ws g hi ⟨m, lv', rfl, xg, hm, hmn, hT, hCk, hlv⟩
      have hx := List.getElem?_eq_getElem hi
      generalize hxd : x[i] = xi at hx
      have hml : m.length = i := by
        have := congrArg List.length hm
        rw [List.length_take, List.length_map] at this
        omega
      have hadd : add .i64 (i : Int) 1 = ((i + 1 : Nat) : Int) := by rw [add64 (by omega) (by omega)]; omega
      have hsg := hs6.ext xg
      have hs3g := hs3.ext xg
      have c79 := fun (Q : Value → H → Option (Ex × List Value × H)) => calls_eq (K := Q) (xs := [v3, iv xi]) (s79 (z := xi) hs3g)
      obtain ⟨w1, hw1⟩ : ∃ w1, w1 = [Value.bool false, iv 0, lv', iv i] := ⟨_, rfl⟩
      have g0 : AM.gv w1 0 = .bool false := by rw [hw1]; rfl
      have g1 : AM.gv w1 1 = iv 0 := by rw [hw1]; rfl
      have g2 : AM.gv w1 2 = lv' := by rw [hw1]; rfl
      have g3 : AM.gv w1 3 = iv i := by rw [hw1]; rfl
      rw [← hw1]
      -- whoever is a list that passes has this prefix
      have split : ∀ m' : List Nat, x = m'.map Int.ofNat → m'.take i = m ∧ m'[i]? = some (nb m' i) ∧ xi = (nb m' i : Nat) ∧ m'.length = x.length := fun m' hm' => by
        have h1 : m'.take i = m := map_inj (by rw [List.map_take, ← hm', hm])
        have h2 : m'.length = x.length := by rw [hm', List.length_map]
        have h3 : m'[i]? = some (nb m' i) := by unfold nb; rw [List.getD_eq_getElem?_getD, List.getElem?_eq_getElem (by omega)]; rfl
        refine ⟨h1, h3, ?_, h2⟩
        rw [hm', List.getElem?_map, h3] at hx
        exact (Option.some.inj hx).symm
      cases hnode : nodeB G xi with
      | false =>
        refine ⟨.ret, [.bool false, iv 0, lv', iv i], g, ?_, .inr ⟨by simp, xg, .inr ⟨rfl, fun m' hm' hc => ?_, _, _, rfl⟩⟩⟩
        · unfold f54_l2
          rw [g3, g2, asI_int, lt_t (by omega), ifB_true, asK_int, getI hsg hx, asI_int, c79, hnode, asB_bool, show (!false) = true from rfl, ifB_true]
          rfl
        · obtain ⟨_, h3, h4, h5⟩ := split m' hm'
          have := hc.lt _ (List.mem_of_getElem? h3)
          rw [h4] at hnode
          unfold nodeB at hnode
          rw [decide_eq_true (by omega), decide_eq_true (by omega)] at hnode
          cases hnode
      | true =>
        obtain ⟨a, rfl, han⟩ := nodeB_nat hnode
        have hnn : (0 : Int) ≤ (a : Int) := by omega
        have hbit : AM.eq (AM.and .i64 (shr .i64 (there : Int) (a : Int)) 1) 1 = there.testBit a := by
          rw [bit_nat (by omega) (by omega)]
          cases there.testBit a <;> rfl
        have htn : x.take (i + 1) = (m ++ [a]).map Int.ofNat := by rw [List.take_add_one, hx, hm, List.map_append]; rfl
        have hmn' : ∀ y ∈ m ++ [a], y < G.length := fun y hy => by
          rw [List.mem_append, List.mem_singleton] at hy
          rcases hy with hy | rfl
          · exact hmn y hy
          · exact han
        have hCk' : CkAt k there x.length (m ++ [a]) i → ∀ j, j < (m ++ [a]).length → CkAt k there x.length (m ++ [a]) j := fun hc j hj => by
          rw [List.length_append, List.length_singleton] at hj
          by_cases hji : j = i
          · rw [hji]; exact hc
          · exact (ckAt_pre (by omega)).2 (hCk j (by omega))
        have hat : CkAt k there x.length (m ++ [a]) i ↔ (0 < k ∨ i + 1 < x.length → a ∉ m) ∧ (0 < k → (there.testBit a = true ↔ i = 0 ∨ i + 1 = x.length)) := by
          unfold CkAt
          have e1 : nb (m ++ [a]) i = a := by rw [← hml]; exact nb_snoc m a
          have e2 : (m ++ [a]).take i = m := by rw [← hml, List.take_append_of_le_length (Nat.le_refl _), List.take_length]
          rw [e1, e2]
        -- a list that passes has this one here
        have here : ∀ m' : List Nat, x = m'.map Int.ofNat → CkAll k G.length left there m' → CkAt k there x.length (m ++ [a]) i ∧ Tra left (m ++ [a]) := fun m' hm' hc => by
          obtain ⟨h1, h3, h4, h5⟩ := split m' hm'
          have h4' : nb m' i = a := (Int.ofNat.inj h4).symm
          have h6 : m'.take (i + 1) = m ++ [a] := by rw [List.take_add_one, h3, h1, h4']; rfl
          have h7 : m' = (m ++ [a]) ++ m'.drop (i + 1) := by rw [← h6, List.take_append_drop]
          constructor
          · have := hc.at_ i (by omega)
            rw [h5] at this
            rw [h7] at this
            exact (ckAt_pre (by simp; omega)).1 this
          · refine tra_pre _ (m'.drop (i + 1)) left ?_
            rw [← h7]; exact hc.tr
        by_cases hi0 : i = 0
        · subst hi0
          have hm0 : m = [] := List.length_eq_zero_iff.1 hml
          subst hm0
          obtain ⟨v31, s31, esl⟩ := hsg.take (i := ((0 : Nat) : Int)) under102 sz3 (by omega) (by omega)
          have c97 := fun (Q : Value → H → Option (Ex × List Value × H)) => calls_eq (K := Q) (xs := [v31, iv a]) (s97 (h := g) (l := x.take 0) (z := (a : Int)) (by rw [Int.toNat_natCast, cellsI_take] at s31; exact s31))
          have hgood : CkAt k there x.length ([] ++ [a]) 0 → ∃ e ws' h', (f54_l2 rn K v3 ws0 v6 x.length w1 g = some (.normal, [.bool false, iv 0, lv', iv ((0 + 1 : Nat) : Int)], g)) ∧ e = Ex.normal ∧ ws' = w1 ∧ h' = g := fun hc => by
            refine ⟨_, _, _, ?_, rfl, rfl, rfl⟩
            unfold f54_l2
            rw [g3, g2, g1, g0, gv3, gv4, asI_int, lt_t (by omega), ifB_true, asK_int, getI hsg hx, asI_int, c79, hnode, asB_bool, show (!true) = false from rfl, ifB_false, asI_int, show AM.lt 0 ((0 : Nat) : Int) = false from rfl, ifB_false, asI_int, show AM.lt 0 ((0 : Nat) : Int) = false from rfl, ifB_false, asI_int, show AM.eq ((0 : Nat) : Int) 0 = true from rfl, ifB_true, esl, c97, asB_bool, List.take_zero, show decide ((a : Int) ∈ ([] : List Int)) = false from rfl, ifB_false, asI_int]
            by_cases hk0 : 0 < k
            · rw [lt_t (by omega), ifB_true, asI_int, nn_ge hnn, hbit, keqv4]
              have := ((hat.1 hc).2 hk0).2 (.inl rfl)
              rw [this, show (!(true == true)) = false from rfl, ifB_false, asI_int, hadd]
              rfl
            · rw [lt_f (by omega), ifB_false, asI_int, hadd]
              rfl
          by_cases hc : CkAt k there x.length ([] ++ [a]) 0
          · obtain ⟨_, _, _, k1, _⟩ := hgood hc
            exact ⟨.normal, _, g, k1, .inl ⟨rfl, [] ++ [a], lv', rfl, xg, htn, hmn', trivial, hCk' hc, hlv⟩⟩
          · have hk0 : 0 < k := Classical.byContradiction fun hk0 => hc (hat.2 ⟨fun _ => by simp, fun h => absurd h hk0⟩)
            have hbf : there.testBit a = false := Bool.eq_false_iff.2 fun hb => hc (hat.2 ⟨fun _ => by simp, fun _ => ⟨fun _ => .inl rfl, fun _ => hb⟩⟩)
            refine ⟨.ret, [.bool false, iv 0, lv', iv ((0 : Nat) : Int)], g, ?_, .inr ⟨by simp, xg, .inr ⟨rfl, fun m' hm' hcc => hc (here m' hm' hcc).1, _, _, rfl⟩⟩⟩
            unfold f54_l2
            rw [g3, g2, gv3, gv4, asI_int, lt_t (by omega), ifB_true, asK_int, getI hsg hx, asI_int, c79, hnode, asB_bool, show (!true) = false from rfl, ifB_false, asI_int, show AM.lt 0 ((0 : Nat) : Int) = false from rfl, ifB_false, asI_int, show AM.lt 0 ((0 : Nat) : Int) = false from rfl, ifB_false, asI_int, show AM.eq ((0 : Nat) : Int) 0 = true from rfl, ifB_true, esl, c97, asB_bool, List.take_zero, show decide ((a : Int) ∈ ([] : List Int)) = false from rfl, ifB_false, asI_int,
              lt_t (by omega), ifB_true, asI_int, nn_ge hnn, hbit, keqv4, hbf, show (!(false == true)) = true from rfl, ifB_true]
            rfl
        · obtain ⟨q, b0, rfl⟩ := snoc_of (m := m) (by rintro rfl; simp at hml; omega)
          rw [List.length_append, List.length_singleton] at hml
          have hq : x[i - 1]? = some (b0 : Int) := by
            have h1 : (x.take i)[i - 1]? = some (b0 : Int) := by
              rw [hm, List.getElem?_map, show i - 1 = q.length by omega, List.getElem?_append_right (Nat.le_refl _), Nat.sub_self]; rfl
            rw [List.getElem?_take_of_lt (by omega)] at h1
            exact h1
          have hb0n : b0 < G.length := hmn b0 (by simp)
          have hsub : AM.sub .i64 (i : Int) 1 = ((i - 1 : Nat) : Int) := by rw [sub64 (by omega) (by omega)]; omega
          have hgd := hgl.delP _ hT
          have hdl : (delP left (q ++ [b0])).length = G.length := (delP_len _ _).trans hll
          have c80 := fun (Q : Value → H → Option (Ex × List Value × H)) => calls_eq (K := Q) (xs := [lv', iv b0, iv a]) (s80 (a := b0) (b := a) hgd.toGrB hlv (by omega) (by omega))
          have hl0 : AM.lt 0 (i : Int) = true := lt_t (by omega)
          have he0 : AM.eq (i : Int) 0 = false := by simp [AM.eq]; omega
          cases hadj : adj (delP left (q ++ [b0])) b0 a with
          | false =>
            refine ⟨.ret, [.bool false, iv 0, lv', iv i], g, ?_, .inr ⟨by simp, xg, .inr ⟨rfl, fun m' hm' hc => ?_, _, _, rfl⟩⟩⟩
            · unfold f54_l2
              rw [g3, g2, asI_int, lt_t (by omega), ifB_true, asK_int, getI hsg hx, asI_int, c79, hnode, asB_bool, show (!true) = false from rfl, ifB_false, asI_int, hl0, ifB_true, asI_int, hsub, getI hsg hq, asI_int, c80, hadj, asB_bool, show (!false) = true from rfl, ifB_true]
              rfl
            · have := (here m' hm' hc).2
              rw [List.append_assoc] at this
              have := ((tra_snoc q left b0 a).1 this).2
              rw [hadj] at this; cases this
          | true =>
            have hne : b0 ≠ a := by rintro rfl; rw [hgd.irr] at hadj; cases hadj
            obtain ⟨v15, g7, e87, x7, bb, hbb, hia⟩ := s87 (a := b0) (b := a) hgd.toGrB (by omega) (by omega) hne hlv
            have hT' : Tra left (q ++ [b0] ++ [a]) := by rw [List.append_assoc]; exact (tra_snoc q left b0 a).2 ⟨hT, hadj⟩
            have hlv' : SlR g7 3 1 v15 (cellsN (delP left (q ++ [b0] ++ [a]))) := by
              rw [List.append_assoc, show [b0] ++ [a] = [b0, a] from rfl, delP_snoc]; exact hia.slN
            have xg7 := xg.trans x7.toExt
            have hsg7 := hs6.ext xg7
            have hn7 : ∀ {T : Type} (Q : Int → Option T), len v6 Q = Q (x.length : Int) := fun Q => by rw [hs6.len, List.length_map]
            obtain ⟨v18, s18', esl⟩ := hsg7.take (i := (i : Int)) under102 sz3 (by omega) (by rw [List.length_map]; omega)
            have hin : decide ((a : Int) ∈ x.take i) = decide (a ∈ q ++ [b0]) := decide_eq_decide.2 (by
              rw [hm]
              constructor
              · intro h
                obtain ⟨y, hy, he⟩ := List.mem_map.1 h
                rw [← Int.ofNat.inj he]; exact hy
              · intro h
                exact List.mem_map.2 ⟨a, h, rfl⟩)
            have c97 := fun (Q : Value → H → Option (Ex × List Value × H)) => calls_eq (K := Q) (xs := [v18, iv a]) (s97 (h := g7) (l := x.take i) (z := (a : Int)) (by rw [Int.toNat_natCast, cellsI_take] at s18'; exact s18'))
            rw [hin] at c97
            have hsubl : AM.sub .i64 (x.length : Int) 1 = ((x.length - 1 : Nat) : Int) := by rw [sub64 (by omega) (by omega)]; omega
            have hend : AM.eq (i : Int) ((x.length - 1 : Nat) : Int) = decide (i + 1 = x.length) := by
              rw [eqN]; exact decide_eq_decide.2 ⟨fun h => by omega, fun h => by omega⟩
            have start : ∀ r, (ifB (decide (a ∈ q ++ [b0])) (
                ifB (AM.lt 0 (k : Int)) (AM.out .ret [.bool false, iv 0, v15, iv i] g7) (
                  ifB (AM.lt (i : Int) ((x.length - 1 : Nat) : Int)) (AM.out .ret [.bool false, iv 0, v15, iv i] g7) (
                    ifB (AM.lt 0 (k : Int)) (
                      ifB (not (there.testBit a == decide (i + 1 = x.length))) (AM.out .ret [.bool false, iv 0, v15, iv i] g7) (AM.out .normal [.bool false, iv 0, v15, iv ((i + 1 : Nat) : Int)] g7)) (
                      AM.out .normal [.bool false, iv 0, v15, iv ((i + 1 : Nat) : Int)] g7)))) (
                ifB (AM.lt 0 (k : Int)) (
                  ifB (not (there.testBit a == decide (i + 1 = x.length))) (AM.out .ret [.bool false, iv 0, v15, iv i] g7) (AM.out .normal [.bool false, iv 0, v15, iv ((i + 1 : Nat) : Int)] g7)) (
                  AM.out .normal [.bool false, iv 0, v15, iv ((i + 1 : Nat) : Int)] g7))) = r → f54_l2 rn K v3 ws0 v6 x.length w1 g = r := by
              intro r hr
              unfold f54_l2
              rw [g3, g2, g1, g0, gv3, gv4, asI_int, lt_t (by omega), ifB_true, asK_int, getI hsg hx, asI_int, c79, hnode, asB_bool, show (!true) = false from rfl, ifB_false, asI_int, hl0, ifB_true, asI_int, hsub, getI hsg hq, asI_int, c80, hadj, asB_bool, show (!true) = false from rfl, ifB_false, asI_int, hl0, ifB_true, asI_int, hsub, getI hsg hq, asI_int, kbld32,
                calls_eq (xs := [lv', .agg #[iv b0, iv a]]) e87, asI_int, he0, ifB_false, hn7, asI_int, esl, c97, asB_bool, ← hr]
              simp only [asI_int, hn7, hsubl, nn_ge hnn, hbit, hend, keqv4, hadd]
            by_cases hc : CkAt k there x.length (q ++ [b0] ++ [a]) i
            · obtain ⟨hc1, hc2⟩ := hat.1 hc
              refine ⟨.normal, [.bool false, iv 0, v15, iv ((i + 1 : Nat) : Int)], g7, start _ ?_, .inl ⟨rfl, q ++ [b0] ++ [a], v15, rfl, xg7, htn, hmn', hT', hCk' hc, hlv'⟩⟩
              by_cases hk0 : 0 < k
              · have hnm := hc1 (.inl hk0)
                have hb := hc2 hk0
                have hbd : there.testBit a = decide (i + 1 = x.length) := by
                  rw [Bool.eq_iff_iff, decide_eq_true_iff, hb]
                  exact ⟨fun h => h.resolve_left hi0, .inr⟩
                rw [decide_eq_false hnm, ifB_false, lt_t (by omega), ifB_true, hbd, show (!(decide (i + 1 = x.length) == decide (i + 1 = x.length))) = false by simp, ifB_false]
                rfl
              · by_cases hmem : a ∈ q ++ [b0]
                · have : ¬ i + 1 < x.length := fun h => hc1 (.inr h) hmem
                  rw [decide_eq_true hmem, ifB_true, lt_f (by omega), ifB_false, lt_f (by omega), ifB_false, ifB_false]
                  rfl
                · rw [decide_eq_false hmem, ifB_false, lt_f (by omega), ifB_false]
                  rfl
            · refine ⟨.ret, [.bool false, iv 0, v15, iv i], g7, start _ ?_, .inr ⟨by simp, xg7, .inr ⟨rfl, fun m' hm' hcc => hc (here m' hm' hcc).1, _, _, rfl⟩⟩⟩
              by_cases hmem : a ∈ q ++ [b0]
              · rw [decide_eq_true hmem, ifB_true]
                by_cases hk0 : 0 < k
                · rw [lt_t (by omega), ifB_true]; rfl
                · have : i + 1 < x.length := Classical.byContradiction fun h => hc (hat.2 ⟨fun h2 => by omega, fun h2 => absurd h2 hk0⟩)
                  rw [lt_f (by omega), ifB_false, lt_t (by omega), ifB_true]; rfl
              · have hk0 : 0 < k := Classical.byContradiction fun hk0 => hc (hat.2 ⟨fun _ => hmem, fun h2 => absurd h2 hk0⟩)
                have hbd : (there.testBit a == decide (i + 1 = x.length)) = false := by
                  rw [Bool.eq_false_iff]
                  intro h
                  rw [beq_iff_eq] at h
                  exact hc (hat.2 ⟨fun _ => hmem, fun _ => by rw [h, decide_eq_true_iff]; exact ⟨.inr, fun h => h.resolve_left hi0⟩⟩)
                rw [decide_eq_false hmem, ifB_false, lt_t (by omega), ifB_true, hbd, show (!false) = true from rfl, ifB_true]; rfl)
    (by
      rintro ws g ⟨m, lv', rfl, xg, hm, hmn, hT, hCk, hlv⟩
      rw [List.take_length] at hm
      have hml : m.length = x.length := by rw [hm, List.length_map]
      refine ⟨.exit 2, [.bool false, iv 0, lv', iv x.length], g, ?_, by simp, xg, .inl ⟨rfl, m, lv', _, hm, ⟨hmn, hT, fun j hj => by rw [hml]; exact hCk j hj⟩, rfl, hlv⟩⟩
      unfold f54_l2
      rw [show AM.gv [.bool false, iv 0, lv', iv x.length] 3 = iv x.length from rfl, asI_int, lt_f (by omega), ifB_false]
      rfl)
    (ws := [.bool false, iv 0, lv, iv 0]) (h := h) hK ⟨[], lv, rfl, xh, rfl, by simp, trivial, by simp, hl⟩
  rcases hor with ⟨rfl, m, lv', z, h1, h2, rfl, h3⟩ | ⟨rfl, h1, a, b, rfl⟩
  · exact .inl ⟨m, h1, h2, lv', z, h', hlp, xg, h3⟩
  · exact .inr ⟨h1, a, b, h', hlp, xg⟩

theorem s54_l3 {K there : Nat} {v6 : Value} {m : List Nat} {h : H} (hm : ∀ x ∈ m, x < 10) (hth : there < 1024) (hs : SlR h 3 1 v6 (cellsN m)) (hK : m.length < K) :
    ∃ z, lpGo (f54_l3 rn K v6 m.length) K [iv there, iv 0] h = some (.exit 4, [iv (there ||| setOf m : Nat), z], h) := by
  have hl62 := hs.lt62
  rw [List.length_map] at hl62
  obtain ⟨e, ws', h', hl, rfl, rfl, z, rfl⟩ := lp_range (F := f54_l3 rn K v6 m.length) (k := K) (n := m.length)
    (fun j ws g => g = h ∧ ws = [iv (there ||| setOf (m.take j) : Nat), iv j])
    (fun e ws g => g = h ∧ e = .exit 4 ∧ ∃ z, ws = [iv (there ||| setOf m : Nat), z])
    (by
      rintro j ws g hj ⟨rfl, rfl⟩
      have hx10 := hm _ (nb_mem hj)
      have hgx : m[j]? = some (nb m j) := by unfold nb; rw [List.getD_eq_getElem?_getD, List.getElem?_eq_getElem hj]; rfl
      have hadd : add .i64 (j : Int) 1 = ((j + 1 : Nat) : Int) := by rw [add64 (by omega) (by omega)]; omega
      have hflt : there ||| setOf (m.take j) < 2 ^ 10 := Nat.or_lt_two_pow hth (setOf_lt (n := 10) fun y hy => hm y (List.mem_of_mem_take hy))
      have hor := or_calc2 (n := 10) (by omega) hflt hx10
      refine ⟨.normal, [iv (there ||| setOf (m.take (j + 1)) : Nat), iv ((j + 1 : Nat) : Int)], g, ?_, .inl ⟨rfl, rfl, rfl⟩⟩
      have hnext : setOf (m.take (j + 1)) = setOf (m.take j) ||| 2 ^ nb m j := by rw [List.take_add_one, hgx]; exact setOf_snoc _ _
      unfold f54_l3
      rw [show AM.gv [iv (there ||| setOf (m.take j) : Nat), iv j] 1 = iv j from rfl, show AM.gv [iv (there ||| setOf (m.take j) : Nat), iv j] 0 = iv (there ||| setOf (m.take j) : Nat) from rfl, asI_int, lt_t (by omega), ifB_true, asK_int]
      simp only [d3]
      rw [getN hs hj, asI_int, nn_ge (show (0 : Int) ≤ (nb m j : Int) by omega), asI_int, asI_int, hor, hadd, hnext, Nat.or_assoc]
      rfl)
    (by
      rintro ws g ⟨rfl, rfl⟩
      rw [List.take_length]
      refine ⟨.exit 4, [iv (there ||| setOf m : Nat), iv m.length], g, ?_, by simp, rfl, rfl, _, rfl⟩
      unfold f54_l3
      rw [show AM.gv [iv (there ||| setOf m : Nat), iv m.length] 1 = iv m.length from rfl, asI_int, lt_f (by omega), ifB_false]
      rfl)
    (ws := [iv there, iv 0]) (h := h) hK ⟨rfl, by simp [setOf]⟩
  exact ⟨z, hl⟩

end Go.AM

end

section

/- The document's check of ears: all of a list. -/
namespace Go.AM
open Go.Proofs
variable {R : Type}
attribute [local simp] nx_eq nx_new nx_set blk_new blk_set asI_int asK_int asB_bool asP_ptr al_eq bx_eq len_slice onE_exit onE_ret onR_ret Value.cells cell_new cell_set rd_new rd_set off eq lt le ifB gv out ext20 ext21
theorem len_le_sum : ∀ (L : List (List Int)) (x : List Int), x ∈ L → x.length ≤ (L.map List.length).sum
  | [], _, h => by cases h
  | y :: L, x, h => by
    rw [List.map_cons, List.sum_cons]
    rcases List.mem_cons.1 h with rfl | h
    · omega
    · have := len_le_sum L x h
      omega

end Go.AM

end

section

/- The program's check of ears: whole. -/
namespace Go.AM
open Go.Proofs
variable {R : Type}
attribute [local simp] nx_eq nx_new nx_set blk_new blk_set asI_int asK_int asB_bool asP_ptr al_eq bx_eq len_slice onE_exit onE_ret onR_ret Value.cells cell_new cell_set rd_new rd_set off eq lt le ifB gv out ext20 ext21
set_option maxHeartbeats 2000000 in
theorem s54_ear {K i there : Nat} {v1 v3 lv : Value} {p} {q r : Nat} {G left : List Nat} {es : List (List Nat)} {LL : List (List Int)} {vs : List Value} {x : List Int} {h0 g : H} (hG : GrN G) (hs3 : SlR h0 3 1 v3 (cellsN G)) (hs1 : SlR h0 102 1 v1 (cellsV vs)) (hvl : vs.length = LL.length)
    (hxv : vs[i]? = some (.slice p q r)) (hx : LL[i]? = some x) (hsx : SlR h0 3 1 (.slice p q r) (cellsI x)) (xg : Ext h0 g) (hl : SlR g 3 1 lv (cellsN left)) (hk : ElB G es left there) (hK : 200 ≤ K) (hxK : x.length < K) :
    (∃ m : List Nat, x = m.map Int.ofNat ∧ EarK i G.length left there m ∧ ∃ lv' g', f54_l1 rn K v1 v3 LL.length [.bool false, iv 0, lv, iv there, iv i] g = some (.normal, [.bool false, iv 0, lv', iv (there ||| setOf m : Nat), iv ((i + 1 : Nat) : Int)], g') ∧ Ext h0 g' ∧ SlR g' 3 1 lv' (cellsN (delP left m))) ∨
    ((∀ m : List Nat, x = m.map Int.ofNat → ¬ EarK i G.length left there m) ∧ ∃ ws' g', f54_l1 rn K v1 v3 LL.length [.bool false, iv 0, lv, iv there, iv i] g = some (.ret, .bool false :: iv 0 :: ws', g') ∧ Ext h0 g') := by
  have hlen := hG.len
  have hpow := hG.pow
  have hth := Nat.lt_of_lt_of_le hk.tn hpow
  have hil := (List.getElem?_eq_some_iff.1 hx).1
  have hv62 := hs1.lt62
  rw [List.length_map, hvl] at hv62
  have hx62 := hsx.lt62
  rw [List.length_map] at hx62
  have hsg := hsx.ext xg
  have hnx : ∀ {T : Type} (Q : Int → Option T), len (.slice p q r) Q = Q (x.length : Int) := fun Q => by rw [hsx.len, List.length_map]
  have hadd : add .i64 (i : Int) 1 = ((i + 1 : Nat) : Int) := by rw [add64 (by omega) (by omega)]; omega
  have e1 : ∀ (Q : Value → Option (Ex × List Value × H)), (six v1 (i : Int) 1 fun b o => ld Tryd.prog g 102 b o Q) = Q (.slice p q r) := fun Q =>
    (hs1.ext xg).ld0 ag102 (by omega) (x := [.slice p q r]) (by rw [Int.toNat_natCast, List.getElem?_map, hxv]; rfl) rfl Q
  obtain ⟨ws0, hws0⟩ : ∃ ws0, ws0 = [Value.bool false, iv 0, lv, iv there, iv i] := ⟨_, rfl⟩
  rw [← hws0]
  have w0 : AM.gv ws0 0 = .bool false := by rw [hws0]; rfl
  have w1 : AM.gv ws0 1 = iv 0 := by rw [hws0]; rfl
  have w2 : AM.gv ws0 2 = lv := by rw [hws0]; rfl
  have w3 : AM.gv ws0 3 = iv there := by rw [hws0]; rfl
  have w4 : AM.gv ws0 4 = iv i := by rw [hws0]; rfl
  by_cases hA : x.length < 2
  · refine .inr ⟨fun m hm e => ?_, [lv, iv there, iv i], g, ?_, xg⟩
    · have := e.len
      rw [hm, List.length_map] at hA
      omega
    · unfold f54_l1
      rw [w4, w3, w2, asI_int, lt_t (by omega), ifB_true, asK_int, e1, hnx, lt_t (by omega), ifB_true]
      rfl
  have hl2 := s54_l2 (K := K) (k := i) (there := there) (v3 := v3) (v6 := .slice p q r) (lv := lv) (ws0 := ws0) (x := x) hG hs3 hsx xg hk.gr hk.len hl w3 w4 hth (by omega) (by omega) hxK
  have hsubm : AM.sub .i64 (x.length : Int) 1 = ((x.length - 1 : Nat) : Int) := by rw [sub64 (by omega) (by omega)]; omega
  have hx0 := List.getElem?_eq_getElem (show 0 < x.length by omega)
  have hxL := List.getElem?_eq_getElem (show x.length - 1 < x.length by omega)
  generalize hz0 : x[0] = z0 at hx0
  generalize hzL : x[x.length - 1] = zL at hxL
  have gI0 := fun (Q : Value → Option (Ex × List Value × H)) => getI (R := Ex × List Value × H) hsg hx0 Q
  rw [show ((0 : Nat) : Int) = 0 from rfl] at gI0
  have gIL := fun (Q : Value → Option (Ex × List Value × H)) => getI (R := Ex × List Value × H) hsg hxL Q
  have hfirst : ∀ m : List Nat, x = m.map Int.ofNat → (nb m 0 = nb m (m.length - 1) ↔ z0 = zL) := fun m hm => by
    have hml : m.length = x.length := by rw [hm, List.length_map]
    have a0 : z0 = (nb m 0 : Nat) := by
      rw [hm, List.getElem?_map] at hx0
      unfold nb; rw [List.getD_eq_getElem?_getD, List.getElem?_eq_getElem (by omega)]
      rw [List.getElem?_eq_getElem (by omega)] at hx0
      exact (Option.some.inj hx0).symm
    have aL : zL = (nb m (m.length - 1) : Nat) := by
      rw [hml]
      rw [hm, List.getElem?_map, List.length_map, hml, List.getElem?_eq_getElem (by omega)] at hxL
      unfold nb; rw [List.getD_eq_getElem?_getD, List.getElem?_eq_getElem (by omega)]
      exact (Option.some.inj hxL).symm
    rw [a0, aL]
    omega
  -- what follows the check of all nodes
  have rest : ∀ (m : List Nat), x = m.map Int.ofNat → (∀ y ∈ m, y < G.length) → ∀ g', Ext h0 g' → ∃ z, lpGo (f54_l3 rn K (.slice p q r) x.length) K [iv there, iv 0] g' = some (.exit 4, [iv (there ||| setOf m : Nat), z], g') := fun m hm hmn g' x' => by
    have hml : m.length = x.length := by rw [hm, List.length_map]
    rw [← hml]
    refine s54_l3 (fun y hy => Nat.lt_of_lt_of_le (hmn y hy) hlen) hth ?_ (by omega)
    have := hsx.ext x'
    rw [hm, cellsN_eq] at this
    exact this
  by_cases hi0 : i = 0
  · have he0 : AM.eq (i : Int) 0 = true := by rw [hi0]; rfl
    by_cases h4 : x.length < 4
    · refine .inr ⟨fun m hm e => ?_, [lv, iv there, iv i], g, ?_, xg⟩
      · have := (e.first hi0).1
        rw [hm, List.length_map] at h4
        omega
      · unfold f54_l1
        rw [w4, w3, w2, asI_int, lt_t (by omega), ifB_true, asK_int, e1, hnx, lt_f (by omega), ifB_false, asI_int, he0, ifB_true, hnx, lt_t (by omega), ifB_true]
        rfl
    by_cases hfl : z0 = zL
    · have start : ∀ r', (lp K (f54_l2 rn K v3 ws0 (.slice p q r) x.length) [.bool false, iv 0, lv, iv 0] g fun e0 ws2 h17 =>
            onE e0 2 (
              lp K (f54_l3 rn K (.slice p q r) x.length) [iv there, iv 0] h17 fun e1 ws4 h19 =>
              onE e1 4 (
                AM.out .normal [AM.gv ws2 0, AM.gv ws2 1, AM.gv ws2 2, AM.gv ws4 0, iv ((i + 1 : Nat) : Int)] h19) (
                none)) (
              onR e0 (
                AM.out .ret [AM.gv ws2 0, AM.gv ws2 1, AM.gv ws2 2, iv there, iv i] h17))) = r' → f54_l1 rn K v1 v3 LL.length ws0 g = r' := by
        intro r' hr
        unfold f54_l1
        rw [w4, w3, w2, w1, w0, asI_int, lt_t (by omega), ifB_true, asK_int, e1, hnx, lt_f (by omega), ifB_false, asI_int, he0, ifB_true, hnx, lt_f (by omega), ifB_false, gI0, asI_int, hnx, hsubm, gIL, asI_int, hfl, show AM.eq zL zL = true by simp [AM.eq], show (!true) = false from rfl, ifB_false, hnx]
        simp only [hnx, asI_int, hadd]
        exact hr
      rcases hl2 with ⟨m, hm, hck, lv', z, g', el2, xg', hl'⟩ | ⟨hno, a, b, g', el2, xg'⟩
      · have hml : m.length = x.length := by rw [hm, List.length_map]
        obtain ⟨z', el3⟩ := rest m hm hck.lt g' xg'
        refine .inl ⟨m, hm, earK_ck.2 ⟨⟨by omega, fun _ => ⟨by omega, (hfirst m hm).2 hfl⟩⟩, hck⟩, lv', g', start _ ?_, xg', hl'⟩
        rw [lp_eq el2, onE_exit, if_pos rfl, lp_eq el3, onE_exit, if_pos rfl]
        rfl
      · refine .inr ⟨fun m hm e => hno m hm (earK_ck.1 e).2, [a, iv there, iv i], g', start _ ?_, xg'⟩
        rw [lp_eq el2, onE_ret, onR_ret]
        rfl
    · refine .inr ⟨fun m hm e => hfl ((hfirst m hm).1 (e.first hi0).2), [lv, iv there, iv i], g, ?_, xg⟩
      unfold f54_l1
      rw [w4, w3, w2, asI_int, lt_t (by omega), ifB_true, asK_int, e1, hnx, lt_f (by omega), ifB_false, asI_int, he0, ifB_true, hnx, lt_f (by omega), ifB_false, gI0, asI_int, hnx, hsubm, gIL, asI_int, show AM.eq z0 zL = false by simp [AM.eq, hfl], show (!false) = true from rfl, ifB_true]
      rfl
  · have he0 : AM.eq (i : Int) 0 = false := by simp [AM.eq]; omega
    have start : ∀ r', (lp K (f54_l2 rn K v3 ws0 (.slice p q r) x.length) [.bool false, iv 0, lv, iv 0] g fun e0 ws2 h17 =>
          onE e0 2 (
            lp K (f54_l3 rn K (.slice p q r) x.length) [iv there, iv 0] h17 fun e1 ws4 h19 =>
            onE e1 4 (
              AM.out .normal [AM.gv ws2 0, AM.gv ws2 1, AM.gv ws2 2, AM.gv ws4 0, iv ((i + 1 : Nat) : Int)] h19) (
              none)) (
            onR e0 (
              AM.out .ret [AM.gv ws2 0, AM.gv ws2 1, AM.gv ws2 2, iv there, iv i] h17))) = r' → f54_l1 rn K v1 v3 LL.length ws0 g = r' := by
      intro r' hr
      unfold f54_l1
      rw [w4, w3, w2, w1, w0, asI_int, lt_t (by omega), ifB_true, asK_int, e1, hnx, lt_f (by omega), ifB_false, asI_int, he0, ifB_false, hnx, l4_eq54, l5_eq54]
      simp only [hnx, asI_int, hadd]
      exact hr
    rcases hl2 with ⟨m, hm, hck, lv', z, g', el2, xg', hl'⟩ | ⟨hno, a, b, g', el2, xg'⟩
    · have hml : m.length = x.length := by rw [hm, List.length_map]
      obtain ⟨z', el3⟩ := rest m hm hck.lt g' xg'
      refine .inl ⟨m, hm, earK_ck.2 ⟨⟨by omega, fun h => absurd h hi0⟩, hck⟩, lv', g', start _ ?_, xg', hl'⟩
      rw [lp_eq el2, onE_exit, if_pos rfl, lp_eq el3, onE_exit, if_pos rfl]
      rfl
    · refine .inr ⟨fun m hm e => hno m hm (earK_ck.1 e).2, [a, iv there, iv i], g', start _ ?_, xg'⟩
      rw [lp_eq el2, onE_ret, onR_ret]
      rfl

theorem s54_l1 {K : Nat} {v1 v3 lv : Value} {G : List Nat} {LL : List (List Int)} {vs : List Value} {h : H} (hG : GrN G) (hs3 : SlR h 3 1 v3 (cellsN G)) (hs1 : SlR h 102 1 v1 (cellsV vs)) (hv : AllSl vs) (hLS : LSI h vs LL) (hl : SlR h 3 1 lv (cellsN G)) (hK : K = LL.length + (LL.map List.length).sum + 300) :
    (∃ (es : List (List Nat)) (left : List Nat) (there : Nat) (lv' : Value) (g : H) (z : Value), lpGo (f54_l1 rn K v1 v3 LL.length) K [.bool false, iv 0, lv, iv 0, iv 0] h = some (.exit 0, [.bool false, iv 0, lv', iv there, z], g) ∧ Ext h g ∧ SlR g 3 1 lv' (cellsN left) ∧ ELk G es left there ∧ LL = es.map (fun m => m.map Int.ofNat)) ∨
    (¬ EarsOk G LL ∧ ∃ ws' g, lpGo (f54_l1 rn K v1 v3 LL.length) K [.bool false, iv 0, lv, iv 0, iv 0] h = some (.ret, .bool false :: iv 0 :: ws', g) ∧ Ext h g) := by
  obtain ⟨e, ws', h', hlp, xg, hor⟩ := lp_range (F := f54_l1 rn K v1 v3 LL.length) (k := K) (n := LL.length)
    (fun i ws g => ∃ (es : List (List Nat)) (left : List Nat) (there : Nat) (lv' : Value), ws = [.bool false, iv 0, lv', iv there, iv i] ∧ Ext h g ∧ SlR g 3 1 lv' (cellsN left) ∧ ELk G es left there ∧ LL.take i = es.map (fun m => m.map Int.ofNat))
    (fun e ws g => Ext h g ∧ ((e = .exit 0 ∧ ∃ (es : List (List Nat)) (left : List Nat) (there : Nat) (lv' z : Value), ws = [.bool false, iv 0, lv', iv there, z] ∧ SlR g 3 1 lv' (cellsN left) ∧ ELk G es left there ∧ LL = es.map (fun m => m.map Int.ofNat)) ∨ (e = .ret ∧ ¬ EarsOk G LL ∧ ∃ ws', ws = .bool false :: iv 0 :: ws')))
    (by
      rintro i ws g hi ⟨es, left, there, lv', rfl, xg, hl', hk, ht⟩
      have hx := List.getElem?_eq_getElem hi
      generalize hxd : LL[i] = x at hx
      have hvl := hLS.1
      have hxv := List.getElem?_eq_getElem (show i < vs.length by omega)
      generalize hvd : vs[i] = xv at hxv
      obtain ⟨p, q, r, rfl⟩ := hv xv (List.mem_of_getElem? hxv)
      have hei : es.length = i := by
        have := congrArg List.length ht
        rw [List.length_take, List.length_map] at this
        omega
      have hxs := len_le_sum LL x (List.mem_of_getElem? hx)
      rcases s54_ear (K := K) hG hs3 hs1 hvl hxv hx (hLS.2 i _ x hxv hx) xg hl' (hk.base hG) (by omega) (by omega) with ⟨m, rfl, hE, lv2, g', e1, xg', hl2⟩ | ⟨hno, ws', g', e1, xg'⟩
      · refine ⟨.normal, _, g', e1, .inl ⟨rfl, es ++ [m], delP left m, there ||| setOf m, lv2, rfl, xg', hl2, hk.add (by rw [hei]; exact hE), ?_⟩⟩
        rw [List.take_add_one, hx, ht, List.map_append]; rfl
      · exact ⟨.ret, _, g', e1, .inr ⟨by simp, xg', .inr ⟨rfl, not_ok hk ht hx hno, _, rfl⟩⟩⟩)
    (by
      rintro ws g ⟨es, left, there, lv', rfl, xg, hl', hk, ht⟩
      rw [List.take_length] at ht
      refine ⟨.exit 0, [.bool false, iv 0, lv', iv there, iv LL.length], g, ?_, by simp, xg, .inl ⟨rfl, es, left, there, lv', _, rfl, hl', hk, ht⟩⟩
      unfold f54_l1
      rw [show AM.gv [.bool false, iv 0, lv', iv there, iv LL.length] 4 = iv LL.length from rfl, asI_int, lt_f (by omega), ifB_false]
      rfl)
    (ws := [.bool false, iv 0, lv, iv 0, iv 0]) (h := h) (by omega) ⟨[], G, 0, lv, rfl, .refl _, hl, .inl ⟨rfl, rfl, rfl⟩, rfl⟩
  rcases hor with ⟨rfl, es, left, there, lv', z, rfl, h1, h2, h3⟩ | ⟨rfl, h1, ws', rfl⟩
  · exact .inl ⟨es, left, there, lv', h', z, hlp, xg, h1, h2, h3⟩
  · exact .inr ⟨h1, ws', h', hlp, xg⟩

theorem s54 {v lv : Value} {g : List Nat} {vs : List Value} {LL : List (List Int)} {h : H} (hg : GrN g) (hval : validG (g.map Int.ofNat) = true) (hs : SlR h 3 1 v (cellsN g)) (hl : SlR h 102 1 lv (cellsV vs)) (hv : AllSl vs) (hLS : LSI h vs LL)
    (_hm : LL.length ≤ 100) (_hm2 : ∀ m ∈ LL, m.length ≤ 100) : ∃ q, rn 54 #[v, lv] h = some (.tuple #[.bool q, iv 0], h) ∧ (q = true ↔ EarsOk g LL) := by
  have hn : ∀ {T : Type} (Q : Int → Option T), len lv Q = Q (LL.length : Int) := fun Q => by rw [hl.len, List.length_map, hLS.1]
  have c63 := fun (K : Value → H → Option (Value × H)) => calls_eq (K := K) (xs := [v]) (s63 (l := g.map Int.ofNat) (h := h) (by rw [cellsN_eq]; exact hs))
  rw [if_pos hval] at c63
  have hg0 : g ≠ [] := by rintro rfl; have := hg.pos; simp at this
  refine s85 hg.toGrB hg0 hs fun v5 h2 bb e85 x2 hbb hia => ?_
  rcases s54_l1 (K := LL.length + (LL.map List.length).sum + 300) hg (hs.ext x2.toExt) (hl.ext x2.toExt) hv (hLS.ext x2.toExt) hia.slN rfl with ⟨es, left, there, lv', g1, z, e1, xg, hl', hk, ht⟩ | ⟨hno, ws', g1, e1, xg⟩
  · have hb := hk.base hg
    have xg1 := x2.toExt.trans xg
    have hs2 := hs.ext xg1
    obtain ⟨v64, g2, e77, x3, a64⟩ := s77 hb.gr.toGrB hl'
    have hn64 : ∀ {T : Type} (Q : Int → Option T), len v64 Q = Q ((edgesP left).length : Int) := fun Q => by rw [a64.slR.len]; simp
    have hok : EarsOk g LL ↔ there = allN g ∧ (edgesP left).length = 0 := by
      constructor
      · rintro ⟨es', left', hLL, hEL, hE⟩
        have : es' = es := map2_inj (hLL.symm.trans ht)
        subst this
        obtain ⟨rfl, rfl⟩ := ELk.fun_ (.inr hEL) hk
        exact ⟨rfl, by rw [hE]; rfl⟩
      · rintro ⟨rfl, hE⟩
        rcases hk with ⟨_, _, h0⟩ | hk
        · exact absurd h0 (all_ne hg)
        · exact ⟨es, left, ht, hk, List.length_eq_zero_iff.1 hE⟩
    by_cases hm : there = allN g
    · refine ⟨decide ((edgesP left).length = 0), p54 (k := LL.length + (LL.map List.length).sum + 300) (h1 := g2) ?_ rfl (xg1.trans x3.toExt), by rw [hok, decide_eq_true_iff]; exact ⟨fun h => ⟨hm, h⟩, fun h => h.2⟩⟩
      unfold f54
      rw [c63, ext20, ext21, asB_bool, show (!true) = false from rfl, ifB_false, calls_eq (xs := [v]) e85, hn]
      refine (lp_eq e1).trans ?_
      rw [onE_exit, if_pos rfl, calls_eq (xs := [v]) (s65 hg.toGrB hs2), asI_int, show AM.gv [.bool false, iv 0, lv', iv there, z] 3 = iv there from rfl, asI_int, hm, show AM.eq (allN g : Int) (allN g : Int) = true by simp [AM.eq], ifB_true, show AM.gv [.bool false, iv 0, lv', iv (allN g : Nat), z] 2 = lv' from rfl, calls_eq (xs := [lv']) e77, hn64]
      have : AM.eq ((edgesP left).length : Int) 0 = decide ((edgesP left).length = 0) := eqN (b := 0)
      rw [this]
    · refine ⟨false, p54 (k := LL.length + (LL.map List.length).sum + 300) (h1 := g1) ?_ rfl xg1, by rw [hok]; simp [hm]⟩
      unfold f54
      rw [c63, ext20, ext21, asB_bool, show (!true) = false from rfl, ifB_false, calls_eq (xs := [v]) e85, hn]
      refine (lp_eq e1).trans ?_
      rw [onE_exit, if_pos rfl, calls_eq (xs := [v]) (s65 hg.toGrB hs2), asI_int, show AM.gv [.bool false, iv 0, lv', iv there, z] 3 = iv there from rfl, asI_int, show AM.eq (there : Int) (allN g : Int) = false by simp [AM.eq]; omega, ifB_false]
  · refine ⟨false, p54 (k := LL.length + (LL.map List.length).sum + 300) (h1 := g1) ?_ rfl (x2.toExt.trans xg), by simp [hno]⟩
    unfold f54
    rw [c63, ext20, ext21, asB_bool, show (!true) = false from rfl, ifB_false, calls_eq (xs := [v]) e85, hn]
    refine (lp_eq e1).trans ?_
    rw [onE_ret, onR_ret]
    rfl

end Go.AM

end

section

/- The first numbering is one, plainly. -/
namespace Go.AM
open Go.Proofs
theorem setL_from : ∀ (m : List Nat) (s i : Nat), (m.foldl (fun s x => s ||| 2 ^ x) s).testBit i = true ↔ s.testBit i = true ∨ i ∈ m
  | [], s, i => by simp
  | x :: m, s, i => by
    rw [List.foldl_cons, setL_from m, Nat.testBit_or, Bool.or_eq_true, Nat.testBit_two_pow, decide_eq_true_iff, List.mem_cons]
    constructor
    · rintro ((h | h) | h)
      · exact .inl h
      · exact .inr (.inl h.symm)
      · exact .inr (.inr h)
    · rintro (h | h | h)
      · exact .inl (.inl h)
      · exact .inl (.inr h.symm)
      · exact .inr h

theorem cq_parts {g : List Nat} {t B v : Nat} (h : cq g t B v = true) : B.testBit v = false ∧ v ≠ t ∧ nb g v &&& B ≠ 0 ∧ nb g v &&& lf g (B ||| 2 ^ v) ≠ 0 := by
  unfold cq at h
  simp only [Bool.and_eq_true, Bool.not_eq_true', decide_eq_true_eq] at h
  exact ⟨h.1.1.1, h.1.1.2, h.1.2, h.2⟩

/-- What the rest of a numbering is like. -/
theorem Gr.parts {g : List Nat} (hg : GrN g) {t B : Nat} {r : List Nat} (h : Gr g t B r) (hB : B < 2 ^ g.length) (ht : B.testBit t = false) (htn : t < g.length) :
    (∀ x ∈ r, x < g.length ∧ B.testBit x = false) ∧ r.Nodup ∧ (∀ x, x < g.length → B.testBit x = true ∨ x ∈ r) ∧ r.getLast? = some t ∧
      ∀ len i, 0 < i → i + r.length = len → numR g (allN g) len r i B = true := by
  induction h with
  | @fin B hf =>
    have hbit : ∀ x, (lf g B).testBit x = true ↔ x = t := fun x => by rw [hf, Nat.testBit_two_pow, decide_eq_true_iff]; exact eq_comm
    refine ⟨?_, by simp, ?_, rfl, ?_⟩
    · intro x hx
      rw [List.mem_singleton] at hx
      rw [hx]; exact ⟨htn, ht⟩
    · intro x hx
      cases hb : B.testBit x with
      | true => exact .inl rfl
      | false =>
        right
        have := (hbit x).1 (by rw [lf_bit, hb, decide_eq_true hx]; rfl)
        simp [this]
    · intro len i hi hl
      simp only [List.length_singleton] at hl
      simp only [numR]
      unfold badN
      rw [show decide (i < len - 1) = false by rw [decide_eq_false_iff_not]; omega]
      simp
  | @step B v r hne hnext hr ih =>
    have hmem := List.find?_some hnext
    have hvl := List.mem_range.1 (List.mem_of_find?_eq_some hnext)
    rw [Bool.and_eq_true] at hmem
    obtain ⟨c1, c2, c3, c4⟩ := cq_parts hmem.1
    have hB2 : B ||| 2 ^ v < 2 ^ g.length := Nat.or_lt_two_pow hB (Nat.pow_lt_pow_right (by omega) hvl)
    have hb2 : ∀ x, (B ||| 2 ^ v).testBit x = true ↔ B.testBit x = true ∨ x = v := fun x => by
      rw [Nat.testBit_or, Bool.or_eq_true, Nat.testBit_two_pow, decide_eq_true_iff]; exact ⟨fun h => h.elim .inl fun e => .inr e.symm, fun h => h.elim .inl fun e => .inr e.symm⟩
    obtain ⟨i1, i2, i3, i4, i5⟩ := ih hB2 (Bool.eq_false_iff.2 fun h => by
      rcases (hb2 t).1 h with h | h
      · rw [ht] at h; cases h
      · exact c2 h.symm)
    have hvr : v ∉ r := fun h => by
      have := (i1 v h).2
      rw [(hb2 v).2 (.inr rfl)] at this; cases this
    refine ⟨?_, List.nodup_cons.2 ⟨hvr, i2⟩, ?_, ?_, ?_⟩
    · intro x hx
      rcases List.mem_cons.1 hx with rfl | hx
      · exact ⟨hvl, c1⟩
      · refine ⟨(i1 x hx).1, Bool.eq_false_iff.2 fun h => ?_⟩
        have := (i1 x hx).2
        rw [(hb2 x).2 (.inl h)] at this; cases this
    · intro x hx
      rcases i3 x hx with h | h
      · rcases (hb2 x).1 h with h | h
        · exact .inl h
        · exact .inr (by rw [h]; exact List.mem_cons_self)
      · exact .inr (List.mem_cons_of_mem _ h)
    · have hrl := hr.len
      cases r with
      | nil => simp at hrl
      | cons y r => rw [List.getLast?_cons_cons]; exact i4
    · intro len i hi hl
      rw [List.length_cons] at hl
      have hbad : badN g (allN g) len i v B = false := by
        unfold badN
        have h1 : nb g v &&& without (without (allN g) B) (2 ^ v) ≠ 0 := by
          have he : without (without (allN g) B) (2 ^ v) = lf g (B ||| 2 ^ v) := by
            refine Nat.eq_of_testBit_eq fun i => ?_
            rw [lf_bit, without_bit, without_bit, allN_bit, Nat.testBit_or, Bool.not_or, Bool.and_assoc]
          rw [he]; exact c4
        rw [decide_eq_false c3, decide_eq_false h1]
        simp
      simp only [numR, hbad, Bool.false_eq_true, if_false]
      exact i5 len (i + 1) (by omega) (by omega)

theorem gr_check {g : List Nat} (hg : GrN g) {s t : Nat} {r : List Nat} (hsn : s < g.length) (htn : t < g.length) (ha : adj g s t = true) (h : Gr g t (2 ^ s) r) :
    chkP g ((s :: r).map Int.ofNat) = true ∧ (s :: r).length = g.length ∧ nb (s :: r) ((s :: r).length - 1) = t := by
  have hst : s ≠ t := by rintro rfl; rw [hg.irr] at ha; cases ha
  have hlen := hg.len
  obtain ⟨p1, p2, p3, p4, p5⟩ := h.parts hg (Nat.pow_lt_pow_right (by omega) hsn) (by rw [Nat.testBit_two_pow]; exact decide_eq_false hst) htn
  have hbs : ∀ x, (2 ^ s).testBit x = true ↔ x = s := fun x => by rw [Nat.testBit_two_pow, decide_eq_true_iff]; exact eq_comm
  have hsr : s ∉ r := fun hm => by
    have := (p1 s hm).2
    rw [(hbs s).2 rfl] at this; cases this
  have hall : ∀ x ∈ s :: r, x < g.length := fun x hx => by
    rcases List.mem_cons.1 hx with rfl | hx
    · exact hsn
    · exact (p1 x hx).1
  have hnd : (s :: r).Nodup := List.nodup_cons.2 ⟨hsr, p2⟩
  have hlength : (s :: r).length = g.length := by
    have := perm_len hnd (List.nodup_range (n := g.length)) fun x => ⟨fun hx => List.mem_range.2 (hall x hx), fun hx => by
      rcases p3 x (List.mem_range.1 hx) with h | h
      · rw [(hbs x).1 h]; exact List.mem_cons_self
      · exact List.mem_cons_of_mem _ h⟩
    rw [this, List.length_range]
  have hlast : nb (s :: r) ((s :: r).length - 1) = t := by
    have hrl := h.len
    cases r with
    | nil => simp at hrl
    | cons y r =>
      unfold nb
      rw [List.getD_eq_getElem?_getD, ← List.getLast?_eq_getElem?, List.getLast?_cons_cons, p4]; rfl
  have hmap : ((s :: r).map Int.ofNat).map Int.toNat = s :: r := by
    rw [List.map_map]
    conv => rhs; rw [← List.map_id (s :: r)]
    exact List.map_congr_left fun x _ => rfl
  refine ⟨?_, hlength, hlast⟩
  unfold chkP
  rw [hmap, List.length_map]
  have h1 : ((s :: r).map Int.ofNat).all (nodeB g) = true := by
    rw [List.all_eq_true]
    intro z hz
    obtain ⟨x, hx, rfl⟩ := List.mem_map.1 hz
    have := hall x hx
    unfold nodeB
    show (decide ((0 : Int) ≤ (x : Int)) && decide ((x : Int) < (g.length : Int))) = true
    rw [decide_eq_true (by omega), decide_eq_true (by omega)]; rfl
  have h2 : setL (s :: r) = allN g := by
    refine Nat.eq_of_testBit_eq fun i => ?_
    unfold setL
    rw [Bool.eq_iff_iff, setL_from, allN_bit, decide_eq_true_iff]
    simp only [Nat.zero_testBit, Bool.false_eq_true, false_or]
    exact ⟨fun hm => hall i hm, fun hi => by
      rcases p3 i hi with h | h
      · rw [(hbs i).1 h]; exact List.mem_cons_self
      · exact List.mem_cons_of_mem _ h⟩
  have h3 : endsN g (s :: r) = true := by
    unfold endsN
    have e1 : (s :: r).getD ((s :: r).length - 1) 0 = t := hlast
    rw [e1]; exact ha
  have h4 : numR g (allN g) (s :: r).length (s :: r) 0 0 = true := by
    simp only [numR]
    rw [show badN g (allN g) (s :: r).length 0 s 0 = false from rfl, Nat.zero_or]
    exact p5 _ 1 (by omega) (by simp; omega)
  have hrl := h.len
  rw [h1, h2, h3, h4, hlength, decide_eq_true rfl, decide_eq_true rfl, decide_eq_true (by rw [← hlength]; simp; omega)]
  rfl

end Go.AM

end

section

/- EarsOrients and EarsStrong. -/
namespace Go.AM
open Go.Proofs
variable {R : Type}
attribute [local simp] nx_eq nx_new nx_set blk_new blk_set asI_int asK_int asB_bool asP_ptr al_eq bx_eq len_slice onE_exit onE_ret onR_ret Value.cells cell_new cell_set rd_new rd_set off eq lt le ifB gv out ext20 ext21
/-! ### From one type of streets to the other -/
/-- The document's Firm. -/
theorem s31 {v : Value} {g : List Nat} {h : H} (hg : GrN g) (hs : SlR h 3 1 v (cellsN g)) : rn 31 #[v] h = some (.bool (firmP g), h) := by
  have c68 := fun (K : Value → H → Option (Value × H)) => calls_eq (K := K) (xs := [v]) (s68 hg.toGrB hs)
  have c67 := fun (K : Value → H → Option (Value × H)) => calls_eq (K := K) (xs := [v, iv (allN g : Nat)]) (s67 hg.toGrB hs (allN_lt g))
  obtain ⟨v3, h3, e25, x3, hs3⟩ := s25 hg.toGrB hs
  have c25 := fun (K : Value → H → Option (Value × H)) => calls_eq (K := K) (xs := [v]) e25
  have hn3 : ∀ {T : Type} (K : Int → Option T), len v3 K = K ((bridgesP g).length : Int) := fun K => by rw [hs3.len]; simp
  rw [decide_eq_true (all_ne hg), Bool.true_and] at c67
  by_cases hc : connS g (allN g) = true
  · refine p31 (k := 0) (h1 := h3) ?_ rfl x3.toExt
    unfold f31 firmP
    rw [c68, asI_int, c67, asB_bool, hc, ifB_true, c25, hn3, Bool.true_and]
    cases hb : bridgesP g with
    | nil => simp
    | cons a l => simp; omega
  · refine p31 (k := 0) (h1 := h) ?_ rfl (.refl _)
    unfold f31 firmP
    rw [c68, asI_int, c67, asB_bool, Bool.eq_false_iff.2 hc, ifB_false, Bool.false_and]

/-! ### Plain -/
/-! ### EarsOrients -/
/-! ### EarsStrong -/
theorem rch_all {g : List Nat} (hg : GrN g) : decide (rch g (allN g) 0 = allN g) = connS g (allN g) := by
  rw [Bool.eq_iff_iff, decide_eq_true_iff, conn_iff hg (allN_lt g), rch_full (allN_lt10 hg) (all_bit0 hg)]
  constructor
  · intro h a b ha hb
    exact ((h a ha).sym hg.sym (all_bit0 hg)).trans (h b hb)
  · exact fun h u hu => h 0 u (all_bit0 hg) hu

end Go.AM

end
