/- Check, and the document's own test of a way. -/
import Derived.Test.YthmfjfblndophaaSpecF
namespace Go.AM
open Go.Proofs

variable {k : Nat}

/-- Two different people of a valid log. -/
def pairP (n : Int) (l : List Cl) (s t : Int) : Bool := validP n l && decide (0 ≤ s ∧ s < n) && decide (0 ≤ t ∧ t < n) && !(s == t)

theorem f27_spec {n s t : Int} {sl v1 : Value} {l : List Cl} {way : List Int} {h : H} {m : Nat} (hs : SlR h 56 3 sl (l.map Cl.cells)) (hw : SlR h 3 1 v1 (way.map cellI)) (hk : way.length < k) (hm : l.length < m + 3) :
    ∃ h', f27 (call Try.prog E0 (m + 5)) k (.agg #[iv n, sl]) s t v1 h = some (.tuple #[.bool (pairP n l s t && goP l t way s 0 (shl .i64 1 s)), iv (if pairP n l s t then 0 else 2)], h') ∧ Ext h h' := by
  unfold f27
  rw [bx_eq, nx_eq, show (Value.agg #[iv n, sl]).cells.toList = [iv n, sl] from rfl]
  have x1 : Ext h (h.new (.row [iv n, sl] 31 true)) := .new _ _
  have hb1 : (h.new (.row [iv n, sl] 31 true)).blk h.nx = some (.row [iv n, sl] 31 true) := blk_new_self _ _
  have hn1 : h.nx < (h.new (.row [iv n, sl] 31 true)).nx := Nat.lt_succ_self _
  generalize h.new (.row [iv n, sl] 31 true) = h1 at *
  obtain ⟨h2, e2, y2⟩ := f71_spec (k := m + 5) (m := m) (n := n) (hs.ext x1) (by omega) hm
  rw [ldA31 hb1 rfl, calls_eq (c71 e2), asB_bool, ifB_not]
  have x2 := x1.trans y2
  have hb2 := (y2.blk _ hn1).trans hb1
  have hn2 := Nat.lt_of_lt_of_le hn1 y2.nx
  cases hv : validP n l with
  | false => exact ⟨h2, by rw [ifB_false]; simp [pairP, hv], x2⟩
  | true =>
  rw [ifB_true, ldA31 hb2 rfl, calls_eq (c72 (f72_eq n s sl h2)), asB_bool, ifB_not]
  have y3 := Ext.new h2 (.row [iv n, sl] 31 true)
  generalize h2.new (.row [iv n, sl] 31 true) = h3 at *
  have x3 := x2.trans y3
  have hb3 := (y3.blk _ hn2).trans hb2
  have hn3 := Nat.lt_of_lt_of_le hn2 y3.nx
  rcases (Decidable.em (0 ≤ s ∧ s < n)).symm with hsn | hsn
  · rw [decide_eq_false hsn, ifB_false]
    exact ⟨h3, by simp [pairP, hsn], x3⟩
  rw [decide_eq_true hsn, ifB_true, ldA31 hb3 rfl, calls_eq (c72 (f72_eq n t sl h3)), asB_bool, ifB_not]
  have y4 := Ext.new h3 (.row [iv n, sl] 31 true)
  generalize h3.new (.row [iv n, sl] 31 true) = h4 at *
  have x4 := x3.trans y4
  have hb4 := (y4.blk _ hn3).trans hb3
  have hn4 := Nat.lt_of_lt_of_le hn3 y4.nx
  rcases (Decidable.em (0 ≤ t ∧ t < n)).symm with htn | htn
  · rw [decide_eq_false htn, ifB_false]
    exact ⟨h4, by simp [pairP, htn], x4⟩
  rw [decide_eq_true htn, ifB_true, ifB_eq]
  split
  · rename_i hst
    exact ⟨h4, by simp [pairP, hst], x4⟩
  rename_i hst
  have hp : pairP n l s t = true := by simp [pairP, hv, hsn, htn, hst]
  rw [nn_ge hsn.1, hw.len, List.length_map]
  obtain ⟨e, ws', h5, hl, y5, hq⟩ := f27_l1_spec (k := k) (m := m + 4) (t := t) hv hsn (hs.ext x4) (hw.ext x4) hk hn4 hb4
  rw [lp_eq hl]
  rcases hq with ⟨rfl, a, hg, ha⟩ | ⟨rfl, hg0, hg1, hgo⟩
  · refine ⟨h5, ?_, x4.trans y5⟩
    rw [onE_exit, if_pos rfl, hg, asI_int, hp, ← ha]
    simp [eq]
  · refine ⟨h5, ?_, x4.trans y5⟩
    rw [onE_ret, onR_ret, hg0, hg1, hp, hgo]
    simp

theorem f21_spec {n s t : Int} {sl : Value} {l : List Cl} {h : H} {m : Nat} (hs : SlR h 59 3 sl (l.map Cl.cells)) (hm : l.length < m + 1) :
    ∃ h', f21 (call Try.prog E0 (m + 1)) k (.agg #[iv n, sl]) s t h = some (.bool (pairP n l s t), h') ∧ Ext h h' := by
  unfold f21
  rw [bx_eq, nx_eq, show (Value.agg #[iv n, sl]).cells.toList = [iv n, sl] from rfl]
  have x1 : Ext h (h.new (.row [iv n, sl] 24 true)) := .new _ _
  have hb1 : (h.new (.row [iv n, sl] 24 true)).blk h.nx = some (.row [iv n, sl] 24 true) := blk_new_self _ _
  have hn1 : h.nx < (h.new (.row [iv n, sl] 24 true)).nx := Nat.lt_succ_self _
  generalize h.new (.row [iv n, sl] 24 true) = h1 at *
  obtain ⟨h2, e2, y2⟩ := f35_spec (rec := call Try.prog E0 m) (k := m + 1) (n := n) (hs.ext x1) hm
  rw [ldA24 hb1 rfl, calls_eq (c35 e2), asB_bool, valid_eq]
  have x2 := x1.trans y2
  have hb2 := (y2.blk _ hn1).trans hb1
  have hn2 := Nat.lt_of_lt_of_le hn1 y2.nx
  cases hv : validP n l with
  | false => exact ⟨h2, by rw [ifB_false]; simp [pairP, hv], x2⟩
  | true =>
  rw [ifB_true, ldA24 hb2 rfl, calls_eq (c42 (f42_eq n s sl h2)), asB_bool]
  have y3 := Ext.new h2 (.row [iv n, sl] 24 true)
  generalize h2.new (.row [iv n, sl] 24 true) = h3 at *
  have x3 := x2.trans y3
  have hb3 := (y3.blk _ hn2).trans hb2
  rcases (Decidable.em (0 ≤ s ∧ s < n)).symm with hsn | hsn
  · rw [decide_eq_false hsn, ifB_false]
    exact ⟨h3, by simp [pairP, hsn], x3⟩
  rw [decide_eq_true hsn, ifB_true, ldA24 hb3 rfl, calls_eq (c42 (f42_eq n t sl h3)), asB_bool]
  have y4 := Ext.new h3 (.row [iv n, sl] 24 true)
  generalize h3.new (.row [iv n, sl] 24 true) = h4 at *
  have x4 := x3.trans y4
  rcases (Decidable.em (0 ≤ t ∧ t < n)).symm with htn | htn
  · rw [decide_eq_false htn, ifB_false]
    exact ⟨h4, by simp [pairP, htn], x4⟩
  rw [decide_eq_true htn, ifB_true]
  refine ⟨h4, ?_, x4⟩
  simp [pairP, hv, hsn, htn, eq]

end Go.AM
