/- The valid logs, as the document's own test tells them: the same ones. -/
import Derived.Test.YthmfjfblndophaaSpecB
namespace Go.AM
open Go.Proofs

variable {k : Nat} {rec : Rec}

/-- Does a call ahead of c stand against it? -/
def against (c d : Cl) : Bool := decide (c.t < d.t) || clash c d

def rowR (n : Int) (l : List Cl) (i : Nat) : Bool :=
  match l[i]? with
  | none => true
  | some c => okC n c && !(l.take i).any (against c)

theorem under24 : Try.prog.underlying 22 = some (.slice 59) := by kernel_rfl

theorem f35_l2_spec {c : Cl} {sl : Value} {l : List Cl} {h2 h3 : H} {x0 : Value} (hs : SlR h3 59 3 sl (l.map Cl.cells)) (hk : l.length < k) (hn : h2.nx < h3.nx) (hc : h3.blk h2.nx = some (.row c.cells 59 true)) :
    ∃ e ws' h', lpGo (f35_l2 rec k h2 sl l.length) k [x0, iv 0] h3 = some (e, ws', h') ∧ Ext h3 h' ∧
      ((e = .exit 2 ∧ gv ws' 0 = x0 ∧ l.any (against c) = false) ∨ (e = .ret ∧ gv ws' 0 = .bool false ∧ l.any (against c) = true)) := by
  have hlen := hs.lt62
  rw [List.length_map] at hlen
  obtain ⟨e, ws', h', hl, hx, hq⟩ := lpGo_inv (F := f35_l2 rec k h2 sl l.length)
    (fun d ws h4 => ∃ (i : Nat), ws = [x0, iv i] ∧ i + d = l.length ∧ Ext h3 h4 ∧ ∀ y ∈ l.take i, against c y = false)
    (fun e ws h4 => Ext h3 h4 ∧ ((e = .exit 2 ∧ gv ws 0 = x0 ∧ l.any (against c) = false) ∨ (e = .ret ∧ gv ws 0 = .bool false ∧ l.any (against c) = true)))
    (by
      rintro d ws h4 ⟨i, rfl, hd, hx, hno⟩
      unfold f35_l2
      rw [show gv [x0, iv i] 1 = iv i from rfl, asI_int, ifB_lt]
      split
      · rename_i hlt
        have hi : i < l.length := by omega
        obtain ⟨b, o, cs, own, hb, hr, q1, q2, q3, q4⟩ := (hs.ext hx).six (i := (i : Int)) (by omega) (x := (l[i]).cells) (by simp [hi])
        rw [asK_int, q4, ld_elem ag59 sz59 hr q1 q2 q3]
        have hmem : l[i] ∈ l := List.getElem_mem hi
        have bad : against c l[i] = true → ∀ h5, Ext h3 h5 → ∃ e ws' h', out .ret [(.bool false), iv i] h5 = some (e, ws', h') ∧
            ((e = .normal ∧ ∃ d', d' < d ∧ ∃ (i : Nat), ws' = [x0, iv i] ∧ i + d' = l.length ∧ Ext h3 h' ∧ ∀ y ∈ l.take i, against c y = false) ∨
             (e ≠ .normal ∧ Ext h3 h' ∧ ((e = .exit 2 ∧ gv ws' 0 = x0 ∧ l.any (against c) = false) ∨ (e = .ret ∧ gv ws' 0 = .bool false ∧ l.any (against c) = true)))) := by
          intro hbad h5 x5
          refine ⟨.ret, _, _, rfl, .inr ⟨by simp, x5, .inr ⟨rfl, rfl, ?_⟩⟩⟩
          rw [List.any_eq_true]
          exact ⟨_, hmem, hbad⟩
        have good : against c l[i] = false → ∀ h5, Ext h3 h5 → ∃ e ws' h', out .normal [x0, iv ((i : Int) + 1)] h5 = some (e, ws', h') ∧
            ((e = .normal ∧ ∃ d', d' < d ∧ ∃ (i : Nat), ws' = [x0, iv i] ∧ i + d' = l.length ∧ Ext h3 h' ∧ ∀ y ∈ l.take i, against c y = false) ∨
             (e ≠ .normal ∧ Ext h3 h' ∧ ((e = .exit 2 ∧ gv ws' 0 = x0 ∧ l.any (against c) = false) ∨ (e = .ret ∧ gv ws' 0 = .bool false ∧ l.any (against c) = true)))) := by
          intro hg h5 x5
          refine ⟨.normal, _, _, rfl, .inl ⟨rfl, d - 1, by omega, i + 1, rfl, by omega, x5, fun y hy => ?_⟩⟩
          rw [List.take_add_one, List.mem_append] at hy
          rcases hy with hy | hy
          · exact hno y hy
          · simp [hi] at hy; rw [hy]; exact hg
        generalize l[i] = y at *
        rw [al_st (zs := [iv 0, iv 0, iv 0]) (xs := y.cells) sz59 rfl rfl]
        have x5 : Ext h3 (h4.fresh 59 [iv 0, iv 0, iv 0] y.cells) := hx.fresh _ _ _
        have hyb := blk_fresh h4 59 [iv 0, iv 0, iv 0] y.cells
        generalize h4.fresh 59 [iv 0, iv 0, iv 0] y.cells = h5 at *
        have hcb := (x5.blk _ hn).trans hc
        rw [nx_eq, nx_eq, ld3 hyb (show y.cells[off 0 2]? = some (iv y.t) from rfl), asI_int, ld3 hcb (show c.cells[off 0 2]? = some (iv c.t) from rfl), asI_int, ifB_lt]
        split
        · rename_i ht
          exact bad (by simp [against, ht]) _ x5
        rename_i ht
        rw [ld3 hyb (show y.cells[off 0 2]? = some (iv y.t) from rfl), asI_int, ld3 hcb (show c.cells[off 0 2]? = some (iv c.t) from rfl), asI_int, ifB_eq]
        split
        · rename_i ht2
          rw [ld3 hyb (show y.cells[0]? = some (iv y.a) from rfl), asI_int, ld3 hcb (show c.cells[0]? = some (iv c.a) from rfl), asI_int, ifB_eq]
          split
          · rename_i e1; exact bad (by simp [against, clash, Cl.has, ht2, e1]) _ x5
          rename_i e1
          rw [ld3 hyb (show y.cells[0]? = some (iv y.a) from rfl), asI_int, ld3 hcb (show c.cells[off 0 1]? = some (iv c.b) from rfl), asI_int, ifB_eq]
          split
          · rename_i e2; exact bad (by simp [against, clash, Cl.has, ht2, e2]) _ x5
          rename_i e2
          rw [ld3 hyb (show y.cells[off 0 1]? = some (iv y.b) from rfl), asI_int, ld3 hcb (show c.cells[0]? = some (iv c.a) from rfl), asI_int, ifB_eq]
          split
          · rename_i e3; exact bad (by simp [against, clash, Cl.has, ht2, e3]) _ x5
          rename_i e3
          rw [ld3 hyb (show y.cells[off 0 1]? = some (iv y.b) from rfl), asI_int, ld3 hcb (show c.cells[off 0 1]? = some (iv c.b) from rfl), asI_int, ifB_eq]
          split
          · rename_i e4; exact bad (by simp [against, clash, Cl.has, ht2, e4]) _ x5
          rename_i e4
          rw [asI_int, add64 (by omega) (by omega)]
          exact good (by simp [against, clash, Cl.has, ht, ht2, e1, e2, e3, e4]) _ x5
        · rename_i ht2
          rw [asI_int, add64 (by omega) (by omega)]
          exact good (by simp [against, clash, ht, ht2]) _ x5
      · rename_i hlt
        refine ⟨.exit 2, _, _, rfl, .inr ⟨by simp, hx, .inl ⟨rfl, rfl, ?_⟩⟩⟩
        rw [List.any_eq_false]
        intro y hy
        rw [hno y (by rw [List.take_of_length_le (by omega)]; exact hy)]
        simp)
    l.length k (ws := [x0, iv 0]) (h := h3) hk ⟨0, rfl, by omega, .refl _, by simp⟩
  exact ⟨e, ws', h', hl, hx, hq⟩

def validR (n : Int) (l : List Cl) : Bool := !decide (n < 1) && !decide (7 < n) && !decide (24 < (l.length : Int)) && (List.range l.length).all (rowR n l)

theorem f35_spec {n : Int} {sl : Value} {l : List Cl} {h : H} (hs : SlR h 59 3 sl (l.map Cl.cells)) (hk : l.length < k) :
    ∃ h', f35 rec k (.agg #[iv n, sl]) h = some (.bool (validR n l), h') ∧ Ext h h' := by
  have hlen := hs.lt62
  rw [List.length_map] at hlen
  have x1 : Ext h (h.new (.row [iv n, sl] 24 true)) := .new _ _
  have hs1 := hs.ext x1
  unfold f35
  rw [bx_eq, nx_eq, show (Value.agg #[iv n, sl]).cells.toList = [iv n, sl] from rfl]
  have hb1 : (h.new (.row [iv n, sl] 24 true)).blk h.nx = some (.row [iv n, sl] 24 true) := blk_new_self _ _
  rw [ld3 hb1 rfl, asI_int, ifB_lt]
  split
  · rename_i hn
    exact ⟨_, by simp [validR, hn], x1⟩
  rename_i hn1
  rw [ld3 hb1 rfl, asI_int, ifB_lt]
  split
  · rename_i hn
    exact ⟨_, by simp [validR, hn], x1⟩
  rename_i hn2
  rw [ld22 hb1 (show [iv n, sl][off 0 1]? = some sl from rfl), hs.len, ifB_lt]
  split
  · rename_i hn
    rw [List.length_map] at hn
    exact ⟨_, by simp [validR, hn], x1⟩
  rename_i hn3
  rw [ld22 hb1 (show [iv n, sl][off 0 1]? = some sl from rfl), hs.len]
  simp only [List.length_map] at hn3 ⊢
  generalize hG : h.new (.row [iv n, sl] 24 true) = h1 at *
  have hnx : h.nx < h1.nx := by rw [← hG]; exact Nat.lt_succ_self _
  obtain ⟨e, ws', h', hl, hx, hq⟩ := lpGo_inv (F := f35_l1 rec k h sl l.length)
    (fun d ws h2 => ∃ (x : Value) (i : Nat), ws = [x, iv i] ∧ i + d = l.length ∧ Ext h1 h2 ∧ ∀ j, j < i → rowR n l j = true)
    (fun e ws h2 => Ext h1 h2 ∧ ((e = .exit 0 ∧ (List.range l.length).all (rowR n l) = true) ∨ (e = .ret ∧ gv ws 0 = .bool false ∧ (List.range l.length).all (rowR n l) = false)))
    (by
      rintro d ws h2 ⟨x, i, rfl, hd, hx, hno⟩
      unfold f35_l1
      rw [show gv [x, iv i] 1 = iv i from rfl, asI_int, ifB_lt]
      split
      · rename_i hlt
        have hi : i < l.length := by omega
        have hli : l[i]? = some l[i] := List.getElem?_eq_getElem hi
        obtain ⟨b, o, cs, own, hb, hr, q1, q2, q3, q4⟩ := (hs1.ext hx).six (i := (i : Int)) (by omega) (x := (l[i]).cells) (by simp [hi])
        rw [asK_int, q4, ld_elem ag59 sz59 hr q1 q2 q3]
        generalize hc : l[i] = c at *
        have bad : rowR n l i = false → ∀ h3 (y : Value), Ext h1 h3 → ∃ e ws' h', out .ret [(.bool false), y] h3 = some (e, ws', h') ∧
            ((e = .normal ∧ ∃ d', d' < d ∧ ∃ (x : Value) (i : Nat), ws' = [x, iv i] ∧ i + d' = l.length ∧ Ext h1 h' ∧ ∀ j, j < i → rowR n l j = true) ∨
             (e ≠ .normal ∧ Ext h1 h' ∧ ((e = .exit 0 ∧ (List.range l.length).all (rowR n l) = true) ∨ (e = .ret ∧ gv ws' 0 = .bool false ∧ (List.range l.length).all (rowR n l) = false)))) := by
          intro hbad h3 y x3
          refine ⟨.ret, _, _, rfl, .inr ⟨by simp, x3, .inr ⟨rfl, rfl, ?_⟩⟩⟩
          rw [List.all_eq_false]
          exact ⟨i, List.mem_range.2 hi, by simp [hbad]⟩
        have hrow : rowR n l i = (okC n c && !(l.take i).any (against c)) := by
          unfold rowR; rw [hli]
        rw [al_st (zs := [iv 0, iv 0, iv 0]) (xs := c.cells) sz59 rfl rfl]
        have x4 : Ext h1 (h2.fresh 59 [iv 0, iv 0, iv 0] c.cells) := hx.fresh _ _ _
        have hcb := blk_fresh h2 59 [iv 0, iv 0, iv 0] c.cells
        have hn4 : h2.nx < (h2.fresh 59 [iv 0, iv 0, iv 0] c.cells).nx := Nat.lt_succ_self _
        generalize h2.fresh 59 [iv 0, iv 0, iv 0] c.cells = h4 at *
        have hbx : h4.blk h.nx = some (.row [iv n, sl] 24 true) := (x4.blk _ hnx).trans hb1
        rw [nx_eq, nx_eq, ld3 hcb (show c.cells[0]? = some (iv c.a) from rfl), asI_int, ifB_lt]
        split
        · rename_i e1; exact bad (by rw [hrow]; simp [okC, show ¬ 0 ≤ c.a by omega]) _ _ x4
        rename_i e1
        rw [ld3 hcb (show c.cells[0]? = some (iv c.a) from rfl), asI_int, ld3 hbx (show [iv n, sl][0]? = some (iv n) from rfl), asI_int, ifB_le]
        split
        · rename_i e2; exact bad (by rw [hrow]; simp [okC, show ¬ c.a < n by omega]) _ _ x4
        rename_i e2
        rw [ld3 hcb (show c.cells[off 0 1]? = some (iv c.b) from rfl), asI_int, ifB_lt]
        split
        · rename_i e3; exact bad (by rw [hrow]; simp [okC, show ¬ 0 ≤ c.b by omega]) _ _ x4
        rename_i e3
        rw [ld3 hcb (show c.cells[off 0 1]? = some (iv c.b) from rfl), asI_int, ld3 hbx (show [iv n, sl][0]? = some (iv n) from rfl), asI_int, ifB_le]
        split
        · rename_i e4; exact bad (by rw [hrow]; simp [okC, show ¬ c.b < n by omega]) _ _ x4
        rename_i e4
        rw [ld3 hcb (show c.cells[0]? = some (iv c.a) from rfl), asI_int, ld3 hcb (show c.cells[off 0 1]? = some (iv c.b) from rfl), asI_int, ifB_eq]
        split
        · rename_i e5; exact bad (by rw [hrow]; simp [okC, e5]) _ _ x4
        rename_i e5
        rw [ld3 hcb (show c.cells[off 0 2]? = some (iv c.t) from rfl), asI_int, ifB_lt]
        split
        · rename_i e6; exact bad (by rw [hrow]; simp [okC, e6]) _ _ x4
        rename_i e6
        rw [ld3 hcb (show c.cells[off 0 2]? = some (iv c.t) from rfl), asI_int, ifB_lt]
        split
        · rename_i e7; exact bad (by rw [hrow]; simp [okC, e7]) _ _ x4
        rename_i e7
        have hok : okC n c = true := by
          simp [okC, show 0 ≤ c.a by omega, show c.a < n by omega, show 0 ≤ c.b by omega, show c.b < n by omega, e5, e6, e7]
        obtain ⟨v', hv', hsli⟩ := (hs1.ext x4).take (i := (i : Int)) under24 sz59 (by omega) (by simp; omega)
        rw [ld22 hbx (show [iv n, sl][off 0 1]? = some sl from rfl), hsli, hv'.len]
        rw [show ((i : Int)).toNat = i from by omega, ← List.map_take] at hv' ⊢
        rw [List.length_map, show gv [x, iv i] 0 = x from rfl]
        obtain ⟨e', ws2, h5, hl2, x5, hq2⟩ := f35_l2_spec (rec := rec) (k := k) (x0 := x) hv' (by rw [List.length_take]; omega) hn4 hcb
        rw [lp_eq hl2]
        rcases hq2 with ⟨rfl, hg, hag⟩ | ⟨rfl, hg, hag⟩
        · rw [onE_exit, if_pos rfl, asI_int, add64 (by omega) (by omega)]
          refine ⟨.normal, _, _, rfl, .inl ⟨rfl, d - 1, by omega, _, i + 1, by rw [hg]; rfl, by omega, x4.trans x5, fun j hj => ?_⟩⟩
          rcases Nat.lt_or_ge j i with h8 | h8
          · exact hno j h8
          · obtain rfl : j = i := by omega
            rw [hrow, hok, hag]; rfl
        · rw [onE_ret, onR_ret, hg]
          exact bad (by rw [hrow, hag]; simp) _ _ (x4.trans x5)
      · rename_i hlt
        refine ⟨.exit 0, _, _, rfl, .inr ⟨by simp, hx, .inl ⟨rfl, ?_⟩⟩⟩
        rw [List.all_eq_true]
        intro j hj
        exact hno j (by have := List.mem_range.1 hj; omega))
    l.length k (ws := [.bool false, iv 0]) (h := h1) hk ⟨_, 0, rfl, by omega, .refl _, fun j hj => by omega⟩
  rcases hq with ⟨rfl, ha⟩ | ⟨rfl, hg, ha⟩
  · refine ⟨h', (lp_eq hl).trans ?_, x1.trans hx⟩
    rw [onE_exit, if_pos rfl]
    simp [validR, hn1, hn2, hn3, ha]
  · refine ⟨h', (lp_eq hl).trans ?_, x1.trans hx⟩
    rw [onE_ret, onR_ret, hg]
    simp [validR, ha]

/-- Both tests say the same. -/
theorem valid_eq (n : Int) (l : List Cl) : validR n l = validP n l := by
  have key : (List.range l.length).all (rowR n l) = (List.range l.length).all (rowOk n l) := by
    rw [Bool.eq_iff_iff, List.all_eq_true, List.all_eq_true]
    constructor
    · intro h i hi
      have hi' := List.mem_range.1 hi
      have := h i hi
      have hli : l[i]? = some l[i] := List.getElem?_eq_getElem hi'
      unfold rowR at this
      unfold rowOk
      rw [hli] at this ⊢
      simp only [Bool.and_eq_true, Bool.not_eq_true', List.any_eq_false] at this ⊢
      refine ⟨⟨this.1, ?_⟩, fun x hx hc => this.2 x hx (by simp [against, hc])⟩
      by_cases h0 : 0 < i
      · have hl1 : l[i - 1]? = some (l[i - 1]'(by omega)) := List.getElem?_eq_getElem (by omega)
        rw [hl1]
        have hm : l[i - 1]'(by omega) ∈ l.take i := List.mem_take_iff_getElem.2 ⟨i - 1, by omega, rfl⟩
        have h2 := this.2 _ hm
        simp only [against, Bool.or_eq_true, not_or, decide_eq_true_eq] at h2
        simp [h2.1]
      · simp [h0]
    · intro h i hi
      have hi' := List.mem_range.1 hi
      have hsort : ∀ j, j < l.length → ∀ i', i' < j → (l.getD i' ⟨0, 0, 0⟩).t ≤ (l.getD j ⟨0, 0, 0⟩).t := by
        intro j
        induction j with
        | zero => intro _ i' hi'; omega
        | succ j ih =>
          intro hj i' hi'
          have h1 := h (j + 1) (List.mem_range.2 hj)
          unfold rowOk at h1
          rw [List.getElem?_eq_getElem hj] at h1
          simp only [Bool.and_eq_true, Bool.not_eq_true'] at h1
          have h2 := h1.1.2
          rw [show j + 1 - 1 = j from rfl, List.getElem?_eq_getElem (show j < l.length by omega)] at h2
          simp only [Option.any_some, Nat.zero_lt_succ, decide_true, Bool.true_and, decide_eq_false_iff_not, Int.not_lt] at h2
          have e1 : l.getD j ⟨0, 0, 0⟩ = l[j] := by rw [List.getD_eq_getElem?_getD, List.getElem?_eq_getElem (show j < l.length by omega)]; rfl
          have e2 : l.getD (j + 1) ⟨0, 0, 0⟩ = l[j + 1] := by rw [List.getD_eq_getElem?_getD, List.getElem?_eq_getElem hj]; rfl
          rcases Nat.lt_or_ge i' j with h3 | h3
          · have := ih (by omega) i' h3
            rw [e1] at this
            rw [e2]
            omega
          · obtain rfl : i' = j := by omega
            rw [e1, e2]
            exact h2
      have := h i hi
      have hli : l[i]? = some l[i] := List.getElem?_eq_getElem hi'
      unfold rowOk at this
      unfold rowR
      rw [hli] at this ⊢
      simp only [Bool.and_eq_true, Bool.not_eq_true', List.any_eq_false] at this ⊢
      refine ⟨this.1.1, fun x hx hc => ?_⟩
      simp only [against, Bool.or_eq_true, decide_eq_true_eq] at hc
      rcases hc with hc | hc
      · obtain ⟨j, hj, rfl⟩ := List.mem_take_iff_getElem.1 hx
        have := hsort i hi' j (by omega)
        rw [List.getD_eq_getElem?_getD, List.getD_eq_getElem?_getD, hli, List.getElem?_eq_getElem (show j < l.length by omega)] at this
        simp only [Option.getD_some] at this
        omega
      · exact this.2 x hx hc
  unfold validR validP
  rw [key]

end Go.AM
