/- The valid logs, as the program and as the document tell them. -/
import Derived.Test.YthmfjfblndophaaSpecA
namespace Go.AM
open Go.Proofs

variable {k : Nat}

theorem f89_spec {v0 v1 : Value} {h : H} {l : List Cl} {m : Nat} (hs : SlR h 56 3 v0 (l.map Cl.cells)) (hk : l.length < m + 1) {p : Cl → Bool}
    (hp : ∀ h', Ext h h' → ∀ x ∈ l, ∃ h'', callV (call Try.prog E0 m) v1 #[x.val] h' = some (.bool (p x), h'') ∧ Ext h' h'') :
    ∃ h', f89 (call Try.prog E0 (m + 1)) k v0 v1 h = some (.bool (l.any p), h') ∧ Ext h h' := by
  obtain ⟨r, h', e, x, hr⟩ := f105_spec (rec := call Try.prog E0 m) (k := m + 1) hs hk hp
  refine ⟨h', ?_, x⟩
  unfold f89
  rw [calls_eq (c105 e), asI_int, hr]

/-- Two calls that cannot be: at one time, with a person in common. -/
def clash (c x : Cl) : Bool := x.t == c.t && (x.has c.a || x.has c.b)

theorem f99_spec {h : H} {c x : Cl} {b m : Nat} (hb : b < h.nx) (hc : h.blk b = some (.row c.cells 56 true)) :
    ∃ h', f99 (call Try.prog E0 (m + 1)) k x.val (pt b 0) h = some (.bool (clash c x), h') ∧ Ext h h' := by
  have hbx : ∀ k', (h.new k').blk b = some (.row c.cells 56 true) := fun k' => by rw [blk_new_ne _ _ (by omega)]; exact hc
  have x1 := Ext.new h (.row x.cells 56 true)
  have x2 := x1.new' (.row x.cells 56 true)
  have hbx2 : ∀ k1 k2, ((h.new k1).new k2).blk b = some (.row c.cells 56 true) := fun k1 k2 => by rw [blk_new_ne _ _ (by rw [nx_new]; omega)]; exact hbx k1
  unfold f99
  rw [bx_eq, nx_eq, show x.val.cells.toList = x.cells from rfl, ld3 (blk_new_self _ _) (show x.cells[off 0 2]? = some (iv x.t) from rfl), asI_int, asP_ptr, ld3 (hbx _) (show c.cells[off 0 2]? = some (iv c.t) from rfl), asI_int, ifB_eq]
  split
  · rename_i ht
    rw [ldA56 (blk_new_self _ _) rfl, asP_ptr, ld3 (hbx _) (show c.cells[0]? = some (iv c.a) from rfl), asI_int,
      calls_eq (c73 (f73_eq x c.a _)), asB_bool]
    cases hxa : x.has c.a with
    | true => exact ⟨_, by rw [ifB_true]; simp [clash, ht, hxa], x2⟩
    | false =>
      rw [ifB_false, ldA56 (by rw [blk_new_ne _ _ (by rw [nx_new]; omega)]; exact blk_new_self _ _) rfl, asP_ptr, ld3 (hbx2 _ _) (show c.cells[off 0 1]? = some (iv c.b) from rfl), asI_int,
        calls_eq (c73 (f73_eq x c.b _)), asB_bool]
      exact ⟨((h.new (.row x.cells 56 true)).new (.row x.cells 56 true)).new (.row x.cells 56 true), by simp [clash, ht, hxa], x2.new' _⟩
  · rename_i ht
    exact ⟨_, by simp [clash, ht], x1⟩

/-- A call of a log of n people. -/
def okC (n : Int) (c : Cl) : Bool := decide (0 ≤ c.a ∧ c.a < n) && decide (0 ≤ c.b ∧ c.b < n) && !(c.a == c.b) && !decide (c.t < 1) && !decide (30 < c.t)

/-- May the call at place i follow those ahead of it? -/
def rowOk (n : Int) (l : List Cl) (i : Nat) : Bool :=
  match l[i]? with
  | none => true
  | some c => okC n c && !(decide (0 < i) && ((l[i - 1]?).any fun d => decide (c.t < d.t))) && !(l.take i).any (clash c)

def validP (n : Int) (l : List Cl) : Bool := !decide (n < 1) && !decide (7 < n) && !decide (24 < (l.length : Int)) && (List.range l.length).all (rowOk n l)

theorem under31 : Try.prog.underlying 29 = some (.slice 56) := by kernel_rfl

theorem f71_spec {n : Int} {sl : Value} {l : List Cl} {h : H} {m : Nat} (hs : SlR h 56 3 sl (l.map Cl.cells)) (hk : l.length < k) (hm : l.length < m + 3) :
    ∃ h', f71 (call Try.prog E0 (m + 4)) k (.agg #[iv n, sl]) h = some (.bool (validP n l), h') ∧ Ext h h' := by
  have hlen := hs.lt62
  rw [List.length_map] at hlen
  have x1 : Ext h (h.new (.row [iv n, sl] 31 true)) := .new _ _
  have hs1 := hs.ext x1
  unfold f71
  rw [bx_eq, nx_eq, show (Value.agg #[iv n, sl]).cells.toList = [iv n, sl] from rfl]
  have hb1 : (h.new (.row [iv n, sl] 31 true)).blk h.nx = some (.row [iv n, sl] 31 true) := blk_new_self _ _
  rw [ld3 hb1 rfl, asI_int, ifB_lt]
  split
  · rename_i hn
    exact ⟨_, by simp [validP, hn], x1⟩
  rename_i hn1
  rw [ld3 hb1 rfl, asI_int, ifB_lt]
  split
  · rename_i hn
    exact ⟨_, by simp [validP, hn], x1⟩
  rename_i hn2
  rw [ld29 hb1 (show [iv n, sl][off 0 1]? = some sl from rfl), hs.len, ifB_lt]
  split
  · rename_i hn
    rw [List.length_map] at hn
    exact ⟨_, by simp [validP, hn], x1⟩
  rename_i hn3
  rw [ld29 hb1 (show [iv n, sl][off 0 1]? = some sl from rfl), hs.len]
  simp only [List.length_map] at hn3 ⊢
  generalize hG : h.new (.row [iv n, sl] 31 true) = h1 at *
  have hnx : h.nx < h1.nx := by rw [← hG]; exact Nat.lt_succ_self _
  obtain ⟨e, ws', h', hl, hx, hq⟩ := lpGo_inv (F := f71_l1 (call Try.prog E0 (m + 4)) k h sl l.length)
    (fun d ws h2 => ∃ (x : Value) (i : Nat), ws = [x, iv i] ∧ i + d = l.length ∧ Ext h1 h2 ∧ ∀ j, j < i → rowOk n l j = true)
    (fun e ws h2 => Ext h1 h2 ∧ ((e = .exit 0 ∧ (List.range l.length).all (rowOk n l) = true) ∨ (e = .ret ∧ gv ws 0 = .bool false ∧ (List.range l.length).all (rowOk n l) = false)))
    (by
      rintro d ws h2 ⟨x, i, rfl, hd, hx, hno⟩
      unfold f71_l1
      rw [show gv [x, iv i] 1 = iv i from rfl, asI_int, ifB_lt]
      split
      · rename_i hlt
        have hi : i < l.length := by omega
        have hli : l[i]? = some l[i] := List.getElem?_eq_getElem hi
        obtain ⟨b, o, cs, own, hb, hr, q1, q2, q3, q4⟩ := (hs1.ext hx).six (i := (i : Int)) (by omega) (x := (l[i]).cells) (by simp [hi])
        rw [asK_int, q4, ld_elem ag56 sz56 hr q1 q2 q3]
        generalize hc : l[i] = c at *
        have bad : rowOk n l i = false → ∀ h3, Ext h1 h3 → ∃ e ws' h', out .ret [(.bool false), iv i] h3 = some (e, ws', h') ∧
            ((e = .normal ∧ ∃ d', d' < d ∧ ∃ (x : Value) (i : Nat), ws' = [x, iv i] ∧ i + d' = l.length ∧ Ext h1 h' ∧ ∀ j, j < i → rowOk n l j = true) ∨
             (e ≠ .normal ∧ Ext h1 h' ∧ ((e = .exit 0 ∧ (List.range l.length).all (rowOk n l) = true) ∨ (e = .ret ∧ gv ws' 0 = .bool false ∧ (List.range l.length).all (rowOk n l) = false)))) := by
          intro hbad h3 x3
          refine ⟨.ret, _, _, rfl, .inr ⟨by simp, x3, .inr ⟨rfl, rfl, ?_⟩⟩⟩
          rw [List.all_eq_false]
          exact ⟨i, List.mem_range.2 hi, by simp [hbad]⟩
        have hrow : rowOk n l i = (okC n c && !(decide (0 < i) && ((l[i - 1]?).any fun d => decide (c.t < d.t))) && !(l.take i).any (clash c)) := by
          unfold rowOk; rw [hli]
        rw [al_st (zs := [iv 0, iv 0, iv 0]) (xs := c.cells) sz56 rfl rfl]
        have x4 : Ext h1 (h2.fresh 56 [iv 0, iv 0, iv 0] c.cells) := hx.fresh _ _ _
        have hcb := blk_fresh h2 56 [iv 0, iv 0, iv 0] c.cells
        have hn4 : h2.nx < (h2.fresh 56 [iv 0, iv 0, iv 0] c.cells).nx := Nat.lt_succ_self _
        generalize h2.fresh 56 [iv 0, iv 0, iv 0] c.cells = h4 at *
        have hbx : ∀ {h'}, Ext h1 h' → h'.blk h.nx = some (.row [iv n, sl] 31 true) := fun e => (e.blk _ hnx).trans hb1
        rw [nx_eq, nx_eq, ldA31 (hbx x4) rfl, ld3 hcb (show c.cells[0]? = some (iv c.a) from rfl), asI_int, calls_eq (c72 (f72_eq n c.a sl h4)), asB_bool]
        have x5 := Ext.new h4 (.row [iv n, sl] 31 true)
        generalize h4.new (.row [iv n, sl] 31 true) = h5 at *
        have hcb5 := (x5.blk _ hn4).trans hcb
        have x15 := x4.trans x5
        have hn5 := Nat.lt_of_lt_of_le hn4 x5.nx
        rw [ifB_not]
        by_cases ha : 0 ≤ c.a ∧ c.a < n
        · rw [decide_eq_true ha, ifB_true, ldA31 (hbx x15) rfl, ld3 hcb5 (show c.cells[off 0 1]? = some (iv c.b) from rfl), asI_int, calls_eq (c72 (f72_eq n c.b sl h5)), asB_bool]
          have x6 := Ext.new h5 (.row [iv n, sl] 31 true)
          generalize h5.new (.row [iv n, sl] 31 true) = h6 at *
          have hcb6 := (x6.blk _ hn5).trans hcb5
          have x16 := x15.trans x6
          have hn6 := Nat.lt_of_lt_of_le hn5 x6.nx
          rw [ifB_not]
          by_cases hb : 0 ≤ c.b ∧ c.b < n
          · rw [decide_eq_true hb, ifB_true, ld3 hcb6 (show c.cells[0]? = some (iv c.a) from rfl), asI_int, ld3 hcb6 (show c.cells[off 0 1]? = some (iv c.b) from rfl), asI_int, ifB_eq]
            split
            · rename_i hab
              exact bad (by rw [hrow]; simp [okC, hab]) _ x16
            rename_i hab
            rw [ld3 hcb6 (show c.cells[off 0 2]? = some (iv c.t) from rfl), asI_int, ifB_lt]
            split
            · rename_i ht
              exact bad (by rw [hrow]; simp [okC, ht]) _ x16
            rename_i ht1
            rw [ld3 hcb6 (show c.cells[off 0 2]? = some (iv c.t) from rfl), asI_int, ifB_lt]
            split
            · rename_i ht
              exact bad (by rw [hrow]; simp [okC, ht]) _ x16
            rename_i ht2
            have hok : okC n c = true := by simp [okC, ha, hb, hab, ht1, ht2]
            have last : (decide (0 < i) && ((l[i - 1]?).any fun d => decide (c.t < d.t))) = false →
                ∃ e ws' h', (ld Try.prog h6 29 h.nx (off 0 1) fun v19 =>
                  sli Try.prog h6 29 v19 none (some (iv i)) none fun v20 =>
                  calls (call Try.prog E0 (m + 4)) h6 89 [v20, (.func (.func 99) #[] #[(pt h2.nx 0)])] fun v21 h7 =>
                  asB v21 fun q2 =>
                  ifB q2 (
                    out .ret [(.bool false), iv i] h7) (
                    asI .i64 (iv i) fun n16 =>
                    out .normal [x, (.int .i64 (add .i64 n16 1))] h7)) = some (e, ws', h') ∧
                  ((e = .normal ∧ ∃ d', d' < d ∧ ∃ (x : Value) (i : Nat), ws' = [x, iv i] ∧ i + d' = l.length ∧ Ext h1 h' ∧ ∀ j, j < i → rowOk n l j = true) ∨
                   (e ≠ .normal ∧ Ext h1 h' ∧ ((e = .exit 0 ∧ (List.range l.length).all (rowOk n l) = true) ∨ (e = .ret ∧ gv ws' 0 = .bool false ∧ (List.range l.length).all (rowOk n l) = false)))) := by
              intro hprev
              obtain ⟨v', hv', hsli⟩ := (hs1.ext x16).take (i := (i : Int)) under31 sz56 (by omega) (by simp; omega)
              rw [ld29 (hbx x16) (show [iv n, sl][off 0 1]? = some sl from rfl), hsli]
              rw [show ((i : Int)).toNat = i from by omega, ← List.map_take] at hv'
              obtain ⟨h7, e7, x7⟩ := f89_spec (k := m + 4) (m := m + 2) (v1 := .func (.func 99) #[] #[pt h2.nx 0]) hv' (by rw [List.length_take]; omega) (p := clash c) (by
                intro h8 x8 y hy
                obtain ⟨h9, e9, x9⟩ := f99_spec (k := m + 2) (m := m) (c := c) (x := y) (b := h2.nx) (h := h8) (Nat.lt_of_lt_of_le hn6 x8.nx) ((x8.blk _ hn6).trans hcb6)
                exact ⟨h9, c99 e9, x9⟩)
              rw [calls_eq (c89 e7), asB_bool]
              cases hcl : (l.take i).any (clash c) with
              | true =>
                rw [ifB_true]
                exact bad (by rw [hrow, hcl]; simp) _ (x16.trans x7)
              | false =>
                rw [ifB_false, asI_int, add64 (by omega) (by omega)]
                refine ⟨.normal, _, _, rfl, .inl ⟨rfl, d - 1, by omega, _, i + 1, rfl, by omega, x16.trans x7, fun j hj => ?_⟩⟩
                rcases Nat.lt_or_ge j i with h8 | h8
                · exact hno j h8
                · obtain rfl : j = i := by omega
                  rw [hrow, hok, hprev, hcl]; rfl
            rw [asI_int, ifB_lt]
            split
            · rename_i hi0
              have hi1 : i - 1 < l.length := by omega
              obtain ⟨b', o', cs', own', hb', hr', q1', q2', q3', q4'⟩ := (hs1.ext x16).six (i := (i : Int) - 1) (by omega) (x := (l[i - 1]).cells) (by
                rw [show ((i : Int) - 1).toNat = i - 1 from by omega]; simp [hi1])
              rw [ld29 (hbx x16) (show [iv n, sl][off 0 1]? = some sl from rfl), asI_int, sub64 (by omega) (by omega), q4', show off o' 2 = o' + 2 from rfl, ld3 hr' ((q3' 2 (by omega)).trans (show (l[i - 1]).cells[2]? = some (iv (l[i - 1]).t) from rfl)), asI_int,
                ld3 hcb6 (show c.cells[off 0 2]? = some (iv c.t) from rfl), asI_int, ifB_lt]
              have hl1 : l[i - 1]? = some l[i - 1] := List.getElem?_eq_getElem hi1
              split
              · rename_i ht
                exact bad (by rw [hrow, hl1]; simp [ht, show 0 < i by omega]) _ x16
              · rename_i ht
                exact last (by rw [hl1]; simp [ht])
            · rename_i hi0
              exact last (by simp [show ¬ 0 < i by omega])
          · rw [decide_eq_false hb, ifB_false]
            exact bad (by rw [hrow]; simp [okC, hb]) _ x16
        · rw [decide_eq_false ha, ifB_false]
          exact bad (by rw [hrow]; simp [okC, ha]) _ x15
      · rename_i hlt
        refine ⟨.exit 0, _, _, rfl, .inr ⟨by simp, hx, .inl ⟨rfl, ?_⟩⟩⟩
        rw [List.all_eq_true]
        intro j hj
        exact hno j (by have := List.mem_range.1 hj; omega))
    l.length k (ws := [.bool false, iv 0]) (h := h1) hk ⟨_, 0, rfl, by omega, .refl _, fun j hj => by omega⟩
  rcases hq with ⟨rfl, ha⟩ | ⟨rfl, hg, ha⟩
  · refine ⟨h', (lp_eq hl).trans ?_, x1.trans hx⟩
    rw [onE_exit, if_pos rfl]
    simp [validP, hn1, hn2, hn3, ha]
  · refine ⟨h', (lp_eq hl).trans ?_, x1.trans hx⟩
    rw [onE_ret, onR_ret, hg]
    simp [validP, ha]

end Go.AM
