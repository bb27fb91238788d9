/- The document's own test of a way. -/
import Derived.Test.YthmfjfblndophaaSpecG
namespace Go.AM
open Go.Proofs

variable {k : Nat} {rec : Rec}

theorem f29_l1_spec {n t : Int} {sl v1 : Value} {l : List Cl} {way : List Int} {h h4 : H} {s : Int} (hv : validP n l = true) (hs0 : 0 ≤ s ∧ s < n)
    (hs : SlR h4 59 3 sl (l.map Cl.cells)) (hw : SlR h4 3 1 v1 (way.map cellI)) (hk : way.length < k) (hn : h.nx < h4.nx) (hb : h4.blk h.nx = some (.row [iv n, sl] 24 true)) :
    ∃ e ws' h', lpGo (f29_l1 rec k t v1 h way.length) k [.bool false, iv s, iv 0, iv (shl .i64 1 s), iv 0] h4 = some (e, ws', h') ∧ Ext h4 h' ∧
      ((e = .exit 0 ∧ ∃ a : Int, gv ws' 1 = iv a ∧ (a == t) = goP l t way s 0 (shl .i64 1 s)) ∨ (e = .ret ∧ gv ws' 0 = .bool false ∧ goP l t way s 0 (shl .i64 1 s) = false)) := by
  obtain ⟨hn1, hn7, hl24, hok⟩ := validP_ok hv
  have hlen := hw.lt62
  rw [List.length_map] at hlen
  obtain ⟨e, ws', h', hl, hx, hq⟩ := lpGo_inv (F := f29_l1 rec k t v1 h way.length)
    (fun d ws g => ∃ (x : Value) (p tm seen : Int) (i : Nat), ws = [x, iv p, iv tm, iv seen, iv i] ∧ i + d = way.length ∧ Ext h4 g ∧ (0 ≤ p ∧ p < n) ∧
      goP l t (way.drop i) p tm seen = goP l t way s 0 (shl .i64 1 s))
    (fun e ws g => Ext h4 g ∧ ((e = .exit 0 ∧ ∃ a : Int, gv ws 1 = iv a ∧ (a == t) = goP l t way s 0 (shl .i64 1 s)) ∨ (e = .ret ∧ gv ws 0 = .bool false ∧ goP l t way s 0 (shl .i64 1 s) = false)))
    (by
      rintro d ws g ⟨x, p, tm, seen, i, rfl, hd, hx, hp, hgo⟩
      unfold f29_l1
      rw [show gv [x, iv p, iv tm, iv seen, iv i] 4 = iv i from rfl, show gv [x, iv p, iv tm, iv seen, iv i] 1 = iv p from rfl, show gv [x, iv p, iv tm, iv seen, iv i] 2 = iv tm from rfl,
        show gv [x, iv p, iv tm, iv seen, iv i] 3 = iv seen from rfl, show gv [x, iv p, iv tm, iv seen, iv i] 0 = x from rfl, asI_int, ifB_lt]
      split
      · rename_i hlt
        have hi : i < way.length := by omega
        obtain ⟨b, o, cs, own, hb', hr, q1, q2, q3, q4⟩ := (hw.ext hx).six (i := (i : Int)) (by omega) (x := cellI way[i]) (by simp [hi])
        rw [asK_int, q4, ld3 hr (show cs[o]? = some (iv way[i]) from q3 0 (by omega)), asI_int]
        rw [List.drop_eq_getElem_cons hi] at hgo
        generalize way[i] = j at *
        have bad : goP l t (j :: way.drop (i + 1)) p tm seen = false → ∀ (u1 u2 u3 u4 : Value) h5, Ext h4 h5 → ∃ e ws' h', out .ret [(.bool false), u1, u2, u3, u4] h5 = some (e, ws', h') ∧
            ((e = .normal ∧ ∃ d', d' < d ∧ ∃ (x : Value) (p tm seen : Int) (i : Nat), ws' = [x, iv p, iv tm, iv seen, iv i] ∧ i + d' = way.length ∧ Ext h4 h' ∧ (0 ≤ p ∧ p < n) ∧
                goP l t (way.drop i) p tm seen = goP l t way s 0 (shl .i64 1 s)) ∨
             (e ≠ .normal ∧ Ext h4 h' ∧ ((e = .exit 0 ∧ ∃ a : Int, gv ws' 1 = iv a ∧ (a == t) = goP l t way s 0 (shl .i64 1 s)) ∨ (e = .ret ∧ gv ws' 0 = .bool false ∧ goP l t way s 0 (shl .i64 1 s) = false)))) := by
          intro hbad u1 u2 u3 u4 h5 x5
          exact ⟨.ret, _, _, rfl, .inr ⟨by simp, x5, .inr ⟨rfl, rfl, hgo.symm.trans hbad⟩⟩⟩
        rw [ifB_lt]
        split
        · rename_i e1; exact bad (by simp only [goP]; rw [if_pos e1]) _ _ _ _ _ hx
        rename_i e1
        have hbx : ∀ {h'}, Ext h4 h' → h'.blk h.nx = some (.row [iv n, sl] 24 true) := fun e => (e.blk _ hn).trans hb
        rw [nx_eq, ld22 (hbx hx) (show [iv n, sl][off 0 1]? = some sl from rfl), hs.len, List.length_map, ifB_le]
        split
        · rename_i e2; exact bad (by simp only [goP]; rw [if_neg e1, if_pos e2]) _ _ _ _ _ hx
        rename_i e2
        rw [asI_int, ifB_eq]
        split
        · rename_i e3; exact bad (by simp only [goP]; rw [if_neg e1, if_neg e2, if_pos e3]) _ _ _ _ _ hx
        rename_i e3
        have hj : j.toNat < l.length := by omega
        obtain ⟨b2, o2, cs2, own2, hb2, hr2, r1, r2, r3, r4⟩ := (hs.ext hx).six (i := j) (by omega) (x := (l[j.toNat]).cells) (by simp [hj])
        rw [ld22 (hbx hx) (show [iv n, sl][off 0 1]? = some sl from rfl), r4, ld_elem ag59 sz59 hr2 r1 r2 r3]
        have hlj : l[j.toNat]? = some l[j.toNat] := List.getElem?_eq_getElem hj
        have hcok := hok _ _ hlj
        generalize l[j.toNat] = c at *
        rw [al_st (zs := [iv 0, iv 0, iv 0]) (xs := c.cells) sz59 rfl rfl]
        have x7 : Ext h4 (g.fresh 59 [iv 0, iv 0, iv 0] c.cells) := hx.fresh _ _ _
        have hcb := blk_fresh g 59 [iv 0, iv 0, iv 0] c.cells
        generalize g.fresh 59 [iv 0, iv 0, iv 0] c.cells = h7 at *
        have rest : c.has p = true → ∃ e ws' h', (ld Try.prog h7 3 g.nx (off 0 2) fun v12 =>
            asI .i64 v12 fun n21 =>
            asI .i64 (iv tm) fun n22 =>
            ifB (le n21 n22) (
              out .ret [(.bool false), iv p, iv tm, iv seen, iv i] h7) (
              ld Try.prog h7 3 g.nx 0 fun v13 =>
              asI .i64 v13 fun n23 =>
              ld Try.prog h7 3 g.nx (off 0 1) fun v14 =>
              asI .i64 v14 fun n24 =>
              asI .i64 (iv p) fun n25 =>
              ld Try.prog h7 3 g.nx (off 0 2) fun v15 =>
              asI .i64 v15 fun n26 =>
              asI .i64 (iv seen) fun n27 =>
              nn (sub .i64 (add .i64 n23 n24) n25) (
                ifB (eq (AM.and .i64 (shr .i64 n27 (sub .i64 (add .i64 n23 n24) n25)) 1) 1) (
                  out .ret [(.bool false), (.int .i64 (sub .i64 (add .i64 n23 n24) n25)), (.int .i64 n26), iv seen, iv i] h7) (
                  nn (sub .i64 (add .i64 n23 n24) n25) (
                    asI .i64 (iv seen) fun n28 =>
                    asI .i64 (iv i) fun n29 =>
                    out .normal [x, (.int .i64 (sub .i64 (add .i64 n23 n24) n25)), (.int .i64 n26), (.int .i64 (AM.or .i64 n28 (shl .i64 1 (sub .i64 (add .i64 n23 n24) n25)))), (.int .i64 (add .i64 n29 1))] h7))))) = some (e, ws', h') ∧
            ((e = .normal ∧ ∃ d', d' < d ∧ ∃ (x : Value) (p tm seen : Int) (i : Nat), ws' = [x, iv p, iv tm, iv seen, iv i] ∧ i + d' = way.length ∧ Ext h4 h' ∧ (0 ≤ p ∧ p < n) ∧
                goP l t (way.drop i) p tm seen = goP l t way s 0 (shl .i64 1 s)) ∨
             (e ≠ .normal ∧ Ext h4 h' ∧ ((e = .exit 0 ∧ ∃ a : Int, gv ws' 1 = iv a ∧ (a == t) = goP l t way s 0 (shl .i64 1 s)) ∨ (e = .ret ∧ gv ws' 0 = .bool false ∧ goP l t way s 0 (shl .i64 1 s) = false)))) := by
          intro hhas
          rw [ld3 hcb (show c.cells[off 0 2]? = some (iv c.t) from rfl), asI_int, asI_int, ifB_le]
          split
          · rename_i e4; exact bad (by simp only [goP]; rw [if_neg e1, if_neg e2, if_neg e3, hlj]; simp [hhas, e4]) _ _ _ _ _ x7
          rename_i e4
          have hoth := oth_ok hcok hhas
          rw [ld3 hcb (show c.cells[0]? = some (iv c.a) from rfl), asI_int, ld3 hcb (show c.cells[off 0 1]? = some (iv c.b) from rfl), asI_int, asI_int,
            ld3 hcb (show c.cells[off 0 2]? = some (iv c.t) from rfl), asI_int, asI_int, oth_calc (by omega) hcok hhas, nn_ge hoth.1, ifB_eq]
          split
          · rename_i e5; exact bad (by simp only [goP]; rw [if_neg e1, if_neg e2, if_neg e3, hlj]; simp [hhas, e4, e5]) _ _ _ _ _ x7
          rename_i e5
          rw [nn_ge hoth.1, asI_int, asI_int, add64 (by omega) (by omega)]
          refine ⟨.normal, _, _, rfl, .inl ⟨rfl, d - 1, by omega, x, c.oth p, c.t, _, i + 1, rfl, by omega, x7, ⟨hoth.1, hoth.2.1⟩, ?_⟩⟩
          rw [← hgo]
          conv => rhs; simp only [goP]
          rw [if_neg e1, if_neg e2, if_neg e3, hlj]
          simp [hhas, e4, e5]
        rw [nx_eq, ld3 hcb (show c.cells[0]? = some (iv c.a) from rfl), asI_int, asI_int, ifB_not, ifB_eq]
        split
        · rename_i ea
          exact rest (by simp [Cl.has, ea])
        · rename_i ea
          rw [ld3 hcb (show c.cells[off 0 1]? = some (iv c.b) from rfl), asI_int, asI_int, ifB_not, ifB_eq]
          split
          · rename_i eb
            exact rest (by simp [Cl.has, eb])
          · rename_i eb
            exact bad (by simp only [goP]; rw [if_neg e1, if_neg e2, if_neg e3, hlj]; simp [Cl.has, ea, eb]) _ _ _ _ _ x7
      · rename_i hlt
        refine ⟨.exit 0, _, _, rfl, .inr ⟨by simp, hx, .inl ⟨rfl, p, rfl, ?_⟩⟩⟩
        rw [← hgo, List.drop_of_length_le (by omega)]
        rfl)
    way.length k (ws := [.bool false, iv s, iv 0, iv (shl .i64 1 s), iv 0]) (h := h4) hk ⟨_, _, _, _, 0, rfl, by omega, .refl _, hs0, by simp⟩
  exact ⟨e, ws', h', hl, hx, hq⟩

theorem f29_spec {n t : Int} {sl v1 : Value} {l : List Cl} {way : List Int} {h : H} {s : Int} (hp : pairP n l s t = true)
    (hs : SlR h 59 3 sl (l.map Cl.cells)) (hw : SlR h 3 1 v1 (way.map cellI)) (hk : way.length < k) :
    ∃ h', f29 rec k (.agg #[iv n, sl]) s t v1 h = some (.bool (goP l t way s 0 (shl .i64 1 s)), h') ∧ Ext h h' := by
  simp only [pairP, Bool.and_eq_true, decide_eq_true_eq, Bool.not_eq_true', beq_eq_false_iff_ne] at hp
  obtain ⟨⟨⟨hv, hsn⟩, htn⟩, hst⟩ := hp
  unfold f29
  rw [bx_eq, show (Value.agg #[iv n, sl]).cells.toList = [iv n, sl] from rfl]
  have x1 : Ext h (h.new (.row [iv n, sl] 24 true)) := .new _ _
  have hb1 : (h.new (.row [iv n, sl] 24 true)).blk h.nx = some (.row [iv n, sl] 24 true) := blk_new_self _ _
  have hn1 : h.nx < (h.new (.row [iv n, sl] 24 true)).nx := Nat.lt_succ_self _
  generalize h.new (.row [iv n, sl] 24 true) = h1 at *
  rw [nn_ge hsn.1, hw.len, List.length_map]
  obtain ⟨e, ws', h5, hl, y5, hq⟩ := f29_l1_spec (rec := rec) (k := k) (t := t) hv hsn (hs.ext x1) (hw.ext x1) hk hn1 hb1
  rw [lp_eq hl]
  rcases hq with ⟨rfl, a, hg, ha⟩ | ⟨rfl, hg0, hgo⟩
  · refine ⟨h5, ?_, x1.trans y5⟩
    rw [onE_exit, if_pos rfl, hg, asI_int, ifB_eq]
    split
    · rename_i e1
      rw [hw.len, List.length_map]
      cases way with
      | nil =>
        simp only [goP] at ha ⊢
        rw [e1] at ha
        simp at ha
        exact absurd ha hst
      | cons j w =>
        rw [← ha, e1]
        simp [lt]
    · rename_i e1
      rw [← ha]
      simp [e1]
  · refine ⟨h5, ?_, x1.trans y5⟩
    rw [onE_ret, onR_ret, hg0, hgo]

end Go.AM
