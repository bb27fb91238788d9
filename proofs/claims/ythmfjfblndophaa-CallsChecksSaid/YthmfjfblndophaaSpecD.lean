/- Of: the log that the program is handed. -/
import Derived.Test.YthmfjfblndophaaSpecC
namespace Go.AM
open Go.Proofs

variable {k : Nat} {rec : Rec}

theorem app29 : okApp Try.prog 29 56 3 = true := by kernel_rfl
theorem bld31n (n : Int) : build Try.prog 31 [(0, .int .i64 n)] = some (.agg #[.int .i64 n, .slice none 0 0]) := by kernel_rfl
theorem bld56 (a b t : Int) : build Try.prog 56 [(0, .int .i64 a), (1, .int .i64 b), (2, .int .i64 t)] = some (.agg #[.int .i64 a, .int .i64 b, .int .i64 t]) := by kernel_rfl
theorem bls29 (a b t : Int) (h : H) : buildSlice Try.prog 29 1 [(0, .agg #[.int .i64 a, .int .i64 b, .int .i64 t])] h =
    some (.slice (some ⟨h.nx, 0, none⟩) 1 1, h.new (.row [.int .i64 a, .int .i64 b, .int .i64 t] 56 true)) := by kernel_rfl

theorem slR1 {h : H} {e : TypeId} {x : List Value} {s : Nat} (hx : x.length = s) : SlR (h.new (.row x e true)) e s (.slice (some ⟨h.nx, 0, none⟩) 1 1) [x] := by
  refine .at_ (l := [x]) (Nat.lt_succ_self _) (blk_new_self _ _) (by show 1 ≤ capK 1; decide) (by decide) (by simp [hx]) fun i y hi => ?_
  cases i with
  | zero =>
    simp at hi
    subst hi
    exact ⟨hx, fun j _ => by simp⟩
  | succ i => simp at hi

theorem f18_spec {n : Int} {sl : Value} {l : List Cl} {h : H} (hs : SlR h 59 3 sl (l.map Cl.cells)) (hk : l.length < k) :
    ∃ sl' h', f18 rec k (.agg #[iv n, sl]) h = some (.agg #[iv n, sl'], h') ∧ Ext h h' ∧ SlR h' 56 3 sl' ((l.take 26).map Cl.cells) := by
  have hlen := hs.lt62
  rw [List.length_map] at hlen
  unfold f18
  rw [bx_eq, nx_eq, show (Value.agg #[iv n, sl]).cells.toList = [iv n, sl] from rfl, al_eq]
  have x1 : Ext h (h.new (.row [iv n, sl] 24 true)) := .new _ _
  have hb1 : (h.new (.row [iv n, sl] 24 true)).blk h.nx = some (.row [iv n, sl] 24 true) := blk_new_self _ _
  have hn1 : h.nx < (h.new (.row [iv n, sl] 24 true)).nx := Nat.lt_succ_self _
  generalize h.new (.row [iv n, sl] 24 true) = h1 at *
  have x2 := Ext.new h1 (.row [.int .i64 0, .slice none 0 0] 31 true)
  have hb2 : (h1.new (.row [.int .i64 0, .slice none 0 0] 31 true)).blk h1.nx = some (.row [.int .i64 0, .slice none 0 0] 31 true) := blk_new_self _ _
  have hn2 : h1.nx < (h1.new (.row [.int .i64 0, .slice none 0 0] 31 true)).nx := Nat.lt_succ_self _
  generalize h1.new (.row [.int .i64 0, .slice none 0 0] 31 true) = h2 at *
  rw [ld3 ((x2.blk _ hn1).trans hb1) (show [iv n, sl][0]? = some (iv n) from rfl), asI_int]
  rw [bld_some (bld31n n)]
  rw [al_st (zs := [.int .i64 0, .slice none 0 0]) (xs := [.int .i64 n, .slice none 0 0]) sz31 rfl rfl]
  have x4 := (Ext.refl h2).fresh 31 [.int .i64 0, .slice none 0 0] [.int .i64 n, .slice none 0 0]
  have hb4 := blk_fresh h2 31 [.int .i64 0, .slice none 0 0] [.int .i64 n, .slice none 0 0]
  have hn4 : h2.nx < (h2.fresh 31 [.int .i64 0, .slice none 0 0] [.int .i64 n, .slice none 0 0]).nx := Nat.lt_succ_self _
  generalize h2.fresh 31 [.int .i64 0, .slice none 0 0] [.int .i64 n, .slice none 0 0] = h4 at *
  have x24 := x2.trans x4
  rw [ld22 ((x24.blk _ hn1).trans hb1) (show [iv n, sl][off 0 1]? = some sl from rfl), hs.len, List.length_map]
  obtain ⟨e, ws', h', hl, hq⟩ := lpGo_inv (F := f18_l1 rec k h2 sl l.length)
    (fun d ws g => ∃ (i : Nat), ws = [iv i] ∧ i + d = l.length ∧ Ext h g ∧ h2.nx < g.nx ∧ g.blk h1.nx = some (.row [.int .i64 0, .slice none 0 0] 31 true) ∧
      ∃ sv, g.blk h2.nx = some (.row [iv n, sv] 31 true) ∧ ApR h.nx g 56 3 sv ((l.take (min i 26)).map Cl.cells))
    (fun e ws g => e = .exit 0 ∧ Ext h g ∧ h2.nx < g.nx ∧ g.blk h1.nx = some (.row [.int .i64 0, .slice none 0 0] 31 true) ∧
      ∃ sv, g.blk h2.nx = some (.row [iv n, sv] 31 true) ∧ ApR h.nx g 56 3 sv ((l.take 26).map Cl.cells))
    (by
      rintro d ws g ⟨i, rfl, hd, hx, hgn, hg1, sv, hg2, hap⟩
      unfold f18_l1
      rw [show gv [iv i] 0 = iv i from rfl, asI_int, ifB_lt]
      split
      · rename_i hlt
        have hi : i < l.length := by omega
        obtain ⟨b, o, cs, own, hb, hr, q1, q2, q3, q4⟩ := (hs.ext hx).six (i := (i : Int)) (by omega) (x := (l[i]).cells) (by simp [hi])
        rw [asK_int, q4, ld_elem ag59 sz59 hr q1 q2 q3]
        generalize hc : l[i] = c at *
        rw [al_st (zs := [iv 0, iv 0, iv 0]) (xs := c.cells) sz59 rfl rfl]
        have y7 := (Ext.refl g).fresh 59 [iv 0, iv 0, iv 0] c.cells
        have x7 : Ext h (g.fresh 59 [iv 0, iv 0, iv 0] c.cells) := hx.trans y7
        have hcb := blk_fresh g 59 [iv 0, iv 0, iv 0] c.cells
        have hn7 : g.nx < (g.fresh 59 [iv 0, iv 0, iv 0] c.cells).nx := Nat.lt_succ_self _
        generalize g.fresh 59 [iv 0, iv 0, iv 0] c.cells = h7 at *
        have g1 := (y7.blk h1.nx (by have := x2.nx; omega)).trans hg1
        have g2 := (y7.blk h2.nx hgn).trans hg2
        have a7 := hap.ext y7
        rw [asI_int, ifB_lt]
        split
        · rename_i h26
          have hn' : h2.nx < h7.nx := Nat.lt_trans hgn hn7
          rw [nx_eq, nx_eq, ld29 g2 (show [iv n, sv][off 0 1]? = some sv from rfl), ld3 hcb (show c.cells[0]? = some (iv c.a) from rfl), asI_int,
            ld3 hcb (show c.cells[off 0 1]? = some (iv c.b) from rfl), asI_int, ld3 hcb (show c.cells[off 0 2]? = some (iv c.t) from rfl), asI_int]
          rw [bld_some (bld56 c.a c.b c.t)]
          rw [bls_some (bls29 c.a c.b c.t h7)]
          have y8 := Ext.new h7 (.row c.cells 56 true)
          have s8 : SlR (h7.new (.row c.cells 56 true)) 56 3 (.slice (some ⟨h7.nx, 0, none⟩) 1 1) [c.cells] := slR1 rfl
          obtain ⟨v', h9, e9, a9, n9, lo9, k9⟩ := (a7.ext y8).app app29 app29 s8 rfl (by simp; omega) (by have := x7.nx; have := y8.nx; omega)
          have g1' := k9 _ _ (by have := y8.nx; have := x2.nx; omega) ((y8.blk h1.nx (by have := x2.nx; omega)).trans g1) (by intro c e; cases e)
          have g2' := k9 _ _ (by have := y8.nx; omega) ((y8.blk h2.nx hn').trans g2) (by intro c e; cases e)
          have x9 : Ext h h9 := ⟨by have := x7.nx; have := y8.nx; omega, fun b hb => (lo9 b hb).trans ((x7.trans y8).blk b hb)⟩
          have hn9 : h2.nx < h9.nx := by have := y8.nx; omega
          refine ⟨.normal, [iv ((i : Int) + 1)], h9.set h2.nx (.row [iv n, v'] 31 true), ?_, .inl ⟨rfl, d - 1, by omega, i + 1, rfl, by omega, x9.set (by have := x1.nx; have := x2.nx; omega) _, hn9, ?_, v', blk_set_self _ _ _, ?_⟩⟩
          · refine (e9 _).trans ?_
            obtain ⟨wx, wn, wc, hw⟩ := a9.isSl
            rw [st_eq (v := v') (by rw [hw]; exact sz29) g2' (by rw [hw]; exact Nat.le_refl 2) (by rw [hw]; rfl), asI_int, add64 (by omega) (by omega)]
            rw [hw]; rfl
          · rw [blk_set_ne _ _ _ (by omega)]; exact g1'
          · have : (l.take (min (i + 1) 26)).map Cl.cells = (l.take (min i 26)).map Cl.cells ++ [c.cells] := by
              rw [show min (i + 1) 26 = i + 1 by omega, show min i 26 = i by omega, List.take_add_one, List.getElem?_eq_getElem hi, hc]
              simp
            rw [this]
            refine a9.keep (Nat.le_refl _) fun b c _ _ hbc => blk_set_ne _ _ _ ?_
            intro e; subst e; rw [g2'] at hbc; cases hbc
        · rename_i h26
          rw [asI_int, add64 (by omega) (by omega)]
          refine ⟨.normal, [iv ((i : Int) + 1)], h7, rfl, .inl ⟨rfl, d - 1, by omega, i + 1, rfl, by omega, x7, by omega, g1, sv, g2, ?_⟩⟩
          rw [show min (i + 1) 26 = min i 26 by omega]
          exact a7
      · rename_i hlt
        refine ⟨.exit 0, _, _, rfl, .inr ⟨by simp, rfl, hx, hgn, hg1, sv, hg2, ?_⟩⟩
        have : l.take (min i 26) = l.take 26 := by
          rcases Nat.le_total i 26 with h5 | h5
          · rw [show min i 26 = i by omega, List.take_of_length_le (by omega), List.take_of_length_le (by omega)]
          · rw [show min i 26 = 26 by omega]
        rw [← this]; exact hap)
    l.length k (ws := [iv 0]) (h := h4) hk ⟨0, rfl, by omega, (x1.trans x24), hn4, (x4.blk _ hn2).trans hb2, .slice none 0 0, hb4, .nil⟩
  obtain ⟨rfl, hx, hgn, hg1, sv, hg2, hap⟩ := hq
  refine ⟨sv, h'.set h1.nx (.row [iv n, sv] 31 true), ?_, hx.set (by have := x1.nx; omega) _, ?_⟩
  · rw [lp_eq hl, onE_exit, if_pos rfl, nx_eq, nx_eq, ldA31 hg2 rfl]
    obtain ⟨wx, wn, wc, hw⟩ := hap.isSl
    rw [st_eq (v := .agg #[iv n, sv]) sz31 hg1 (Nat.le_refl 2) (by rw [hw]; rfl)]
    rw [show setAt [.int .i64 0, .slice none 0 0] 0 (Value.agg #[iv n, sv]).cells.toList = [iv n, sv] from rfl]
    rw [ldA31 (blk_set_self _ _ _) rfl]
  · exact (hap.keep (h' := h'.set h1.nx (.row [iv n, sv] 31 true)) (Nat.le_refl _) fun b c _ _ hbc => blk_set_ne _ _ _ (by intro e; subst e; rw [hg1] at hbc; cases hbc)).slR

end Go.AM
