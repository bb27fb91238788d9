/- The log that the program is handed; copies of slices; slices that are equal. -/
import Derived.Test.YthmfjfblndophaaCa
import Derived.Test.YthmfjfblndophaaAmSim
namespace Go.AM
open Go.Proofs

variable {k : Nat} {R : Type}

attribute [local simp] nx_eq nx_new nx_set blk_new blk_set asI_int asK_int asB_bool asP_ptr al_eq bx_eq len_slice onE_exit onE_ret onR_ret Value.cells d3 d29 d31 d56 d24 d59 d22 cell_new cell_set rd_new rd_set off eq lt le ifB gv out eqF1 eqF2 eqF3 eqF4 eqF5 eqF6 eqF7 eqF8

theorem app29 : okApp Try.prog 29 56 3 = true := by kernel_rfl
theorem app25 : okApp Try.prog 25 3 1 = true := by kernel_rfl
theorem kbld31 (n : Int) (K : Value → Option R) : bld Try.prog 31 [(0, .int .i64 n)] K = K (.agg #[.int .i64 n, .slice none 0 0]) := bld_some (by kernel_rfl)
theorem kbld56 (a b t : Int) (K : Value → Option R) : bld Try.prog 56 [(0, .int .i64 a), (1, .int .i64 b), (2, .int .i64 t)] K = K (.agg #[.int .i64 a, .int .i64 b, .int .i64 t]) := bld_some (by kernel_rfl)
theorem bls29 (c : Cl) (h : H) : buildSlice Try.prog 29 1 [(0, .agg #[.int .i64 c.a, .int .i64 c.b, .int .i64 c.t])] h = some (.slice (some ⟨h.nx, 0, none⟩) 1 1, h.new (.row c.cells 56 true)) := by kernel_rfl
theorem bls25 (z : Int) (h : H) : buildSlice Try.prog 25 1 [(0, .int .i64 z)] h = some (.slice (some ⟨h.nx, 0, none⟩) 1 1, h.new (.row [iv z] 3 true)) := by kernel_rfl

attribute [local simp] kbld31 kbld56

theorem s18 {n : Int} {sl : Value} {l : List Cl} {h : H} (hs : SlR h 59 3 sl (l.map Cl.cells)) :
    ∃ sl' h', rn 18 #[.agg #[iv n, sl]] h = some (.agg #[iv n, sl'], h') ∧ Ext h h' ∧ SlR h' 56 3 sl' ((l.take 26).map Cl.cells) := by
  have hlen := hs.lt62
  rw [List.length_map] at hlen
  -- the heap ahead of the loop
  let h1 := h.new (.row [iv n, sl] 24 true)
  let h2 := h1.new (.row [.int .i64 0, .slice none 0 0] 31 true)
  let h4 := h2.fresh 31 [.int .i64 0, .slice none 0 0] [.int .i64 n, .slice none 0 0]
  have n1 : h1.nx = h.nx + 1 := rfl
  have n2 : h2.nx = h.nx + 2 := rfl
  have n4 : h4.nx = h.nx + 3 := rfl
  have x4 : Ext h h4 := (((Ext.refl h).new' _).new' _).fresh _ _ _
  have b0 : h4.blk h.nx = some (.row [iv n, sl] 24 true) := by simp [h4, h2, h1, H.fresh]
  have b1 : h4.blk (h.nx + 1) = some (.row [.int .i64 0, .slice none 0 0] 31 true) := by simp [h4, h2, h1, H.fresh]
  have b2 : h4.blk (h.nx + 2) = some (.row [.int .i64 n, .slice none 0 0] 31 true) := by simp [h4, h2, h1, H.fresh]
  obtain ⟨ws', h', hl, hx, hgn, hg1, sv, hg2, hap, rfl⟩ := lp_for (F := f18_l1 rn (l.length + 1) h2 sl l.length) (k := l.length + 1) (l := l) (fun _ _ (_ : Unit) => ())
    (fun i _ ws g => Ext h g ∧ h.nx + 3 ≤ g.nx ∧ g.blk (h.nx + 1) = some (.row [.int .i64 0, .slice none 0 0] 31 true) ∧
      ∃ sv, g.blk (h.nx + 2) = some (.row [iv n, sv] 31 true) ∧ AqR h.nx g 56 3 sv ((l.take (min i 26)).map Cl.cells) ∧ ws = [iv i]) 0 (ws := [iv 0]) (h := h4) (s0 := ())
    ⟨x4, by omega, b1, _, b2, .nil, rfl⟩ (by omega)
    (by
      rintro _ ws g ⟨hx, hgn, hg1, sv, hg2, hap, rfl⟩
      simp [f18_l1])
    (by
      rintro i c _ ws g hc ⟨hx, hgn, hg1, sv, hg2, hap, rfl⟩
      have hi := (List.getElem?_eq_some_iff.1 hc).1
      have y7 := (Ext.refl g).fresh 59 [iv 0, iv 0, iv 0] c.cells
      have hcb := blk_fresh g 59 [iv 0, iv 0, iv 0] c.cells
      have n7 : (g.fresh 59 [iv 0, iv 0, iv 0] c.cells).nx = g.nx + 1 := rfl
      unfold f18_l1
      rw [show gv [iv i] 0 = iv i from rfl, asI_int, lt_t (by omega), ifB_true, asK_int, (hs.ext hx).ldA ag59 sz59 (by omega) (x := c.cells) (by simp [hc])]
      rw [al_st (zs := [iv 0, iv 0, iv 0]) (xs := c.cells) sz59 rfl rfl]
      generalize g.fresh 59 [iv 0, iv 0, iv 0] c.cells = h7 at *
      have g1 := (y7.blk (h.nx + 1) (by omega)).trans hg1
      have g2 := (y7.blk (h.nx + 2) (by omega)).trans hg2
      have a7 := hap.ext y7
      simp only [Cl.cells] at hcb
      by_cases h26 : i < 26
      · obtain ⟨v', h9, e9, a9, n9, k9, b9, hb9, hb9'⟩ := a7.push app29 app29 (bls29 c) rfl rfl (by simp; omega) (by omega)
        have kb : ∀ b, b < h7.nx → h7.blk b ≠ some (.row ((l.take (min i 26)).map Cl.cells).flatten 56 true) → h9.blk b = h7.blk b := fun b hb hne => k9 b hb fun e => hne (a7.blkOf e).2.2
        have g1' := kb (h.nx + 1) (by omega) (by rw [g1]; simp)
        have g2' := kb (h.nx + 2) (by omega) (by rw [g2]; simp)
        rw [g1] at g1'
        rw [g2] at g2'
        have x9 : Ext h h9 := ⟨by have := hx.nx; omega, fun b hb => by
          rw [k9 b (by have := hx.nx; omega) (fun e => by have := (a7.blkOf e).1; omega)]
          exact (hx.trans y7).blk b hb⟩
        have hst : wrc 1 h9 (h.nx + 2) 1 v' = some (h9.set (h.nx + 2) (.row [iv n, v'] 31 true)) := by rw [wrc_one g2' a9.cells.1 a9.cells.2 (by simp)]; rfl
        refine ⟨[iv ((i : Int) + 1)], h9.set (h.nx + 2) (.row [iv n, v'] 31 true), ?_, x9.set (by omega) _, by rw [nx_set]; omega, ?_, v', blk_set_self _ _ _, ?_, rfl⟩
        · simp [cell_of hcb, n2, cell_of g2, h26, show (i : Int) < 26 by omega, e9, w29, hst]
          rw [add64 (by omega) (by omega)]
        · rw [blk_set_ne _ _ _ (by omega)]; exact g1'
        · have : (l.take (min (i + 1) 26)).map Cl.cells = (l.take (min i 26)).map Cl.cells ++ [c.cells] := by
            rw [show min (i + 1) 26 = i + 1 by omega, show min i 26 = i by omega, List.take_add_one, hc]
            simp
          rw [this]
          refine a9.keep (by rw [nx_set]; omega) fun b hb => blk_set_ne _ _ _ ?_
          rw [hb9] at hb; cases hb; omega
      · refine ⟨[iv ((i : Int) + 1)], h7, ?_, hx.trans y7, by omega, g1, sv, g2, ?_, rfl⟩
        · simp [show ¬ (i : Int) < 26 by omega]
          rw [add64 (by omega) (by omega)]
        · rw [show min (i + 1) 26 = min i 26 by omega]
          exact a7)
  have hfin : f18 rn (l.length + 1) (.agg #[iv n, sl]) h = some (.agg #[iv n, sv], h'.set (h.nx + 1) (.row [iv n, sv] 31 true)) := by
    have hst : wrc 2 h' (h.nx + 1) 0 (.agg #[iv n, sv]) = some (h'.set (h.nx + 1) (.row [iv n, sv] 31 true)) := by
      simp only [wrc, hg1]
      rw [if_pos ⟨rfl, by simp, by simp [Value.cells, hap.cells.2]; rfl⟩]
      rfl
    unfold f18
    rw [bx_eq, al_eq]
    rw [show nx (h.new (.row (Value.agg #[iv n, sl]).cells.toList 24 true)) = h.nx + 1 from rfl, d3]
    rw [show ((h.new (.row (Value.agg #[iv n, sl]).cells.toList 24 true)).new (.row [.int .i64 0, .slice none 0 0] 31 true)).cell (nx h) 0 = some (iv n) by simp]
    rw [Option.bind_some, asI_int, kbld31, al_st (zs := [.int .i64 0, .slice none 0 0]) (xs := [.int .i64 n, .slice none 0 0]) sz31 rfl rfl]
    rw [show (H.fresh ((h.new (.row (Value.agg #[iv n, sl]).cells.toList 24 true)).new (.row [.int .i64 0, .slice none 0 0] 31 true)) 31 [.int .i64 0, .slice none 0 0] [.int .i64 n, .slice none 0 0]) = h4 from rfl,
      show ((h.new (.row (Value.agg #[iv n, sl]).cells.toList 24 true)).new (.row [.int .i64 0, .slice none 0 0] 31 true)) = h2 from rfl, d22, nx_eq, cell_of b0]
    rw [show [iv n, sl][off 0 1]? = some sl from rfl, Option.bind_some, hs.len, List.length_map, lp_eq hl]
    simp [n2, rd_of hg2, w31, hst]
  refine ⟨sv, _, x18 hfin rfl, hx.set (by omega) _, ?_⟩
  rw [show min l.length 26 = min l.length 26 from rfl] at hap
  have : l.take (min l.length 26) = l.take 26 := by
    rcases Nat.le_total l.length 26 with h5 | h5
    · rw [show min l.length 26 = l.length by omega, List.take_of_length_le (by omega), List.take_of_length_le (by omega)]
    · rw [show min l.length 26 = 26 by omega]
  rw [this] at hap
  refine (hap.keep (by rw [nx_set]; omega) fun b hb => blk_set_ne _ _ _ ?_).slR
  intro e
  have := (hap.blkOf hb).2.2
  rw [e, hg1] at this
  simp at this

end Go.AM
