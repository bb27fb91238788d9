/- CallsGossips, on the abstract machine. -/
import Derived.Test.YthmfjfblndophaaCm
namespace Go.AM
open Go.Proofs

variable {k : Nat} {R : Type}

attribute [local simp] nx_eq nx_new nx_set blk_new blk_set asI_int asK_int asB_bool asP_ptr al_eq bx_eq len_slice onE_exit onE_ret onR_ret Value.cells d3 d29 d31 d56 d24 d59 d22 d25 w3 cell_new cell_set rd_new rd_set off eq lt le ifB gv out eqF1 eqF2 eqF3 eqF4 eqF5 eqF6 eqF7 eqF8 ext20 ext21 k42 k22

theorem app22 : okApp Try.prog 22 59 3 = true := by kernel_rfl
theorem kbld24 (n : Int) (K : Value → Option R) : bld Try.prog 24 [(0, .int .i64 n)] K = K (.agg #[.int .i64 n, .slice none 0 0]) := bld_some (by kernel_rfl)
theorem kbld59 (a b t : Int) (K : Value → Option R) : bld Try.prog 59 [(0, .int .i64 a), (1, .int .i64 b), (2, .int .i64 t)] K = K (.agg #[.int .i64 a, .int .i64 b, .int .i64 t]) := bld_some (by kernel_rfl)
theorem bls22 (c : Cl) (h : H) : buildSlice Try.prog 22 1 [(0, .agg #[.int .i64 c.a, .int .i64 c.b, .int .i64 c.t])] h = some (.slice (some ⟨h.nx, 0, none⟩) 1 1, h.new (.row c.cells 59 true)) := by kernel_rfl

attribute [local simp] kbld24 kbld59

theorem s33 {n : Int} {sl : Value} {l : List Cl} {h : H} (hs : SlR h 56 3 sl (l.map Cl.cells)) (hm : l.length < 1000) :
    ∃ sl' h', rn 33 #[.agg #[iv n, sl]] h = some (.agg #[iv n, sl'], h') ∧ Ext h h' ∧ SlR h' 59 3 sl' (l.map Cl.cells) := by
  have hlen := hs.lt62
  rw [List.length_map] at hlen
  -- the heap ahead of the loop
  let h1 := h.new (.row [iv n, sl] 31 true)
  let h2 := h1.new (.row [.int .i64 0, .slice none 0 0] 24 true)
  let h4 := h2.fresh 24 [.int .i64 0, .slice none 0 0] [.int .i64 n, .slice none 0 0]
  have n1 : h1.nx = h.nx + 1 := rfl
  have n2 : h2.nx = h.nx + 2 := rfl
  have n4 : h4.nx = h.nx + 3 := rfl
  have x4 : Ext h h4 := (((Ext.refl h).new' _).new' _).fresh _ _ _
  have b0 : h4.blk h.nx = some (.row [iv n, sl] 31 true) := by simp [h4, h2, h1, H.fresh]
  have b1 : h4.blk (h.nx + 1) = some (.row [.int .i64 0, .slice none 0 0] 24 true) := by simp [h4, h2, h1, H.fresh]
  have b2 : h4.blk (h.nx + 2) = some (.row [.int .i64 n, .slice none 0 0] 24 true) := by simp [h4, h2, h1, H.fresh]
  obtain ⟨ws', h', hl, hx, hgn, hg1, sv, hg2, hap, rfl⟩ := lp_for (F := f33_l1 rn (l.length + 1) h2 sl l.length) (k := l.length + 1) (l := l) (fun _ _ (_ : Unit) => ())
    (fun i _ ws g => Ext h g ∧ h.nx + 3 ≤ g.nx ∧ g.blk (h.nx + 1) = some (.row [.int .i64 0, .slice none 0 0] 24 true) ∧
      ∃ sv, g.blk (h.nx + 2) = some (.row [iv n, sv] 24 true) ∧ AqR h.nx g 59 3 sv ((l.take i).map Cl.cells) ∧ ws = [iv i]) 0 (ws := [iv 0]) (h := h4) (s0 := ())
    ⟨x4, by omega, b1, _, b2, .nil, rfl⟩ (by omega)
    (by
      rintro _ ws g ⟨hx, hgn, hg1, sv, hg2, hap, rfl⟩
      simp [f33_l1])
    (by
      rintro i c _ ws g hc ⟨hx, hgn, hg1, sv, hg2, hap, rfl⟩
      have hi := (List.getElem?_eq_some_iff.1 hc).1
      have y7 := (Ext.refl g).fresh 56 [iv 0, iv 0, iv 0] c.cells
      have hcb := blk_fresh g 56 [iv 0, iv 0, iv 0] c.cells
      have n7 : (g.fresh 56 [iv 0, iv 0, iv 0] c.cells).nx = g.nx + 1 := rfl
      unfold f33_l1
      rw [show gv [iv i] 0 = iv i from rfl, asI_int, lt_t (by omega), ifB_true, asK_int, (hs.ext hx).ldA ag56 sz56 (by omega) (x := c.cells) (by simp [hc])]
      rw [al_st (zs := [iv 0, iv 0, iv 0]) (xs := c.cells) sz56 rfl rfl]
      generalize g.fresh 56 [iv 0, iv 0, iv 0] c.cells = h7 at *
      have g1 := (y7.blk (h.nx + 1) (by omega)).trans hg1
      have g2 := (y7.blk (h.nx + 2) (by omega)).trans hg2
      have a7 := hap.ext y7
      simp only [Cl.cells] at hcb
      obtain ⟨v', h9, e9, a9, n9, k9, b9, hb9, hb9'⟩ := a7.push app22 app22 (bls22 c) rfl rfl (by simp; omega) (by omega)
      have kb : ∀ b, b < h7.nx → h7.blk b ≠ some (.row ((l.take i).map Cl.cells).flatten 59 true) → h9.blk b = h7.blk b := fun b hb hne => k9 b hb fun e => hne (a7.blkOf e).2.2
      have g1' := kb (h.nx + 1) (by omega) (by rw [g1]; simp)
      have g2' := kb (h.nx + 2) (by omega) (by rw [g2]; simp)
      rw [g1] at g1'
      rw [g2] at g2'
      have x9 : Ext h h9 := ⟨by have := hx.nx; omega, fun b hb => by
        rw [k9 b (by have := hx.nx; omega) (fun e => by have := (a7.blkOf e).1; omega)]
        exact (hx.trans y7).blk b hb⟩
      have hst : wrc 1 h9 (h.nx + 2) 1 v' = some (h9.set (h.nx + 2) (.row [iv n, v'] 24 true)) := by rw [wrc_one g2' a9.cells.1 a9.cells.2 (by simp)]; rfl
      refine ⟨[iv ((i : Int) + 1)], h9.set (h.nx + 2) (.row [iv n, v'] 24 true), ?_, x9.set (by omega) _, by rw [nx_set]; omega, ?_, v', blk_set_self _ _ _, ?_, rfl⟩
      · simp [cell_of hcb, n2, cell_of g2, e9, w22, hst]
        rw [add64 (by omega) (by omega)]
      · rw [blk_set_ne _ _ _ (by omega)]; exact g1'
      · have : (l.take (i + 1)).map Cl.cells = (l.take i).map Cl.cells ++ [c.cells] := by
          rw [List.take_add_one, hc]
          simp
        rw [this]
        refine a9.keep (by rw [nx_set]; omega) fun b hb => blk_set_ne _ _ _ ?_
        rw [hb9] at hb; cases hb; omega)
  have hfin : f33 rn (l.length + 1) (.agg #[iv n, sl]) h = some (.agg #[iv n, sv], h'.set (h.nx + 1) (.row [iv n, sv] 24 true)) := by
    have hst : wrc 2 h' (h.nx + 1) 0 (.agg #[iv n, sv]) = some (h'.set (h.nx + 1) (.row [iv n, sv] 24 true)) := by
      simp only [wrc, hg1]
      rw [if_pos ⟨rfl, by simp, by simp [Value.cells, hap.cells.2]; rfl⟩]
      rfl
    unfold f33
    rw [bx_eq, al_eq]
    rw [show nx (h.new (.row (Value.agg #[iv n, sl]).cells.toList 31 true)) = h.nx + 1 from rfl, d3]
    rw [show ((h.new (.row (Value.agg #[iv n, sl]).cells.toList 31 true)).new (.row [.int .i64 0, .slice none 0 0] 24 true)).cell (nx h) 0 = some (iv n) by simp]
    rw [Option.bind_some, asI_int, kbld24, al_st (zs := [.int .i64 0, .slice none 0 0]) (xs := [.int .i64 n, .slice none 0 0]) sz24 rfl rfl]
    rw [show (H.fresh ((h.new (.row (Value.agg #[iv n, sl]).cells.toList 31 true)).new (.row [.int .i64 0, .slice none 0 0] 24 true)) 24 [.int .i64 0, .slice none 0 0] [.int .i64 n, .slice none 0 0]) = h4 from rfl,
      show ((h.new (.row (Value.agg #[iv n, sl]).cells.toList 31 true)).new (.row [.int .i64 0, .slice none 0 0] 24 true)) = h2 from rfl, d29, nx_eq, cell_of b0]
    rw [show [iv n, sl][off 0 1]? = some sl from rfl, Option.bind_some, hs.len, List.length_map, lp_eq hl]
    simp [n2, rd_of hg2, w24, hst]
  refine ⟨sv, _, x33 hfin rfl, hx.set (by omega) _, ?_⟩
  rw [List.take_length] at hap
  refine (hap.keep (by rw [nx_set]; omega) fun b hb => blk_set_ne _ _ _ ?_).slR
  intro e
  have := (hap.blkOf hb).2.2
  rw [e, hg1] at this
  simp at this


theorem kbld31e (K : Value → Option R) : bld Try.prog 31 [] K = K (.agg #[.int .i64 0, .slice none 0 0]) := bld_some (by kernel_rfl)
theorem kfld31 (a v : Value) (K : Value → Option R) : fld Try.prog 31 (.agg #[a, v]) 1 K = K v := by
  have e : field Try.prog 31 (.agg #[a, v]) 1 = some v := by kernel_rfl
  unfold fld
  rw [e]
  rfl

/-- A result is written into its own place. -/
theorem wrc31 {g : H} {b : Nat} {n : Int} {sv x y : Value} (hg : g.blk b = some (.row [x, y] 31 true)) (hs : scal sv = true) : wrc 2 g b 0 (.agg #[iv n, sv]) = some (g.set b (.row [iv n, sv] 31 true)) := by
  simp only [wrc, hg]
  rw [if_pos ⟨rfl, by simp, by simp [Value.cells, hs]; rfl⟩]
  rfl

theorem s30_bad {n : Int} (hn : n < 1 ∨ 7 < n) (h : H) : ∃ h', rn 30 #[iv n] h = some (.tuple #[.agg #[iv 0, .slice none 0 0], iv 2], h') ∧ Ext h h' := by
  have x1 := Ext.new h (.row [.int .i64 0, .slice none 0 0] 31 true)
  have hw := wrc31 (n := 0) (sv := .slice none 0 0) (blk_new_self h (.row [.int .i64 0, .slice none 0 0] 31 true)) rfl
  refine ⟨_, x30 (k := 0) (h1 := (h.new (.row [.int .i64 0, .slice none 0 0] 31 true)).set h.nx (.row [iv 0, .slice none 0 0] 31 true)) ?_ rfl, (Ext.refl h).new' _ |>.set (Nat.le_refl _) _⟩
  simp [f30, kbld31e, w31, hw]
  grind

theorem s31_bad {n : Int} (hn : n < 1 ∨ 7 < n) (h : H) : rn 31 #[iv n] h = some (.tuple #[iv 0, iv 2], h) := by
  refine p31 (k := 0) (h1 := h) ?_ rfl (.refl _)
  simp [f31]
  grind

theorem s30 {n : Nat} (hn1 : 1 ≤ n) (hn : n ≤ 7) (h : H) : ∃ sv h', rn 30 #[iv n] h = some (.tuple #[.agg #[iv n, sv], iv 0], h') ∧ Ext h h' ∧ SlR h' 56 3 sv ((gossipP n).map Cl.cells) := by
  have x1 := Ext.new h (.row [.int .i64 0, .slice none 0 0] 31 true)
  obtain ⟨sv, h4, e, x4, a⟩ := s76 hn1 hn (h.new (.row [.int .i64 0, .slice none 0 0] 31 true))
  have hb : h4.blk h.nx = some (.row [.int .i64 0, .slice none 0 0] 31 true) := (x4.blk _ (Nat.lt_succ_self _)).trans (blk_new_self _ _)
  have hw := wrc31 (n := n) hb a.cells.2
  have hc := fun (K : Value → H → Option (Value × H)) => calls_eq (K := K) (xs := [_]) e
  refine ⟨sv, _, x30 (k := 0) (h1 := h4.set h.nx (.row [iv n, sv] 31 true)) ?_ rfl, (x1.trans x4).set (Nat.le_refl _) _, ?_⟩
  · have h1 : (n = 0) = False := eq_false (by omega)
    have h2 : (7 < n) = False := eq_false (by omega)
    simp [f30, hc, w31, hw, h1, h2, show ¬ (n : Int) < 1 by omega, show ¬ (7 : Int) < n by omega]
  · refine (a.keep (h' := h4.set h.nx (.row [iv n, sv] 31 true)) (Nat.le_refl _) fun q hq => blk_set_ne _ _ _ ?_).slR
    intro e
    have := (a.blkOf hq).1
    rw [nx_new] at this
    omega

theorem s31 {n : Nat} (hn1 : 1 ≤ n) (hn : n ≤ 7) (h : H) : rn 31 #[iv n] h = some (.tuple #[iv (gossipP n).length, iv 0], h) := by
  obtain ⟨sv, h4, e, x4, a⟩ := s76 hn1 hn h
  have hc := fun (K : Value → H → Option (Value × H)) => calls_eq (K := K) (xs := [_]) e
  refine p31 (k := 0) (h1 := h4) ?_ rfl x4
  have h1 : (n = 0) = False := eq_false (by omega)
  have h2 : (7 < n) = False := eq_false (by omega)
  simp [f31, hc, kfld31, a.slR.len, h1, h2, show ¬ (n : Int) < 1 by omega, show ¬ (7 : Int) < n by omega]

theorem s32 {n : Int} {sl : Value} {l : List Cl} {h : H} (hs : SlR h 56 3 sl (l.map Cl.cells)) : rn 32 #[.agg #[iv n, sl]] h = some (.bool (decide (n = 0) && decide (l = [])), h) := by
  refine p32 (k := 0) (h1 := h.new (.row [iv n, sl] 31 true)) ?_ rfl (.new _ _)
  simp [f32, hs.len]
  have h1 : ((l.length : Int) == 0) = decide (l = []) := by
    cases l with
    | nil => rfl
    | cons x l => simp; omega
  rw [h1]
  by_cases h0 : n = 0 <;> simp [h0]

def neededP (n : Int) : Int := if n < 4 then quo .i64 (mul .i64 n (sub .i64 n 1)) 2 else sub .i64 (mul .i64 2 n) 4

theorem s34 (n : Int) (h : H) : rn 34 #[iv n] h = some (iv (neededP n), h) := by
  refine p34 (k := 0) (h1 := h) ?_ rfl (.refl _)
  simp [f34, neededP, nz]
  by_cases h0 : n < 4 <;> simp [h0]

theorem gossip_ok : ∀ n : Fin 8, 1 ≤ n.1 → validP n.1 (gossipP n.1) = true ∧ allP n.1 (newsP n.1 (gossipP n.1)) = true ∧ ((gossipP n.1).length : Int) = neededP n.1 := by decide +kernel

theorem s5 {n : Int} {h : H} : ∃ h', rn 5 #[iv n] h = some (.bool true, h') := by
  by_cases hn : n < 1 ∨ 7 < n
  · obtain ⟨h1, e1, x1⟩ := s30_bad hn h
    have c1 := fun (K : Value → H → Option (Value × H)) => calls_eq (K := K) (xs := [_]) e1
    have hw := wrc31 (n := 0) (sv := .slice none 0 0) (blk_new_self h1 (.row [.int .i64 0, .slice none 0 0] 31 true)) rfl
    have c2 := fun (K : Value → H → Option (Value × H)) => calls_eq (K := K) (xs := [_]) (s31_bad hn ((h1.new (.row [.int .i64 0, .slice none 0 0] 31 true)).set h1.nx (.row [iv 0, .slice none 0 0] 31 true)))
    have c3 := fun (K : Value → H → Option (Value × H)) => calls_eq (K := K) (xs := [_]) (s32 (n := 0) (l := []) (.nil (h := (h1.new (.row [.int .i64 0, .slice none 0 0] 31 true)).set h1.nx (.row [iv 0, .slice none 0 0] 31 true))))
    refine ⟨_, t5 (k := 0) (v := .bool true) (h1 := ((h1.new (.row [.int .i64 0, .slice none 0 0] 31 true)).set h1.nx (.row [iv 0, .slice none 0 0] 31 true))) ?_⟩
    simp [f5, c1, w31, hw, c2, c3]
    grind
  · obtain ⟨m, rfl⟩ := Int.eq_ofNat_of_zero_le (show 0 ≤ n by omega)
    obtain ⟨hv, hal, hne⟩ := gossip_ok ⟨m, by omega⟩ (by simp; omega)
    simp only at hv hal hne
    have hln := (validP_ok hv).2.2.1
    obtain ⟨sv, h1, e1, x1, s1⟩ := s30 (show 1 ≤ m by omega) (show m ≤ 7 by omega) h
    have c1 := fun (K : Value → H → Option (Value × H)) => calls_eq (K := K) (xs := [_]) e1
    obtain ⟨a0, n0, c0, hsv⟩ := s1.isSl
    have hw := wrc31 (n := m) (sv := sv) (blk_new_self h1 (.row [.int .i64 0, .slice none 0 0] 31 true)) (by rw [hsv]; rfl)
    have x2 : Ext h1 ((h1.new (.row [.int .i64 0, .slice none 0 0] 31 true)).set h1.nx (.row [iv m, sv] 31 true)) := (Ext.refl h1).new' _ |>.set (Nat.le_refl _) _
    have b2 : ((h1.new (.row [.int .i64 0, .slice none 0 0] 31 true)).set h1.nx (.row [iv m, sv] 31 true)).blk h1.nx = some (.row [iv m, sv] 31 true) := blk_set_self _ _ _
    generalize hG : (h1.new (.row [.int .i64 0, .slice none 0 0] 31 true)).set h1.nx (.row [iv m, sv] 31 true) = h2 at *
    have c2 := fun (K : Value → H → Option (Value × H)) => calls_eq (K := K) (xs := [_]) (s31 (show 1 ≤ m by omega) (show m ≤ 7 by omega) h2)
    obtain ⟨tv, h3, e3, x3, s3⟩ := s33 (n := m) (s1.ext x2) (by omega)
    have c3 := fun (K : Value → H → Option (Value × H)) => calls_eq (K := K) (xs := [_]) e3
    obtain ⟨a4, n4, c4, htv⟩ := s3.isSl
    have hw4 : ∀ (K : H → Option (Value × H)), (al h3 24 [(.int .i64 0), (.slice none 0 0)] fun h10 => st Try.prog h10 24 (nx h3) 0 (.agg #[iv m, tv]) K) = K (h3.fresh 24 [(.int .i64 0), (.slice none 0 0)] [iv m, tv]) := fun K => al_st (xs := [iv m, tv]) sz24 rfl (by rw [htv]; rfl)
    have x4 := (Ext.refl h3).fresh 24 [(.int .i64 0), (.slice none 0 0)] [iv m, tv]
    have b4 := blk_fresh h3 24 [(.int .i64 0), (.slice none 0 0)] [iv m, tv]
    have s4 := s3.ext x4
    generalize h3.fresh 24 [(.int .i64 0), (.slice none 0 0)] [iv m, tv] = h4 at *
    have c5 := fun (K : Value → H → Option (Value × H)) => calls_eq (K := K) (xs := [_]) (s34 m h4)
    have c6 := fun (K : Value → H → Option (Value × H)) => calls_eq (K := K) (xs := [_]) (s35 (n := m) s4)
    have c7 := fun (K : Value → H → Option (Value × H)) => calls_eq (K := K) (xs := [_]) (s36 (n := m) s4 hv)
    rw [Int.toNat_natCast, hal] at c7
    rw [hv] at c6
    refine ⟨_, t5 (k := 0) (v := .bool true) (h1 := h4) ?_⟩
    unfold f5
    rw [c1, ext20, ext21, asI_int, al_eq, w31, nx_eq, hw, Option.bind_some, c2, ext20, asI_int, ext21, asI_int]
    rw [lt_f (by omega), ifB_false, lt_f (by omega), ifB_false, d31, rd_all (n := 2) b2 rfl, Option.bind_some, c3, hw4]
    simp [c5, c6, c7, rd_all (n := 2) b4 rfl, cell_of b4, s4.len, hne, d24, d22, d3]

end Go.AM
