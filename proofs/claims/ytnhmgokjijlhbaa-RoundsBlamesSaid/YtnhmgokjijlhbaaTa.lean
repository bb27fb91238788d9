/- Tables: the copy that the program is handed, and whether they are valid. -/
import Derived.Test.YtnhmgokjijlhbaaF8
import Derived.Test.YtnhmgokjijlhbaaRa
namespace Go.AM
open Go.Proofs

/-- A span. -/
structure Sp where
  a : Int
  b : Int
  lo : Int
  hi : Int
deriving DecidableEq

def Sp.cells (c : Sp) : List Value := [iv c.a, iv c.b, iv c.lo, iv c.hi]
abbrev Sp.val (c : Sp) : Value := .agg c.cells.toArray

/-- May a span be in a table of some events? -/
def spOk (e : Int) (c : Sp) : Bool :=
  decide (0 ≤ c.a) && decide (c.a < e) && decide (0 ≤ c.b) && decide (c.b < e) && decide (c.a ≠ c.b) && decide (0 ≤ c.lo) && decide (c.lo ≤ 11) && decide (c.lo ≤ c.hi) && decide (c.hi ≤ c.lo + 11)

def tabOk (p e : Int) (l : List Sp) : Bool := decide (1 ≤ p) && decide (p ≤ 12) && decide (1 ≤ e) && decide (e ≤ 6) && decide (l.length ≤ 12) && l.all (spOk e)

variable {k : Nat} {R : Type}

attribute [local simp] nx_eq nx_new nx_set blk_new blk_set asI_int asK_int asB_bool asP_ptr al_eq bx_eq len_slice onE_exit onE_ret onR_ret Value.cells d3 d22 d45 d47 d50 d52 d67 d89 cell_new cell_set rd_new rd_set off eq lt le ifB gv out eqF1 eqF2 eqF3 eqF4 eqF5 eqF6 eqF7 eqF8

theorem app50 : okApp Try.prog 50 67 4 = true := by kernel_rfl
theorem app45 : okApp Try.prog 45 89 4 = true := by kernel_rfl
theorem kbld52 (p e : Int) (K : Value → Option R) : bld Try.prog 52 [(0, .int .i64 p), (1, .int .i64 e)] K = K (.agg #[.int .i64 p, .int .i64 e, .slice none 0 0]) := bld_some (by kernel_rfl)
theorem kbld47 (p e : Int) (K : Value → Option R) : bld Try.prog 47 [(0, .int .i64 p), (1, .int .i64 e)] K = K (.agg #[.int .i64 p, .int .i64 e, .slice none 0 0]) := bld_some (by kernel_rfl)
theorem kbld67 (a b c d : Int) (K : Value → Option R) : bld Try.prog 67 [(0, .int .i64 a), (1, .int .i64 b), (2, .int .i64 c), (3, .int .i64 d)] K = K (.agg #[.int .i64 a, .int .i64 b, .int .i64 c, .int .i64 d]) := bld_some (by kernel_rfl)
theorem kbld89 (a b c d : Int) (K : Value → Option R) : bld Try.prog 89 [(0, .int .i64 a), (1, .int .i64 b), (2, .int .i64 c), (3, .int .i64 d)] K = K (.agg #[.int .i64 a, .int .i64 b, .int .i64 c, .int .i64 d]) := bld_some (by kernel_rfl)
theorem bls50 (c : Sp) (h : H) : buildSlice Try.prog 50 1 [(0, .agg #[.int .i64 c.a, .int .i64 c.b, .int .i64 c.lo, .int .i64 c.hi])] h = some (.slice (some ⟨h.nx, 0, none⟩) 1 1, h.new (.row c.cells 67 true)) := by kernel_rfl
theorem bls45 (c : Sp) (h : H) : buildSlice Try.prog 45 1 [(0, .agg #[.int .i64 c.a, .int .i64 c.b, .int .i64 c.lo, .int .i64 c.hi])] h = some (.slice (some ⟨h.nx, 0, none⟩) 1 1, h.new (.row c.cells 89 true)) := by kernel_rfl

attribute [local simp] kbld52 kbld47 kbld67 kbld89

/-- The program's table. -/
theorem s37 {p e : Int} {sl : Value} {l : List Sp} {h : H} (hs : SlR h 89 4 sl (l.map Sp.cells)) :
    ∃ sl' h', rn 37 #[.agg #[iv p, iv e, sl]] h = some (.agg #[iv p, iv e, sl'], h') ∧ Ext h h' ∧ SlR h' 67 4 sl' ((l.take 14).map Sp.cells) := by
  have hlen := hs.lt62
  rw [List.length_map] at hlen
  let h1 := h.new (.row [iv p, iv e, sl] 47 true)
  let h2 := h1.new (.row [.int .i64 0, .int .i64 0, .slice none 0 0] 52 true)
  let h4 := h2.fresh 52 [.int .i64 0, .int .i64 0, .slice none 0 0] [.int .i64 p, .int .i64 e, .slice none 0 0]
  have n1 : h1.nx = h.nx + 1 := rfl
  have n2 : h2.nx = h.nx + 2 := rfl
  have n4 : h4.nx = h.nx + 3 := rfl
  have x4 : Ext h h4 := (((Ext.refl h).new' _).new' _).fresh _ _ _
  have b0 : h4.blk h.nx = some (.row [iv p, iv e, sl] 47 true) := by simp [h4, h2, h1, H.fresh]
  have b1 : h4.blk (h.nx + 1) = some (.row [.int .i64 0, .int .i64 0, .slice none 0 0] 52 true) := by simp [h4, h2, h1, H.fresh]
  have b2 : h4.blk (h.nx + 2) = some (.row [.int .i64 p, .int .i64 e, .slice none 0 0] 52 true) := by simp [h4, h2, h1, H.fresh]
  obtain ⟨ws', h', hl, hx, hgn, hg1, sv, hg2, hap, rfl⟩ := lp_for (F := f37_l1 rn (l.length + 1) h2 sl l.length) (k := l.length + 1) (l := l) (fun _ _ (_ : Unit) => ())
    (fun i _ ws g => Ext h g ∧ h.nx + 3 ≤ g.nx ∧ g.blk (h.nx + 1) = some (.row [.int .i64 0, .int .i64 0, .slice none 0 0] 52 true) ∧
      ∃ sv, g.blk (h.nx + 2) = some (.row [iv p, iv e, sv] 52 true) ∧ AqR h.nx g 67 4 sv ((l.take (min i 14)).map Sp.cells) ∧ ws = [iv i]) 0 (ws := [iv 0]) (h := h4) (s0 := ())
    ⟨x4, by omega, b1, _, b2, .nil, rfl⟩ (by omega)
    (by
      rintro _ ws g ⟨hx, hgn, hg1, sv, hg2, hap, rfl⟩
      simp [f37_l1])
    (by
      rintro i c _ ws g hc ⟨hx, hgn, hg1, sv, hg2, hap, rfl⟩
      have hi := (List.getElem?_eq_some_iff.1 hc).1
      have y7 := (Ext.refl g).fresh 89 [iv 0, iv 0, iv 0, iv 0] c.cells
      have hcb := blk_fresh g 89 [iv 0, iv 0, iv 0, iv 0] c.cells
      have n7 : (g.fresh 89 [iv 0, iv 0, iv 0, iv 0] c.cells).nx = g.nx + 1 := rfl
      unfold f37_l1
      rw [show gv [iv i] 0 = iv i from rfl, asI_int, lt_t (by omega), ifB_true, asK_int, (hs.ext hx).ldA ag89 sz89 (by omega) (x := c.cells) (by simp [hc])]
      rw [al_st (zs := [iv 0, iv 0, iv 0, iv 0]) (xs := c.cells) sz89 rfl rfl]
      generalize g.fresh 89 [iv 0, iv 0, iv 0, iv 0] c.cells = h7 at *
      have g1 := (y7.blk (h.nx + 1) (by omega)).trans hg1
      have g2 := (y7.blk (h.nx + 2) (by omega)).trans hg2
      have a7 := hap.ext y7
      simp only [Sp.cells] at hcb
      by_cases h26 : i < 14
      · obtain ⟨v', h9, e9, a9, n9, k9, b9, hb9, hb9'⟩ := a7.push app50 app50 (bls50 c) rfl rfl (by simp; omega) (by omega)
        have kb : ∀ b, b < h7.nx → h7.blk b ≠ some (.row ((l.take (min i 14)).map Sp.cells).flatten 67 true) → h9.blk b = h7.blk b := fun b hb hne => k9 b hb fun e => hne (a7.blkOf e).2.2
        have g1' := kb (h.nx + 1) (by omega) (by rw [g1]; simp)
        have g2' := kb (h.nx + 2) (by omega) (by rw [g2]; simp)
        rw [g1] at g1'
        rw [g2] at g2'
        have x9 : Ext h h9 := ⟨by have := hx.nx; omega, fun b hb => by
          rw [k9 b (by have := hx.nx; omega) (fun e => by have := (a7.blkOf e).1; omega)]
          exact (hx.trans y7).blk b hb⟩
        have hst : wrc 1 h9 (h.nx + 2) 2 v' = some (h9.set (h.nx + 2) (.row [iv p, iv e, v'] 52 true)) := by rw [wrc_one g2' a9.cells.1 a9.cells.2 (by simp)]; rfl
        refine ⟨[iv ((i : Int) + 1)], h9.set (h.nx + 2) (.row [iv p, iv e, v'] 52 true), ?_, x9.set (by omega) _, by rw [nx_set]; omega, ?_, v', blk_set_self _ _ _, ?_, rfl⟩
        · simp [cell_of hcb, n2, cell_of g2, h26, show (i : Int) < 14 by omega, e9, w50, hst]
          rw [add64 (by omega) (by omega)]
        · rw [blk_set_ne _ _ _ (by omega)]; exact g1'
        · have : (l.take (min (i + 1) 14)).map Sp.cells = (l.take (min i 14)).map Sp.cells ++ [c.cells] := by
            rw [show min (i + 1) 14 = i + 1 by omega, show min i 14 = i by omega, List.take_add_one, hc]
            simp
          rw [this]
          refine a9.keep (by rw [nx_set]; omega) fun b hb => blk_set_ne _ _ _ ?_
          rw [hb9] at hb; cases hb; omega
      · refine ⟨[iv ((i : Int) + 1)], h7, ?_, hx.trans y7, by omega, g1, sv, g2, ?_, rfl⟩
        · simp [show ¬ (i : Int) < 14 by omega]
          rw [add64 (by omega) (by omega)]
        · rw [show min (i + 1) 14 = min i 14 by omega]
          exact a7)
  have hfin : f37 rn (l.length + 1) (.agg #[iv p, iv e, sl]) h = some (.agg #[iv p, iv e, sv], h'.set (h.nx + 1) (.row [iv p, iv e, sv] 52 true)) := by
    have hst : wrc 3 h' (h.nx + 1) 0 (.agg #[iv p, iv e, sv]) = some (h'.set (h.nx + 1) (.row [iv p, iv e, sv] 52 true)) := by
      simp only [wrc, hg1]
      rw [if_pos ⟨rfl, by simp, by simp [Value.cells, hap.cells.2]; exact ⟨rfl, rfl⟩⟩]
      rfl
    unfold f37
    rw [bx_eq, al_eq]
    rw [show nx (h.new (.row (Value.agg #[iv p, iv e, sl]).cells.toList 47 true)) = h.nx + 1 from rfl, d3]
    rw [show ((h.new (.row (Value.agg #[iv p, iv e, sl]).cells.toList 47 true)).new (.row [.int .i64 0, .int .i64 0, .slice none 0 0] 52 true)).cell (nx h) 0 = some (iv p) by simp]
    rw [Option.bind_some, asI_int, d3]
    rw [show ((h.new (.row (Value.agg #[iv p, iv e, sl]).cells.toList 47 true)).new (.row [.int .i64 0, .int .i64 0, .slice none 0 0] 52 true)).cell (nx h) (off 0 1) = some (iv e) by simp]
    rw [Option.bind_some, asI_int, kbld52, al_st (zs := [.int .i64 0, .int .i64 0, .slice none 0 0]) (xs := [.int .i64 p, .int .i64 e, .slice none 0 0]) sz52 rfl rfl]
    rw [show (H.fresh ((h.new (.row (Value.agg #[iv p, iv e, sl]).cells.toList 47 true)).new (.row [.int .i64 0, .int .i64 0, .slice none 0 0] 52 true)) 52 [.int .i64 0, .int .i64 0, .slice none 0 0] [.int .i64 p, .int .i64 e, .slice none 0 0]) = h4 from rfl,
      show ((h.new (.row (Value.agg #[iv p, iv e, sl]).cells.toList 47 true)).new (.row [.int .i64 0, .int .i64 0, .slice none 0 0] 52 true)) = h2 from rfl, d45, nx_eq, cell_of b0]
    rw [show [iv p, iv e, sl][off 0 2]? = some sl from rfl, Option.bind_some, hs.len, List.length_map, lp_eq hl]
    simp [n2, rd_of hg2, w52, hst]
  refine ⟨sv, _, x37 hfin (by obtain ⟨x, y, z, hz⟩ := hap.isSl; rw [hz]; rfl), hx.set (by omega) _, ?_⟩
  have : l.take (min l.length 14) = l.take 14 := by
    rcases Nat.le_total l.length 14 with h5 | h5
    · rw [show min l.length 14 = l.length by omega, List.take_of_length_le (by omega), List.take_of_length_le (by omega)]
    · rw [show min l.length 14 = 14 by omega]
  rw [this] at hap
  refine (hap.keep (by rw [nx_set]; omega) fun b hb => blk_set_ne _ _ _ ?_).slR
  intro e'
  have := (hap.blkOf hb).2.2
  rw [e', hg1] at this
  simp at this

/-- Not valid by its span. -/
theorem s92 {h : H} {c : Sp} {p e : Int} {sv : Value} {b : Nat} (he : 0 ≤ e ∧ e ≤ 6) (hb : b < h.nx) (hc : h.blk b = some (.row [iv p, iv e, sv] 52 true)) : rn 92 #[c.val, pt b 0] h = some (.bool (!spOk e c), h) := by
  refine p92 (k := 0) (h1 := h.new (.row c.cells 67 true)) ?_ rfl (.new _ _)
  have x1 := Ext.new h (.row c.cells 67 true)
  have hc1 := (x1.blk b hb).trans hc
  have hcb : (h.new (.row c.cells 67 true)).blk h.nx = some (.row c.cells 67 true) := blk_new_self _ _
  simp only [f92, bx_eq, asP_ptr, Value.cells, Sp.val]
  generalize h.new (.row c.cells 67 true) = g at *
  simp only [Sp.cells] at hcb
  have e1 : (imin c.a c.b < 0) = ¬ (0 ≤ c.a ∧ 0 ≤ c.b) := propext (by unfold imin; split <;> omega)
  have e2 : (e ≤ imax c.a c.b) = ¬ (c.a < e ∧ c.b < e) := propext (by unfold imax; split <;> omega)
  simp only [asI_int, d3, cell_of hcb, cell_of hc1, off, nx_eq, lt, le, eq, ifB, List.getElem?_cons_zero, List.getElem?_cons_succ, Option.bind_some, Nat.zero_add, e1, e2]
  by_cases h1 : 0 ≤ c.lo ∧ c.lo ≤ 11
  · have ha : add .i64 c.lo 11 = c.lo + 11 := add64 (by omega) (by omega)
    rw [ha]
    have : decide (c.lo + 11 < c.hi) = !decide (c.hi ≤ c.lo + 11) := by rw [Bool.eq_iff_iff]; simp
    rw [this]
    unfold spOk
    grind
  · unfold spOk
    grind

/-- The first element for which a function says yes. -/
theorem s99 {v0 v1 : Value} {h : H} {l : List Sp} (hs : SlR h 67 4 v0 (l.map Sp.cells)) {p : Sp → Bool} (hp : ∀ x ∈ l, callV rn v1 #[x.val] h = some (.bool (p x), h)) :
    ∃ r, rn 99 #[v0, v1] h = some (iv r, h) ∧ (le 0 r = l.any p) := by
  have hlen := hs.lt62
  rw [List.length_map] at hlen
  have hl := lp_same (F := f99_l1 rn (l.length + 1) v0 v1 l.length) (k := l.length + 1) (l := l) (h := h) (fun i (_ : Unit) => [iv 0, iv i])
    (fun i x s => if (!p x) = true then .inl s else .inr i) (fun _ _ => True) (fun _ => .ret) (fun i => [iv i, iv i]) 0 (fun _ => [iv 0, iv l.length]) (ws := [iv 0, iv 0]) (s0 := ()) rfl trivial (by omega) (by simp)
    (fun _ _ => by simp [f99_l1])
    (by
      intro i c _ hc _
      have hi := (List.getElem?_eq_some_iff.1 hc).1
      refine ⟨fun _ _ => trivial, ?_⟩
      unfold f99_l1
      rw [show gv [iv 0, iv i] 1 = iv i from rfl, asI_int, lt_t (by omega), ifB_true, asK_int, hs.ldA ag67 sz67 (by omega) (x := c.cells) (by simp [hc]), callsV_some (hp c (List.mem_of_getElem? hc))]
      rw [asB_bool, asI_int, add64 (by omega) (by omega)]
      cases hpc : p c <;> simp [rnd])
  rcases itL_all (ok := fun _ x => !p x) (g := fun i _ => i) (s0 := ()) l 0 with ⟨⟨r, h1⟩, j, x, hx, h2⟩ | ⟨h1, h2⟩
  · rw [h1] at hl
    refine ⟨r, p99 (k := l.length + 1) ?_ rfl (.refl _), ?_⟩
    · unfold f99
      rw [hs.len, List.length_map, lp_eq hl]
      rfl
    · rw [le_t (by omega)]
      symm
      rw [List.any_eq_true]
      exact ⟨x, List.mem_of_getElem? hx, by simpa using h2⟩
  · rw [h1] at hl
    refine ⟨-1, p99 (k := l.length + 1) ?_ rfl (.refl _), ?_⟩
    · unfold f99
      rw [hs.len, List.length_map, lp_eq hl.1]
      rfl
    · symm
      show _ = false
      rw [List.any_eq_false]
      intro x hx
      obtain ⟨j, hj, rfl⟩ := List.getElem_of_mem hx
      simpa using h2 j _ (List.getElem?_eq_getElem hj)

theorem s80 {v0 v1 : Value} {h : H} {l : List Sp} (hs : SlR h 67 4 v0 (l.map Sp.cells)) {p : Sp → Bool} (hp : ∀ x ∈ l, callV rn v1 #[x.val] h = some (.bool (p x), h)) :
    rn 80 #[v0, v1] h = some (.bool (l.any p), h) := by
  obtain ⟨r, e, hr⟩ := s99 hs hp
  refine p80 (k := 0) ?_ rfl (.refl _)
  unfold f80
  rw [calls_eq e, asI_int, hr]

/-- Is the program's table valid? -/
theorem s71 {p e : Int} {sl : Value} {l : List Sp} {h : H} (hs : SlR h 67 4 sl (l.map Sp.cells)) : rn 71 #[.agg #[iv p, iv e, sl]] h = some (.bool (tabOk p e l), h) := by
  have x1 : Ext h (h.new (.row [iv p, iv e, sl] 52 true)) := .new _ _
  have hb1 : (h.new (.row [iv p, iv e, sl] 52 true)).blk h.nx = some (.row [iv p, iv e, sl] 52 true) := blk_new_self _ _
  have hn1 : h.nx < (h.new (.row [iv p, iv e, sl] 52 true)).nx := Nat.lt_succ_self _
  refine p71 (k := 0) (h1 := h.new (.row [iv p, iv e, sl] 52 true)) ?_ rfl x1
  simp only [f71, bx_eq, Value.cells]
  have hs1 := hs.ext x1
  generalize h.new (.row [iv p, iv e, sl] 52 true) = g at *
  have hn : ∀ {T : Type} (K : Int → Option T), len sl K = K (l.length : Int) := fun K => by rw [hs.len]; simp
  by_cases hc : 1 ≤ p ∧ p ≤ 12 ∧ 1 ≤ e ∧ e ≤ 6 ∧ l.length ≤ 12
  · have c80 := fun (K : Value → H → Option (Value × H)) => calls_eq (K := K) (xs := [_, .func (.func 92) #[] #[pt h.nx 0]]) (s80 (v1 := .func (.func 92) #[] #[pt h.nx 0]) (p := fun c => !spOk e c) hs1 (fun c _ => s92 (by omega) hn1 hb1))
    have hall : (l.any fun c => !spOk e c) = !l.all (spOk e) := by
      rw [List.any_eq_not_all_not]; simp
    simp [cell_of hb1, hn, c80, show ¬ p < 1 by omega, show ¬ 12 < p by omega, show ¬ e < 1 by omega, show ¬ 6 < e by omega, show ¬ 12 < (l.length : Int) by omega, tabOk, hc, hall]
  · simp [cell_of hb1, hn, tabOk]
    grind

/-- Is the document's table valid? -/
theorem s38 {p e : Int} {sl : Value} {l : List Sp} {h : H} (hs : SlR h 89 4 sl (l.map Sp.cells)) : rn 38 #[.agg #[iv p, iv e, sl]] h = some (.bool (tabOk p e l), h) := by
  have hlen := hs.lt62
  rw [List.length_map] at hlen
  have x1 : Ext h (h.new (.row [iv p, iv e, sl] 47 true)) := .new _ _
  have hb1 : (h.new (.row [iv p, iv e, sl] 47 true)).blk h.nx = some (.row [iv p, iv e, sl] 47 true) := blk_new_self _ _
  have hn1 : h.nx < (h.new (.row [iv p, iv e, sl] 47 true)).nx := Nat.lt_succ_self _
  have hn : ∀ {T : Type} (K : Int → Option T), len sl K = K (l.length : Int) := fun K => by rw [hs.len]; simp
  by_cases hc : 1 ≤ p ∧ p ≤ 12 ∧ 1 ≤ e ∧ e ≤ 6 ∧ l.length ≤ 12
  · obtain ⟨h', x', hl⟩ : ∃ h', Ext (h.new (.row [iv p, iv e, sl] 47 true)) h' ∧ _ := lp_list (F := f38_l1 rn (l.length + 1) h sl l.length) (k := l.length + 1) (l := l) (h1 := h.new (.row [iv p, iv e, sl] 47 true)) (fun i (_ : Unit) => [.bool false, iv i])
      (fun i c s => if spOk e c = true then .inl s else .inr i) (fun _ _ => True) (fun _ => .ret) (fun i => [.bool false, iv i]) 0 (fun _ => [.bool false, iv l.length]) (ws := [.bool false, iv 0]) (s0 := ()) rfl trivial (by omega) (by simp)
      (fun _ h2 _ _ => by simp [f38_l1])
      (by
        intro i c _ h2 hcl _ x2
        have hi := (List.getElem?_eq_some_iff.1 hcl).1
        have hb2 := (x2.blk _ hn1).trans hb1
        have hn2 := Nat.lt_of_lt_of_le hn1 x2.nx
        have x3 := (Ext.refl h2).fresh 89 [iv 0, iv 0, iv 0, iv 0] c.cells
        have hb3 := (x3.blk _ hn2).trans hb2
        have hcb := blk_fresh h2 89 [iv 0, iv 0, iv 0, iv 0] c.cells
        refine ⟨fun _ _ => trivial, h2.fresh 89 [iv 0, iv 0, iv 0, iv 0] c.cells, x3, ?_⟩
        unfold f38_l1
        rw [show gv [.bool false, iv i] 1 = iv i from rfl, show gv [.bool false, iv i] 0 = .bool false from rfl, asI_int, lt_t (by omega), ifB_true, asK_int, (hs.ext (x1.trans x2)).ldA ag89 sz89 (by omega) (x := c.cells) (by simp [hcl])]
        rw [al_st (zs := [iv 0, iv 0, iv 0, iv 0]) (xs := c.cells) sz89 rfl rfl]
        generalize h2.fresh 89 [iv 0, iv 0, iv 0, iv 0] c.cells = h3 at *
        simp only [Sp.cells] at hcb
        have hadd : add .i64 (i : Int) 1 = (i : Int) + 1 := add64 (by omega) (by omega)
        simp [cell_of hb3, cell_of hcb, hadd]
        by_cases h1 : 0 ≤ c.lo ∧ c.lo ≤ 11
        · have ha : add .i64 c.lo 11 = c.lo + 11 := add64 (by omega) (by omega)
          rw [ha]
          unfold spOk
          grind [rnd]
        · unfold spOk
          grind [rnd])
    have hF : ∃ h1, Ext h h1 ∧ f38 rn (l.length + 1) (.agg #[iv p, iv e, sl]) h = some (.bool (tabOk p e l), h1) := by
      refine ⟨h', x1.trans x', ?_⟩
      rcases itL_all (ok := fun _ c => spOk e c) (g := fun i _ => i) (s0 := ()) l 0 with ⟨⟨r, h1⟩, j, x, hx, h2⟩ | ⟨h1, h2⟩
      · rw [h1] at hl
        have hall : l.all (spOk e) = false := by
          rw [List.all_eq_false]
          exact ⟨x, List.mem_of_getElem? hx, by simpa using h2⟩
        simp [f38, cell_of hb1, hn, lp_eq hl, tabOk, hall, show ¬ p < 1 by omega, show ¬ 12 < p by omega, show ¬ e < 1 by omega, show ¬ 6 < e by omega, show ¬ 12 < (l.length : Int) by omega]
      · rw [h1] at hl
        have hall : l.all (spOk e) = true := by
          rw [List.all_eq_true]
          intro x hx
          obtain ⟨j, hj, rfl⟩ := List.getElem_of_mem hx
          exact h2 j _ (List.getElem?_eq_getElem hj)
        simp [f38, cell_of hb1, hn, lp_eq hl.1, tabOk, hall, hc, show ¬ p < 1 by omega, show ¬ 12 < p by omega, show ¬ e < 1 by omega, show ¬ 6 < e by omega, show ¬ 12 < (l.length : Int) by omega]
    obtain ⟨h1, e1, e2⟩ := hF
    exact p38 e2 rfl e1
  · refine p38 (k := 0) (h1 := h.new (.row [iv p, iv e, sl] 47 true)) ?_ rfl x1
    simp [f38, cell_of hb1, hn, tabOk]
    grind

theorem tabOk_take {p e : Int} {l : List Sp} : tabOk p e (l.take 14) = tabOk p e l := by
  unfold tabOk
  by_cases hc : l.length ≤ 12
  · rw [List.take_of_length_le (by omega)]
  · rw [decide_eq_false (show ¬ (l.take 14).length ≤ 12 by simp; omega), decide_eq_false hc]
    simp

end Go.AM
