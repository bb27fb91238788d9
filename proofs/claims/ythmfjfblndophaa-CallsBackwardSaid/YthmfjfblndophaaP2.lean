/- Parts of the proof, put together: what the functions of the program answer, and plain laws. -/
import Derived.Test.YthmfjfblndophaaAmSim
import Derived.Test.YthmfjfblndophaaP1

section

/- The log that the program is handed; copies of slices; slices that are equal. -/
namespace Go.AM
open Go.Proofs
variable {k : Nat} {R : Type}
attribute [local simp] nx_eq nx_new nx_set blk_new blk_set asI_int asK_int asB_bool asP_ptr al_eq bx_eq len_slice onE_exit onE_ret onR_ret Value.cells d3 d29 d31 d56 d24 d59 d22 cell_new cell_set rd_new rd_set off eq lt le ifB gv out eqF1 eqF2 eqF3 eqF4 eqF5 eqF6 eqF7 eqF8
theorem app29 : okApp Try.prog 29 56 3 = true := by kernel_rfl

theorem app25 : okApp Try.prog 25 3 1 = true := by kernel_rfl

theorem kbld31 (n : Int) (K : Value → Option R) : bld Try.prog 31 [(0, .int .i64 n)] K = K (.agg #[.int .i64 n, .slice none 0 0]) := bld_some (by kernel_rfl)

theorem kbld56 (a b t : Int) (K : Value → Option R) : bld Try.prog 56 [(0, .int .i64 a), (1, .int .i64 b), (2, .int .i64 t)] K = K (.agg #[.int .i64 a, .int .i64 b, .int .i64 t]) := bld_some (by kernel_rfl)

theorem bls29 (c : Kl) (h : H) : buildSlice Try.prog 29 1 [(0, .agg #[.int .i64 c.a, .int .i64 c.b, .int .i64 c.t])] h = some (.slice (some ⟨h.nx, 0, none⟩) 1 1, h.new (.row c.cells 56 true)) := by kernel_rfl

theorem bls25 (z : Int) (h : H) : buildSlice Try.prog 25 1 [(0, .int .i64 z)] h = some (.slice (some ⟨h.nx, 0, none⟩) 1 1, h.new (.row [iv z] 3 true)) := by kernel_rfl

attribute [local simp] kbld31 kbld56
theorem s18 {n : Int} {sl : Value} {l : List Kl} {h : H} (hs : SlR h 59 3 sl (l.map Kl.cells)) :
    ∃ sl' h', rn 18 #[.agg #[iv n, sl]] h = some (.agg #[iv n, sl'], h') ∧ Ext h h' ∧ SlR h' 56 3 sl' ((l.take 26).map Kl.cells) := by
  have hlen := hs.lt62
  rw [List.length_map] at hlen
  -- the heap ahead of the loop
  let h1 := h.new (.row [iv n, sl] 24 true)
  let h2 := h1.new (.row [.int .i64 0, .slice none 0 0] 31 true)
  let h4 := h2.fresh 31 [.int .i64 0, .slice none 0 0] [.int .i64 n, .slice none 0 0]
  have n1 : h1.nx = h.nx + 1 := rfl
  have n2 : h2.nx = h.nx + 2 := rfl
  have n4 : h4.nx = h.nx + 3 := rfl
  have x4 : Ext h h4 := (((Ext.refl h).new' _).new' _).fresh _ _ _
  have b0 : h4.blk h.nx = some (.row [iv n, sl] 24 true) := by simp [h4, h2, h1, H.fresh]
  have b1 : h4.blk (h.nx + 1) = some (.row [.int .i64 0, .slice none 0 0] 31 true) := by simp [h4, h2, h1, H.fresh]
  have b2 : h4.blk (h.nx + 2) = some (.row [.int .i64 n, .slice none 0 0] 31 true) := by simp [h4, h2, h1, H.fresh]
  obtain ⟨ws', h', hl, hx, hgn, hg1, sv, hg2, hap, rfl⟩ := lp_for (F := f18_l1 rn (l.length + 1) h2 sl l.length) (k := l.length + 1) (l := l) (fun _ _ (_ : Unit) => ())
    (fun i _ ws g => Ext h g ∧ h.nx + 3 ≤ g.nx ∧ g.blk (h.nx + 1) = some (.row [.int .i64 0, .slice none 0 0] 31 true) ∧
      ∃ sv, g.blk (h.nx + 2) = some (.row [iv n, sv] 31 true) ∧ AqR h.nx g 56 3 sv ((l.take (min i 26)).map Kl.cells) ∧ ws = [iv i]) 0 (ws := [iv 0]) (h := h4) (s0 := ())
    ⟨x4, by omega, b1, _, b2, .nil, rfl⟩ (by omega)
    (by
      rintro _ ws g ⟨hx, hgn, hg1, sv, hg2, hap, rfl⟩
      simp [f18_l1])
    (by
      rintro i c _ ws g hc ⟨hx, hgn, hg1, sv, hg2, hap, rfl⟩
      have hi := (List.getElem?_eq_some_iff.1 hc).1
      have y7 := (Ext.refl g).fresh 59 [iv 0, iv 0, iv 0] c.cells
      have hcb := blk_fresh g 59 [iv 0, iv 0, iv 0] c.cells
      have n7 : (g.fresh 59 [iv 0, iv 0, iv 0] c.cells).nx = g.nx + 1 := rfl
      unfold f18_l1
      rw [show gv [iv i] 0 = iv i from rfl, asI_int, lt_t (by omega), ifB_true, asK_int, (hs.ext hx).ldA ag59 sz59 (by omega) (x := c.cells) (by simp [hc])]
      rw [al_st (zs := [iv 0, iv 0, iv 0]) (xs := c.cells) sz59 rfl rfl]
      generalize g.fresh 59 [iv 0, iv 0, iv 0] c.cells = h7 at *
      have g1 := (y7.blk (h.nx + 1) (by omega)).trans hg1
      have g2 := (y7.blk (h.nx + 2) (by omega)).trans hg2
      have a7 := hap.ext y7
      simp only [Kl.cells] at hcb
      by_cases h26 : i < 26
      · obtain ⟨v', h9, e9, a9, n9, k9, b9, hb9, hb9'⟩ := a7.push app29 app29 (bls29 c) rfl rfl (by simp; omega) (by omega)
        have kb : ∀ b, b < h7.nx → h7.blk b ≠ some (.row ((l.take (min i 26)).map Kl.cells).flatten 56 true) → h9.blk b = h7.blk b := fun b hb hne => k9 b hb fun e => hne (a7.blkOf e).2.2
        have g1' := kb (h.nx + 1) (by omega) (by rw [g1]; simp)
        have g2' := kb (h.nx + 2) (by omega) (by rw [g2]; simp)
        rw [g1] at g1'
        rw [g2] at g2'
        have x9 : Ext h h9 := ⟨by have := hx.nx; omega, fun b hb => by
          rw [k9 b (by have := hx.nx; omega) (fun e => by have := (a7.blkOf e).1; omega)]
          exact (hx.trans y7).blk b hb⟩
        have hst : wrc 1 h9 (h.nx + 2) 1 v' = some (h9.set (h.nx + 2) (.row [iv n, v'] 31 true)) := by rw [wrc_one g2' a9.cells.1 a9.cells.2 (by simp)]; rfl
        refine ⟨[iv ((i : Int) + 1)], h9.set (h.nx + 2) (.row [iv n, v'] 31 true), ?_, x9.set (by omega) _, by rw [nx_set]; omega, ?_, v', blk_set_self _ _ _, ?_, rfl⟩
        · simp [cell_of hcb, n2, cell_of g2, h26, show (i : Int) < 26 by omega, e9, w29, hst]
          rw [add64 (by omega) (by omega)]
        · rw [blk_set_ne _ _ _ (by omega)]; exact g1'
        · have : (l.take (min (i + 1) 26)).map Kl.cells = (l.take (min i 26)).map Kl.cells ++ [c.cells] := by
            rw [show min (i + 1) 26 = i + 1 by omega, show min i 26 = i by omega, List.take_add_one, hc]
            simp
          rw [this]
          refine a9.keep (by rw [nx_set]; omega) fun b hb => blk_set_ne _ _ _ ?_
          rw [hb9] at hb; cases hb; omega
      · refine ⟨[iv ((i : Int) + 1)], h7, ?_, hx.trans y7, by omega, g1, sv, g2, ?_, rfl⟩
        · simp [show ¬ (i : Int) < 26 by omega]
          rw [add64 (by omega) (by omega)]
        · rw [show min (i + 1) 26 = min i 26 by omega]
          exact a7)
  have hfin : f18 rn (l.length + 1) (.agg #[iv n, sl]) h = some (.agg #[iv n, sv], h'.set (h.nx + 1) (.row [iv n, sv] 31 true)) := by
    have hst : wrc 2 h' (h.nx + 1) 0 (.agg #[iv n, sv]) = some (h'.set (h.nx + 1) (.row [iv n, sv] 31 true)) := by
      simp only [wrc, hg1]
      rw [if_pos ⟨rfl, by simp, by simp [Value.cells, hap.cells.2]; rfl⟩]
      rfl
    unfold f18
    rw [bx_eq, al_eq]
    rw [show nx (h.new (.row (Value.agg #[iv n, sl]).cells.toList 24 true)) = h.nx + 1 from rfl, d3]
    rw [show ((h.new (.row (Value.agg #[iv n, sl]).cells.toList 24 true)).new (.row [.int .i64 0, .slice none 0 0] 31 true)).cell (nx h) 0 = some (iv n) by simp]
    rw [Option.bind_some, asI_int, kbld31, al_st (zs := [.int .i64 0, .slice none 0 0]) (xs := [.int .i64 n, .slice none 0 0]) sz31 rfl rfl]
    rw [show (H.fresh ((h.new (.row (Value.agg #[iv n, sl]).cells.toList 24 true)).new (.row [.int .i64 0, .slice none 0 0] 31 true)) 31 [.int .i64 0, .slice none 0 0] [.int .i64 n, .slice none 0 0]) = h4 from rfl,
      show ((h.new (.row (Value.agg #[iv n, sl]).cells.toList 24 true)).new (.row [.int .i64 0, .slice none 0 0] 31 true)) = h2 from rfl, d22, nx_eq, cell_of b0]
    rw [show [iv n, sl][off 0 1]? = some sl from rfl, Option.bind_some, hs.len, List.length_map, lp_eq hl]
    simp [n2, rd_of hg2, w31, hst]
  refine ⟨sv, _, x18 hfin (by obtain ⟨x, y, z, hz⟩ := hap.isSl; rw [hz]; rfl), hx.set (by omega) _, ?_⟩
  rw [show min l.length 26 = min l.length 26 from rfl] at hap
  have : l.take (min l.length 26) = l.take 26 := by
    rcases Nat.le_total l.length 26 with h5 | h5
    · rw [show min l.length 26 = l.length by omega, List.take_of_length_le (by omega), List.take_of_length_le (by omega)]
    · rw [show min l.length 26 = 26 by omega]
  rw [this] at hap
  refine (hap.keep (by rw [nx_set]; omega) fun b hb => blk_set_ne _ _ _ ?_).slR
  intro e
  have := (hap.blkOf hb).2.2
  rw [e, hg1] at this
  simp at this

end Go.AM

end

section

/- Copies of slices; slices that are equal; the valid logs as the document tells them. -/
namespace Go.AM
open Go.Proofs
variable {k : Nat} {R : Type}
attribute [local simp] nx_eq nx_new nx_set blk_new blk_set asI_int asK_int asB_bool asP_ptr al_eq bx_eq len_slice onE_exit onE_ret onR_ret Value.cells d3 d29 d31 d56 d24 d59 d22 cell_new cell_set rd_new rd_set off eq lt le ifB gv out eqF1 eqF2 eqF3 eqF4 eqF5 eqF6 eqF7 eqF8
attribute [local simp] k73 k74 k72 k42 lt_ne lt_ne1
abbrev cellsI (l : List Int) : List (List Value) := l.map fun z => [iv z]

theorem under25 : Try.prog.underlying 25 = some (.slice 3) := by kernel_rfl

theorem bls25e (h : H) : buildSlice Try.prog 25 0 [] h = some (.slice (some ⟨h.nx, 0, none⟩) 0 0, h.new (.row [] 3 true)) := by kernel_rfl

theorem nil25 : binOp Try.prog .eql 25 (.slice none 0 0) (.slice none 0 0) = some (.bool true) := by kernel_rfl

theorem some25 (b o n c : Nat) : binOp Try.prog .eql 25 (.slice (some ⟨b, o, none⟩) n c) (.slice none 0 0) = some (.bool false) := by kernel_rfl

/-- Are two slices of numbers equal? -/
theorem s26 {v0 v1 : Value} {a b : List Int} {h : H} (ha : SlR h 3 1 v0 (cellsI a)) (hb : SlR h 3 1 v1 (cellsI b)) : rn 26 #[v0, v1] h = some (.bool (decide (a = b)), h) := by
  have hl := ha.lt62
  rw [List.length_map] at hl
  refine p26 (k := a.length + 1) (h1 := h) ?_ rfl (.refl _)
  by_cases hlen : a.length = b.length
  · have hl := lp_same (F := f26_l1 rn (a.length + 1) v0 v1 a.length) (k := a.length + 1) (l := a) (h := h) (fun i (_ : Unit) => [.bool false, iv i])
      (fun i x s => if decide (b[i]? = some x) = true then .inl s else .inr i) (fun _ _ => True) (fun _ => .ret) (fun i => [.bool false, iv i]) 0 (fun _ => [.bool false, iv a.length]) (ws := [.bool false, iv 0]) (s0 := ()) rfl trivial (by omega) (by simp)
      (fun _ _ => by simp [f26_l1])
      (by
        intro i x _ hx _
        have hi := (List.getElem?_eq_some_iff.1 hx).1
        refine ⟨fun _ _ => trivial, ?_⟩
        have hbi : b[i]? = some b[i] := List.getElem?_eq_getElem (by omega)
        have g1 : ∀ (K : Value → Option (Ex × List Value × H)), (six v0 (i : Int) 1 fun b o => (h.cell b o).bind K) = K (iv x) := fun K => ha.c0 (by omega) (x := [iv x]) (by simp [hx]) rfl K
        have g2 : ∀ (K : Value → Option (Ex × List Value × H)), (six v1 (i : Int) 1 fun b o => (h.cell b o).bind K) = K (iv b[i]) := fun K => hb.c0 (by omega) (x := [iv b[i]]) (by simp [hbi]) rfl K
        simp [f26_l1, show i < a.length by omega, g1, g2, hbi, rnd]
        rw [add64 (by omega) (by omega)]
        by_cases hxb : x = b[i]
        · simp [hxb]
        · simp [hxb, Ne.symm hxb])
    have hiff : a = b ↔ ∀ (j : Nat) (x : Int), a[j]? = some x → b[j]? = some x := by
      constructor
      · rintro rfl j x h; exact h
      · intro hh
        apply List.ext_getElem hlen
        intro j h1 h2
        have := hh j a[j] (List.getElem?_eq_getElem h1)
        rw [List.getElem?_eq_getElem h2] at this
        exact (Option.some.inj this).symm
    unfold f26
    simp only [ha.len, hb.len, List.length_map]
    rw [eq_t (by omega)]
    simp
    rcases itL_all (ok := fun i x => decide (b[i]? = some x)) (g := fun i _ => i) (s0 := ()) a 0 with ⟨⟨r, h1⟩, j, x, hx, h2⟩ | ⟨h1, h2⟩
    · rw [h1] at hl
      rw [lp_eq hl]
      simp
      rw [hiff]
      intro hh
      have := hh j x hx
      simp [this] at h2
    · rw [h1] at hl
      rw [lp_eq hl.1]
      simp
      rw [hiff]
      intro j x hx
      simpa using h2 j x hx
  · unfold f26
    simp only [ha.len, hb.len, List.length_map]
    rw [eq_f (by omega)]
    simp
    intro hab
    exact hlen (by rw [hab])

/-- Does a call ahead of c stand against it? -/
def against (c d : Kl) : Bool := decide (c.t < d.t) || clash c d

def rowR (n : Int) (l : List Kl) (i : Nat) (c : Kl) : Bool := okC n c && !(l.take i).any (against c)

def validR (n : Int) (l : List Kl) : Bool := !decide (n < 1) && !decide (7 < n) && !decide (24 < (l.length : Int)) && (List.range l.length).all fun i => (l[i]?).all (rowR n l i)

theorem under22 : Try.prog.underlying 22 = some (.slice 59) := by kernel_rfl

theorem f35_in {c : Kl} {sl : Value} {l : List Kl} {h2 h3 : H} {x0 : Value} (hs : SlR h3 59 3 sl (l.map Kl.cells)) (hk : l.length < k) (hn : h2.nx < h3.nx) (hc : h3.blk h2.nx = some (.row c.cells 59 true)) :
    ∃ h', Ext h3 h' ∧ ((l.any (against c) = false ∧ lpGo (f35_l2 rn k h2 sl l.length) k [x0, iv 0] h3 = some (.exit 2, [x0, iv l.length], h')) ∨
      (l.any (against c) = true ∧ ∃ i : Nat, lpGo (f35_l2 rn k h2 sl l.length) k [x0, iv 0] h3 = some (.ret, [.bool false, iv i], h'))) := by
  have hlen := hs.lt62
  rw [List.length_map] at hlen
  obtain ⟨h', x', hl⟩ := lp_list (F := f35_l2 rn k h2 sl l.length) (k := k) (l := l) (h1 := h3) (fun i (_ : Unit) => [x0, iv i])
    (fun i d s => if (!against c d) = true then .inl s else .inr i) (fun _ _ => True) (fun _ => .ret) (fun i => [.bool false, iv i]) 2 (fun _ => [x0, iv l.length]) (ws := [x0, iv 0]) (s0 := ()) rfl trivial hk (by simp)
    (fun _ g _ _ => by simp [f35_l2])
    (by
      intro i y _ h4 hy _ x4
      have hi := (List.getElem?_eq_some_iff.1 hy).1
      have x5 := (Ext.refl h4).fresh 59 [iv 0, iv 0, iv 0] y.cells
      have hyb := blk_fresh h4 59 [iv 0, iv 0, iv 0] y.cells
      refine ⟨fun _ _ => trivial, h4.fresh 59 [iv 0, iv 0, iv 0] y.cells, x5, ?_⟩
      have hcb := ((x4.trans x5).blk _ hn).trans hc
      unfold f35_l2
      rw [show gv [x0, iv i] 1 = iv i from rfl, show gv [x0, iv i] 0 = x0 from rfl, asI_int, lt_t (by omega), ifB_true, asK_int, (hs.ext x4).ldA ag59 sz59 (by omega) (x := y.cells) (by simp [hy])]
      rw [al_st (zs := [iv 0, iv 0, iv 0]) (xs := y.cells) sz59 rfl rfl]
      generalize h4.fresh 59 [iv 0, iv 0, iv 0] y.cells = h5 at *
      simp only [Kl.cells] at hcb hyb
      simp [cell_of hcb, cell_of hyb, rnd]
      rw [add64 (by omega) (by omega)]
      grind [against, clash, Kl.has])
  refine ⟨h', x', ?_⟩
  rcases itL_all (ok := fun _ d => !against c d) (g := fun i _ => i) (s0 := ()) l 0 with ⟨⟨r, h1⟩, j, x, hx, h2⟩ | ⟨h1, h2⟩
  · rw [h1] at hl
    exact .inr ⟨by rw [List.any_eq_true]; exact ⟨x, List.mem_of_getElem? hx, by simpa using h2⟩, r, hl⟩
  · rw [h1] at hl
    refine .inl ⟨?_, hl.1⟩
    rw [List.any_eq_false]
    intro x hx
    obtain ⟨j, hj, rfl⟩ := List.getElem_of_mem hx
    simpa using h2 j _ (List.getElem?_eq_getElem hj)

theorem s35' {n : Int} {sl : Value} {l : List Kl} {h : H} (hs : SlR h 59 3 sl (l.map Kl.cells)) : rn 35 #[.agg #[iv n, sl]] h = some (.bool (validR n l), h) := by
  have hlen := hs.lt62
  rw [List.length_map] at hlen
  have x1 : Ext h (h.new (.row [iv n, sl] 24 true)) := .new _ _
  have hb1 : (h.new (.row [iv n, sl] 24 true)).blk h.nx = some (.row [iv n, sl] 24 true) := blk_new_self _ _
  have hn1 : h.nx < (h.new (.row [iv n, sl] 24 true)).nx := Nat.lt_succ_self _
  have hs1 := hs.ext x1
  obtain ⟨h', x', hl⟩ := lp_list (F := f35_l1 rn (l.length + 1) h sl l.length) (k := l.length + 1) (l := l) (h1 := h.new (.row [iv n, sl] 24 true)) (fun i (_ : Unit) => [.bool false, iv i])
    (fun i c s => if rowR n l i c = true then .inl s else .inr i) (fun _ _ => True) (fun _ => .ret) (fun i => [.bool false, iv i]) 0 (fun _ => [.bool false, iv l.length]) (ws := [.bool false, iv 0]) (s0 := ()) rfl trivial (by omega) (by simp)
    (fun _ h2 _ _ => by simp [f35_l1])
    (by
      intro i c _ h2 hc _ x2
      have hi := (List.getElem?_eq_some_iff.1 hc).1
      have hb2 := (x2.blk _ hn1).trans hb1
      have hn2 := Nat.lt_of_lt_of_le hn1 x2.nx
      have hs2 := hs1.ext x2
      have x3 := (Ext.refl h2).fresh 59 [iv 0, iv 0, iv 0] c.cells
      have hb3 := (x3.blk _ hn2).trans hb2
      have hcb := blk_fresh h2 59 [iv 0, iv 0, iv 0] c.cells
      have hn3 : h2.nx < (h2.fresh 59 [iv 0, iv 0, iv 0] c.cells).nx := Nat.lt_succ_self _
      have hs3 := hs2.ext x3
      obtain ⟨v', hv', hsli⟩ := hs3.take (i := (i : Int)) under22 sz59 (by omega) (by simp; omega)
      rw [Int.toNat_natCast, ← List.map_take] at hv'
      obtain ⟨h5, x5, hin⟩ := f35_in (k := l.length + 1) (x0 := .bool false) hv' (by rw [List.length_take]; omega) hn3 hcb
      have hlt : ((l.take i).length : Int) = i := by rw [List.length_take]; omega
      rw [hlt] at hin
      refine ⟨fun _ _ => trivial, ?_⟩
      have hF : ∃ h', Ext h2 h' ∧ f35_l1 rn (l.length + 1) h sl l.length [.bool false, iv i] h2 = if rowR n l i c = true then some (.normal, [.bool false, iv ((i : Int) + 1)], h') else some (.ret, [.bool false, iv i], h') := by
        unfold f35_l1
        rw [show gv [.bool false, iv i] 1 = iv i from rfl, show gv [.bool false, iv i] 0 = .bool false from rfl, asI_int, lt_t (by omega), ifB_true, asK_int, hs2.ldA ag59 sz59 (by omega) (x := c.cells) (by simp [hc])]
        rw [al_st (zs := [iv 0, iv 0, iv 0]) (xs := c.cells) sz59 rfl rfl]
        generalize h2.fresh 59 [iv 0, iv 0, iv 0] c.cells = h3 at *
        simp only [Kl.cells] at hcb
        by_cases hok : okC n c = true
        · refine ⟨h5, x3.trans x5, ?_⟩
          have hlv : ∀ (K : Int → Option (Ex × List Value × H)), len v' K = K i := fun K => by rw [hv'.len, List.length_map, hlt]
          rcases hin with ⟨ha, hlp⟩ | ⟨ha, r, hlp⟩
          · simp [cell_of hb3, cell_of hcb, hsli, hlv, lp_eq hlp, rowR, ha, hok]
            rw [add64 (by omega) (by omega)]
            grind [okC]
          · simp [cell_of hb3, cell_of hcb, hsli, hlv, lp_eq hlp, rowR, ha, hok]
            grind [okC]
        · refine ⟨h3, x3, ?_⟩
          simp [cell_of hb3, cell_of hcb, hsli, rowR, hok]
          grind [okC]
      obtain ⟨h', x', e⟩ := hF
      refine ⟨h', x', ?_⟩
      rw [e]
      split <;> simp [rnd])
  have hall : (∃ r, itL (σ := Unit) (ρ := Nat) (fun i c s => if rowR n l i c = true then .inl s else .inr i) l 0 () = .inr r) ∧ ((List.range l.length).all fun i => (l[i]?).all (rowR n l i)) = false ∨
      itL (σ := Unit) (ρ := Nat) (fun i c s => if rowR n l i c = true then .inl s else .inr i) l 0 () = .inl () ∧ ((List.range l.length).all fun i => (l[i]?).all (rowR n l i)) = true := by
    rcases itL_all (ok := fun i c => rowR n l i c) (g := fun i _ => i) (s0 := ()) l 0 with ⟨h1, j, x, hx, h2⟩ | ⟨h1, h2⟩
    · refine .inl ⟨h1, ?_⟩
      rw [List.all_eq_false]
      exact ⟨j, List.mem_range.2 (List.getElem?_eq_some_iff.1 hx).1, by simpa [hx] using h2⟩
    · refine .inr ⟨h1, ?_⟩
      rw [List.all_eq_true]
      intro j hj
      have hj := List.mem_range.1 hj
      have := h2 j _ (List.getElem?_eq_getElem hj)
      simpa [hj] using this
  have hF : ∃ h1, Ext h h1 ∧ f35 rn (l.length + 1) (.agg #[iv n, sl]) h = some (.bool (validR n l), h1) := by
    by_cases c : n < 1 ∨ 7 < n ∨ 24 < (l.length : Int)
    · refine ⟨_, x1, ?_⟩
      simp [f35, cell_of hb1, hs.len, validR]
      grind
    · refine ⟨h', x1.trans x', ?_⟩
      rcases hall with ⟨⟨r, h1⟩, h2⟩ | ⟨h1, h2⟩ <;> rw [h1] at hl
      · simp [f35, cell_of hb1, hs.len, validR, h2, lp_eq hl]
        grind
      · simp [f35, cell_of hb1, hs.len, validR, h2, lp_eq hl.1]
        grind
  obtain ⟨h1, e1, e2⟩ := hF
  exact p35 e2 rfl e1

end Go.AM

end

section

/- The valid logs: what is known of them. -/
namespace Go.AM
open Go.Proofs
variable {k : Nat} {R : Type}
attribute [local simp] nx_eq nx_new nx_set blk_new blk_set asI_int asK_int asB_bool asP_ptr al_eq bx_eq len_slice onE_exit onE_ret onR_ret Value.cells d3 d29 d31 d56 d24 d59 d22 cell_new cell_set rd_new rd_set off eq lt le ifB gv out eqF1 eqF2 eqF3 eqF4 eqF5 eqF6 eqF7 eqF8
attribute [local simp] k73 k74 k72 k42 lt_ne lt_ne1
theorem valid_eq (n : Int) (l : List Kl) : validR n l = validP n l := by
  have key : (List.range l.length).all (fun i => (l[i]?).all (rowR n l i)) = (List.range l.length).all (rowOk n l) := by
    rw [Bool.eq_iff_iff, List.all_eq_true, List.all_eq_true]
    constructor
    · intro h i hi
      have hi' := List.mem_range.1 hi
      have := h i hi
      have hli : l[i]? = some l[i] := List.getElem?_eq_getElem hi'
      simp only [hli, Option.all_some] at this
      unfold rowR at this
      unfold rowOk
      rw [hli]
      simp only [Bool.and_eq_true, Bool.not_eq_true', List.any_eq_false] at this ⊢
      refine ⟨⟨this.1, ?_⟩, fun x hx hc => this.2 x hx (by simp [against, hc])⟩
      by_cases h0 : 0 < i
      · have hl1 : l[i - 1]? = some (l[i - 1]'(by omega)) := List.getElem?_eq_getElem (by omega)
        rw [hl1]
        have hm : l[i - 1]'(by omega) ∈ l.take i := List.mem_take_iff_getElem.2 ⟨i - 1, by omega, rfl⟩
        have h2 := this.2 _ hm
        simp only [against, Bool.or_eq_true, not_or, decide_eq_true_eq] at h2
        simp [h2.1]
      · simp [h0]
    · intro h i hi
      have hi' := List.mem_range.1 hi
      have hsort : ∀ j, j < l.length → ∀ i', i' < j → (l.getD i' ⟨0, 0, 0⟩).t ≤ (l.getD j ⟨0, 0, 0⟩).t := by
        intro j
        induction j with
        | zero => intro _ i' hi'; omega
        | succ j ih =>
          intro hj i' hi'
          have h1 := h (j + 1) (List.mem_range.2 hj)
          unfold rowOk at h1
          rw [List.getElem?_eq_getElem hj] at h1
          simp only [Bool.and_eq_true, Bool.not_eq_true'] at h1
          have h2 := h1.1.2
          rw [show j + 1 - 1 = j from rfl, List.getElem?_eq_getElem (show j < l.length by omega)] at h2
          simp only [Option.any_some, Nat.zero_lt_succ, decide_true, Bool.true_and, decide_eq_false_iff_not, Int.not_lt] at h2
          have e1 : l.getD j ⟨0, 0, 0⟩ = l[j] := by rw [List.getD_eq_getElem?_getD, List.getElem?_eq_getElem (show j < l.length by omega)]; rfl
          have e2 : l.getD (j + 1) ⟨0, 0, 0⟩ = l[j + 1] := by rw [List.getD_eq_getElem?_getD, List.getElem?_eq_getElem hj]; rfl
          rcases Nat.lt_or_ge i' j with h3 | h3
          · have := ih (by omega) i' h3
            rw [e1] at this
            rw [e2]
            omega
          · obtain rfl : i' = j := by omega
            rw [e1, e2]
            exact h2
      have := h i hi
      have hli : l[i]? = some l[i] := List.getElem?_eq_getElem hi'
      unfold rowOk at this
      simp only [hli, Option.all_some]
      unfold rowR
      rw [hli] at this
      simp only [Bool.and_eq_true, Bool.not_eq_true', List.any_eq_false] at this ⊢
      refine ⟨this.1.1, fun x hx hc => ?_⟩
      simp only [against, Bool.or_eq_true, decide_eq_true_eq] at hc
      rcases hc with hc | hc
      · obtain ⟨j, hj, rfl⟩ := List.mem_take_iff_getElem.1 hx
        have := hsort i hi' j (by omega)
        rw [List.getD_eq_getElem?_getD, List.getD_eq_getElem?_getD, hli, List.getElem?_eq_getElem (show j < l.length by omega)] at this
        simp only [Option.getD_some] at this
        omega
      · exact this.2 x hx hc
  unfold validR validP
  rw [key]

/-- The other person of a call. -/
def Kl.oth (c : Kl) (p : Int) : Int := c.a + c.b - p

theorem okC_iff {n : Int} {c : Kl} : okC n c = true ↔ (0 ≤ c.a ∧ c.a < n) ∧ (0 ≤ c.b ∧ c.b < n) ∧ c.a ≠ c.b ∧ 1 ≤ c.t ∧ c.t ≤ 30 := by
  simp only [okC, Bool.and_eq_true, decide_eq_true_eq, Bool.not_eq_true', beq_eq_false_iff_ne, decide_eq_false_iff_not, Int.not_lt, ne_eq]
  constructor
  · rintro ⟨⟨⟨⟨h1, h2⟩, h3⟩, h4⟩, h5⟩; exact ⟨h1, h2, h3, h4, h5⟩
  · rintro ⟨h1, h2, h3, h4, h5⟩; exact ⟨⟨⟨⟨h1, h2⟩, h3⟩, h4⟩, h5⟩

theorem validP_ok {n : Int} {l : List Kl} (h : validP n l = true) : 1 ≤ n ∧ n ≤ 7 ∧ l.length ≤ 24 ∧ ∀ (i : Nat) (c : Kl), l[i]? = some c → okC n c = true := by
  simp only [validP, Bool.and_eq_true, Bool.not_eq_true', decide_eq_false_iff_not, Int.not_lt, List.all_eq_true, List.mem_range] at h
  obtain ⟨⟨⟨h1, h2⟩, h3⟩, h4⟩ := h
  refine ⟨h1, h2, by omega, fun i c hc => ?_⟩
  have hi : i < l.length := (List.getElem?_eq_some_iff.1 hc).1
  have := h4 i hi
  unfold rowOk at this
  rw [hc] at this
  simp only [Bool.and_eq_true] at this
  exact this.1.1

theorem oth_ok {n : Int} {c : Kl} {p : Int} (h : okC n c = true) (hp : c.has p = true) : 0 ≤ c.oth p ∧ c.oth p < n ∧ c.oth p ≠ p := by
  obtain ⟨h1, h2, h3, _⟩ := okC_iff.1 h
  simp only [Kl.has, Bool.or_eq_true, beq_iff_eq] at hp
  unfold Kl.oth
  rcases hp with hp | hp <;> omega

theorem oth_calc {n : Int} {c : Kl} {p : Int} (hn : n ≤ 1000) (h : okC n c = true) (hp : c.has p = true) : sub .i64 (add .i64 c.a c.b) p = c.oth p := by
  obtain ⟨h1, h2, h3, _⟩ := okC_iff.1 h
  have := oth_ok h hp
  unfold Kl.oth at this ⊢
  rw [add64 (by omega) (by omega), sub64 (by omega) (by omega)]

theorem s35 {n : Int} {sl : Value} {l : List Kl} {h : H} (hs : SlR h 59 3 sl (l.map Kl.cells)) : rn 35 #[.agg #[iv n, sl]] h = some (.bool (validP n l), h) := by
  rw [s35' hs, valid_eq]

theorem validP_sorted {n : Int} {l : List Kl} (h : validP n l = true) {i j : Nat} {c d : Kl} (hij : i < j) (hd : l[i]? = some d) (hc : l[j]? = some c) : d.t ≤ c.t ∧ clash c d = false := by
  rw [← valid_eq] at h
  simp only [validR, Bool.and_eq_true, List.all_eq_true, List.mem_range] at h
  have hj : j < l.length := (List.getElem?_eq_some_iff.1 hc).1
  have := h.2 j hj
  simp only [hc, Option.all_some] at this
  unfold rowR at this
  simp only [Bool.and_eq_true, Bool.not_eq_true', List.any_eq_false] at this
  obtain ⟨hi, e⟩ := List.getElem?_eq_some_iff.1 hd
  have hm : d ∈ l.take j := List.mem_take_iff_getElem.2 ⟨i, by omega, e⟩
  have h2 := this.2 d hm
  simp only [against, Bool.or_eq_true, not_or, decide_eq_true_eq, Int.not_lt, Bool.not_eq_true] at h2
  exact h2

theorem validP_take {n : Int} {l : List Kl} : validP n (l.take 26) = validP n l := by
  by_cases hl : l.length ≤ 26
  · rw [List.take_of_length_le hl]
  · have h1 : validP n l = false := by simp [validP, show 24 < (l.length : Int) by omega]
    have h2 : validP n (l.take 26) = false := by
      simp [validP, List.length_take, show 24 < min 26 l.length by omega]
      intro _ _ h
      omega
    rw [h1, h2]

/-- Two different people of a valid log. -/
def pairP (n : Int) (l : List Kl) (s t : Int) : Bool := validP n l && decide (0 ≤ s ∧ s < n) && decide (0 ≤ t ∧ t < n) && !(s == t)

theorem pairP_take {n s t : Int} {l : List Kl} : pairP n (l.take 26) s t = pairP n l s t := by
  unfold pairP; rw [validP_take]

theorem s21 {n s t : Int} {sl : Value} {l : List Kl} {h : H} (hs : SlR h 59 3 sl (l.map Kl.cells)) : rn 21 #[.agg #[iv n, sl], iv s, iv t] h = some (.bool (pairP n l s t), h) := by
  have x1 : Ext h (h.new (.row [iv n, sl] 24 true)) := .new _ _
  have c1 := fun (K : Value → H → Option (Value × H)) => calls_eq (K := K) (xs := [_]) (s35 (n := n) (hs.ext x1))
  refine p21 (k := 0) (h1 := h.new (.row [iv n, sl] 24 true)) ?_ rfl x1
  simp [f21, c1, pairP]
  grind

end Go.AM

end

section

/- News. -/
namespace Go.AM
open Go.Proofs
variable {k : Nat} {R : Type}
attribute [local simp] nx_eq nx_new nx_set blk_new blk_set asI_int asK_int asB_bool asP_ptr al_eq bx_eq len_slice onE_exit onE_ret onR_ret Value.cells d3 d29 d31 d56 d24 d59 d22 w3 cell_new cell_set rd_new rd_set off eq lt le ifB gv out eqF1 eqF2 eqF3 eqF4 eqF5 eqF6 eqF7 eqF8
attribute [local simp] k73 k74 k72 k42
/-- The set of one person. -/
def bit (p : Nat) : Int := shl .i64 1 p

/-- What everybody has at first. -/
def ownP (n : Nat) : List Int := (List.range n).map bit

/-- A call is made. -/
def hearP (news : List Int) (c : Kl) : List Int :=
  let both := AM.or .i64 (news.getD c.a.toNat 0) (news.getD c.b.toNat 0)
  (news.set c.a.toNat both).set c.b.toNat both

/-- Does somebody hear something? -/
def freshP (news : List Int) (c : Kl) : Bool :=
  let both := AM.or .i64 (news.getD c.a.toNat 0) (news.getD c.b.toNat 0)
  !(news.getD c.a.toNat 0 == both) || !(news.getD c.b.toNat 0 == both)

theorem hearP_len (news : List Int) (c : Kl) : (hearP news c).length = news.length := by simp [hearP]

theorem s77 {n : Int} {sl : Value} {h : H} (hn : 0 ≤ n) (hm : n < 1000) : ∃ v h', rn 77 #[.agg #[iv n, sl]] h = some (v, h') ∧ Ext h h' ∧ AqR h.nx h' 3 1 v (cellsI (ownP n.toNat)) := by
  obtain ⟨m, rfl⟩ := Int.eq_ofNat_of_zero_le hn
  have x1 : Ext h (h.new (.row [iv m, sl] 31 true)) := .new _ _
  obtain ⟨ws', h', hl, hx, sv, hap, rfl⟩ := lp_for (F := f77_l1 rn (m + 1) m) (k := m + 1) (l := List.range m) (fun _ _ (_ : Unit) => ())
    (fun i _ ws g => Ext h g ∧ ∃ sv, AqR h.nx g 3 1 sv (cellsI (ownP i)) ∧ ws = [sv, iv i]) 0 (ws := [.slice none 0 0, iv 0]) (h := h.new (.row [iv m, sl] 31 true)) (s0 := ())
    ⟨x1, _, .nil, rfl⟩ (by simp)
    (by
      rintro _ ws g ⟨hx, sv, hap, rfl⟩
      simp [f77_l1])
    (by
      rintro i c _ ws g hc ⟨hx, sv, hap, rfl⟩
      have hi : i < m := by simpa using (List.getElem?_eq_some_iff.1 hc).1
      obtain ⟨v', h9, e9, a9, n9, k9, b9, hb9, hb9'⟩ := hap.push app25 app25 (bls25 (bit i)) rfl rfl (by simp [ownP]; omega) hx.nx
      refine ⟨[v', iv ((i : Int) + 1)], h9, ?_, ⟨by have := hx.nx; omega, fun b hb => ?_⟩, v', ?_, rfl⟩
      · simp only [f77_l1, gv, List.getD_cons_succ, List.getD_cons_zero]
        rw [asI_int, lt_t (by omega), ifB_true, asK_int, nn_ge (by omega)]
        simp only [bit] at e9
        rw [e9, asI_int, add64 (by omega) (by omega)]
        rfl
      · rw [k9 b (by have := hx.nx; omega) (fun e => by have := (hap.blkOf e).1; omega)]
        exact hx.blk b hb
      · rw [show cellsI (ownP (i + 1)) = cellsI (ownP i) ++ [[iv (bit i)]] by simp [ownP, List.range_succ]]
        exact a9)
  rw [List.length_range] at hl hap
  refine ⟨sv, h', x77 (k := m + 1) ?_ ?_, hx, ?_⟩
  · simp [f77, lp_eq hl]
  · obtain ⟨x, y, z, rfl⟩ := hap.isSl; rfl
  · simpa using hap

theorem s78 {h : H} {b : Nat} {v : Value} {news : List Int} {c : Kl} (hv : IA h b v news) (ha : 0 ≤ c.a ∧ c.a < news.length) (hb : 0 ≤ c.b ∧ c.b < news.length) :
    ∃ h', rn 78 #[v, c.val] h = some (.bool (freshP news c), h') ∧ h.nx ≤ h'.nx ∧ IA h' b v (hearP news c) ∧ ∀ i, i < h.nx → i ≠ b → h'.blk i = h.blk i := by
  have x1 := Ext.new h (.row c.cells 56 true)
  have hv1 := hv.ext x1
  have hbn := hv.lt
  have hA : news[c.a.toNat]? = some (news.getD c.a.toNat 0) := by simp [show c.a.toNat < news.length by omega]
  have hB : news[c.b.toNat]? = some (news.getD c.b.toNat 0) := by simp [show c.b.toNat < news.length by omega]
  generalize hAv : news.getD c.a.toNat 0 = A at *
  generalize hBv : news.getD c.b.toNat 0 = B at *
  have gA : ∀ (K : Value → Option (Value × H)), (six v c.a 1 fun b o => ((h.new (.row c.cells 56 true)).cell b o).bind K) = K (iv A) := fun K => hv1.get ha.1 hA K
  have gB : ∀ (K : Value → Option (Value × H)), (six v c.b 1 fun b o => ((h.new (.row c.cells 56 true)).cell b o).bind K) = K (iv B) := fun K => hv1.get hb.1 hB K
  have pA : ∀ (K : Nat → Nat → Option (Value × H)), six v c.a 1 K = K b c.a.toNat := fun K => hv1.put ha.1 (by omega) K
  have pB : ∀ (K : Nat → Nat → Option (Value × H)), six v c.b 1 K = K b c.b.toNat := fun K => hv1.put hb.1 (by omega) K
  have w1 := hv1.wrc (i := c.a.toNat) (by omega) (AM.or .i64 A B)
  have hv2 := hv1.set c.a.toNat (AM.or .i64 A B)
  have w2 := hv2.wrc (i := c.b.toNat) (by rw [List.length_set]; omega) (AM.or .i64 A B)
  have hv3 := hv2.set c.b.toNat (AM.or .i64 A B)
  have hck : fre h.nx (h.nx + 1) (0 + 1) 1 b c.a.toNat 1 = true := by
    simp only [fre, Bool.and_eq_true, decide_eq_true_eq]; omega
  have hcell : ∀ o, h.cell b o = (news.map iv)[o]? := fun o => cell_of hv.row
  have hF : f78 rn 0 v c.val h = some (.bool (freshP news c), (((h.new (.row c.cells 56 true)).set b (.row ((news.set c.a.toNat (AM.or .i64 A B)).map iv) 3 true)).set b (.row (((news.set c.a.toNat (AM.or .i64 A B)).set c.b.toNat (AM.or .i64 A B)).map iv) 3 true))) := by
    simp only [Kl.cells, List.map_set] at *
    simp [f78, pA, pB, hcell, hA, hB, w1, w2, hck, ck, freshP, hAv, hBv, Kl.cells, lt_ne hbn]
    generalize AM.or .i64 A B = C
    by_cases h1 : A = C <;> by_cases h2 : B = C <;> simp [h1, h2]
  have hn3 : h.nx ≤ (((h.new (.row c.cells 56 true)).set b (.row ((news.set c.a.toNat (AM.or .i64 A B)).map iv) 3 true)).set b (.row (((news.set c.a.toNat (AM.or .i64 A B)).set c.b.toNat (AM.or .i64 A B)).map iv) 3 true)).nx := Nat.le_succ _
  obtain ⟨q1, _, q2⟩ := trunc_blk (P := Try.prog) (v := .bool (freshP news c)) hn3
  refine ⟨_, t78 hF, q1, ?_, fun i hi hib => ?_⟩
  · have : hearP news c = (news.set c.a.toNat (AM.or .i64 A B)).set c.b.toNat (AM.or .i64 A B) := by unfold hearP; simp only [hAv, hBv]
    rw [this]
    exact ⟨hv3.val, Nat.lt_of_lt_of_le hbn q1, (q2 b hbn).trans hv3.row⟩
  · rw [q2 i hi, blk_set_ne _ _ _ hib, blk_set_ne _ _ _ hib, blk_new_ne _ _ (by omega)]

end Go.AM

end

section

/- News and Idle, as the program tells them. -/
namespace Go.AM
open Go.Proofs
variable {k : Nat} {R : Type}
attribute [local simp] nx_eq nx_new nx_set blk_new blk_set asI_int asK_int asB_bool asP_ptr al_eq bx_eq len_slice onE_exit onE_ret onR_ret Value.cells d3 d29 d31 d56 d24 d59 d22 w3 cell_new cell_set rd_new rd_set off eq lt le ifB gv out eqF1 eqF2 eqF3 eqF4 eqF5 eqF6 eqF7 eqF8
def newsP (n : Nat) (l : List Kl) : List Int := l.foldl hearP (ownP n)

theorem newsP_len (n : Nat) (l : List Kl) : (newsP n l).length = n := by
  have : ∀ (l : List Kl) (x : List Int), (l.foldl hearP x).length = x.length := by
    intro l
    induction l with
    | nil => intro x; rfl
    | cons c l ih => intro x; rw [List.foldl_cons, ih, hearP_len]
  rw [newsP, this]
  simp [ownP]

theorem ok_range {n : Int} {l : List Kl} (hv : validP n l = true) {i : Nat} {c : Kl} (hc : l[i]? = some c) : (0 ≤ c.a ∧ c.a < n) ∧ (0 ≤ c.b ∧ c.b < n) := by
  have := okC_iff.1 ((validP_ok hv).2.2.2 i c hc)
  exact ⟨this.1, this.2.1⟩

/-- What a call reads of its log. -/
theorem k71 {n : Int} {sl : Value} {l : List Kl} {h : H} (hs : SlR h 56 3 sl (l.map Kl.cells)) (K : Value → H → Option R) : calls rn h 71 [.agg #[iv n, sl]] K = K (.bool (validP n l)) h := calls_eq (s71 hs)

theorem s37_bad {n : Int} {sl : Value} {l : List Kl} {h : H} (hs : SlR h 56 3 sl (l.map Kl.cells)) (hv : validP n l = false) : ∃ h', rn 37 #[.agg #[iv n, sl]] h = some (.tuple #[.slice none 0 0, iv 2], h') ∧ Ext h h' := by
  have x1 : Ext h (h.new (.row [iv n, sl] 31 true)) := .new _ _
  refine ⟨h.new (.row [iv n, sl] 31 true), x37 (k := 0) ?_ rfl, x1⟩
  simp [f37, k71 (hs.ext x1), hv]

theorem s39_bad {n : Int} {sl : Value} {l : List Kl} {h : H} (hs : SlR h 56 3 sl (l.map Kl.cells)) (hv : validP n l = false) : ∃ h', rn 39 #[.agg #[iv n, sl]] h = some (.tuple #[.slice none 0 0, iv 2], h') ∧ Ext h h' := by
  have x1 : Ext h (h.new (.row [iv n, sl] 31 true)) := .new _ _
  refine ⟨h.new (.row [iv n, sl] 31 true), x39 (k := 0) ?_ rfl, x1⟩
  simp [f39, k71 (hs.ext x1), hv]

theorem s37 {n : Int} {sl : Value} {l : List Kl} {h : H} (hs : SlR h 56 3 sl (l.map Kl.cells)) (hv : validP n l = true) :
    ∃ v h', rn 37 #[.agg #[iv n, sl]] h = some (.tuple #[v, iv 0], h') ∧ Ext h h' ∧ SlR h' 3 1 v (cellsI (newsP n.toNat l)) := by
  obtain ⟨hn1, hn7, hl24, hok⟩ := validP_ok hv
  have x1 : Ext h (h.new (.row [iv n, sl] 31 true)) := .new _ _
  have hs1 := hs.ext x1
  obtain ⟨v4, h3, e77, x3, a3⟩ := s77 (n := n) (sl := sl) (h := h.new (.row [iv n, sl] 31 true)) (by omega) (by omega)
  obtain ⟨b, hlo, _, hia⟩ := a3.ia (by simp [ownP]; omega)
  have x03 := x1.trans x3
  have hb3 : h3.blk h.nx = some (.row [iv n, sl] 31 true) := (x3.blk _ (Nat.lt_succ_self _)).trans (blk_new_self _ _)
  have hbn : h.nx < b := by rw [nx_new] at hlo; omega
  obtain ⟨ws', h', hl, hx, hiaN, hlen, rfl⟩ := lp_for (F := f37_l1 rn (l.length + 1) v4 sl l.length) (k := l.length + 1) (l := l) (fun _ c (s : List Int) => hearP s c)
    (fun i s ws g => Ext h g ∧ IA g b v4 s ∧ s.length = n.toNat ∧ ws = [iv i]) 0 (ws := [iv 0]) (h := h3) (s0 := ownP n.toNat)
    ⟨x03, hia, by simp [ownP], rfl⟩ (by omega)
    (by
      rintro s ws g ⟨hx, hi, hlen, rfl⟩
      simp [f37_l1])
    (by
      rintro i c s ws g hc ⟨hx, hi, hlen, rfl⟩
      have hil := (List.getElem?_eq_some_iff.1 hc).1
      obtain ⟨ha, hb⟩ := ok_range hv hc
      have y7 := (Ext.refl g).fresh 56 [iv 0, iv 0, iv 0] c.cells
      have hcb := blk_fresh g 56 [iv 0, iv 0, iv 0] c.cells
      have n7 : (g.fresh 56 [iv 0, iv 0, iv 0] c.cells).nx = g.nx + 1 := rfl
      obtain ⟨h8, e8, n8, i8, f8⟩ := s78 (c := c) (hi.ext y7) (by rw [hlen]; omega) (by rw [hlen]; omega)
      have hbl := hi.lt
      refine ⟨[iv ((i : Int) + 1)], h8, ?_, ⟨by have := hx.nx; omega, fun q hq => ?_⟩, i8, by rw [hearP_len]; exact hlen, rfl⟩
      · unfold f37_l1
        rw [show gv [iv i] 0 = iv i from rfl, asI_int, lt_t (by omega), ifB_true, asK_int, (hs.ext hx).ldA ag56 sz56 (by omega) (x := c.cells) (by simp [hc])]
        rw [al_st (zs := [iv 0, iv 0, iv 0]) (xs := c.cells) sz56 rfl rfl, nx_eq, d56, rd_all (n := 3) hcb rfl]
        rw [Option.bind_some, calls_eq (show rn 78 [v4, Value.agg c.cells.toArray].toArray _ = _ from e8), asB_bool, asI_int, add64 (by omega) (by omega)]
        rfl
      · rw [f8 q (by have := hx.nx; omega) (by omega), y7.blk q (by have := hx.nx; omega), hx.blk q hq])
  rw [foldI_foldl] at hiaN
  refine ⟨v4, h', x37 (k := l.length + 1) ?_ (by obtain ⟨c, hc, _⟩ := hiaN.val; rw [hc]; rfl), hx, hiaN.slR⟩
  have c77 := fun (K : Value → H → Option (Value × H)) => calls_eq (K := K) (xs := [_]) e77
  simp [f37, k71 hs1, hv, c77, cell_of hb3, hs.len, lp_eq hl]

/-- The calls in which nobody hears anything. -/
def idleG (i : Nat) (c : Kl) (s : List Int × List Int) : List Int × List Int := (hearP s.1 c, if freshP s.1 c = true then s.2 else s.2 ++ [(i : Int)])

def idleP (n : Nat) (l : List Kl) : List Int := (foldI idleG l 0 (ownP n, [])).2

theorem s39 {n : Int} {sl : Value} {l : List Kl} {h : H} (hs : SlR h 56 3 sl (l.map Kl.cells)) (hv : validP n l = true) :
    ∃ v h', rn 39 #[.agg #[iv n, sl]] h = some (.tuple #[v, iv 0], h') ∧ Ext h h' ∧ SlR h' 3 1 v (cellsI (idleP n.toNat l)) := by
  obtain ⟨hn1, hn7, hl24, hok⟩ := validP_ok hv
  have x1 : Ext h (h.new (.row [iv n, sl] 31 true)) := .new _ _
  have hs1 := hs.ext x1
  obtain ⟨v4, h3, e77, x3, a3⟩ := s77 (n := n) (sl := sl) (h := h.new (.row [iv n, sl] 31 true)) (by omega) (by omega)
  obtain ⟨b, hlo, _, hia⟩ := a3.ia (by simp [ownP]; omega)
  have x03 := x1.trans x3
  have hb3 : h3.blk h.nx = some (.row [iv n, sl] 31 true) := (x3.blk _ (Nat.lt_succ_self _)).trans (blk_new_self _ _)
  have hbn : h.nx < b := by rw [nx_new] at hlo; omega
  obtain ⟨ws', h', hl, hx, hiaN, hlen, ho, sv, hap, hne, rfl⟩ := lp_for (F := f39_l1 rn (l.length + 1) v4 sl l.length) (k := l.length + 1) (l := l) idleG
    (fun i s ws g => Ext h g ∧ IA g b v4 s.1 ∧ s.1.length = n.toNat ∧ s.2.length ≤ i ∧ ∃ sv, AqR h.nx g 3 1 sv (cellsI s.2) ∧ blkOf sv ≠ some b ∧ ws = [sv, iv i]) 0 (ws := [.slice none 0 0, iv 0]) (h := h3) (s0 := (ownP n.toNat, []))
    ⟨x03, hia, by simp [ownP], Nat.le_refl _, _, .nil, by simp [blkOf], rfl⟩ (by omega)
    (by
      rintro s ws g ⟨hx, hi, hlen, ho, sv, hap, hne, rfl⟩
      simp [f39_l1])
    (by
      rintro i c ⟨s1, s2⟩ ws g hc ⟨hx, hi, hlen, ho, sv, hap, hne, rfl⟩
      simp only at hi hlen ho hap
      have hil := (List.getElem?_eq_some_iff.1 hc).1
      obtain ⟨ha, hb⟩ := ok_range hv hc
      have y7 := (Ext.refl g).fresh 56 [iv 0, iv 0, iv 0] c.cells
      have hcb := blk_fresh g 56 [iv 0, iv 0, iv 0] c.cells
      have n7 : (g.fresh 56 [iv 0, iv 0, iv 0] c.cells).nx = g.nx + 1 := rfl
      obtain ⟨h8, e8, n8, i8, f8⟩ := s78 (c := c) (hi.ext y7) (by rw [hlen]; omega) (by rw [hlen]; omega)
      have hbl := hi.lt
      have x8 : Ext h h8 := ⟨by have := hx.nx; omega, fun q hq => by rw [f8 q (by have := hx.nx; omega) (by omega), y7.blk q (by have := hx.nx; omega), hx.blk q hq]⟩
      have a8 : AqR h.nx h8 3 1 sv (cellsI s2) := hap.keep (by omega) fun q hq => by
        have := (hap.blkOf hq).2.1
        rw [f8 q (by omega) (fun e => hne (e ▸ hq)), y7.blk q this]
      have start : f39_l1 rn (l.length + 1) v4 sl l.length [sv, iv i] g = (if freshP s1 c = true then some (.normal, [sv, iv ((i : Int) + 1)], h8) else
          bls Try.prog h8 25 1 [(0, iv i)] fun v9 h8 => app Try.prog h8 25 25 sv v9 fun v10 h9 => some (.normal, [v10, iv ((i : Int) + 1)], h9)) := by
        unfold f39_l1
        rw [show gv [sv, iv i] 1 = iv i from rfl, show gv [sv, iv i] 0 = sv from rfl, asI_int, lt_t (by omega), ifB_true, asK_int, (hs.ext hx).ldA ag56 sz56 (by omega) (x := c.cells) (by simp [hc])]
        rw [al_st (zs := [iv 0, iv 0, iv 0]) (xs := c.cells) sz56 rfl rfl, nx_eq, d56, rd_all (n := 3) hcb rfl]
        rw [Option.bind_some, calls_eq (show rn 78 [v4, Value.agg c.cells.toArray].toArray _ = _ from e8), asB_bool]
        cases freshP s1 c with
        | true => simp; rw [add64 (by omega) (by omega)]
        | false => simp; rw [add64 (by omega) (by omega)]
      rw [start]
      cases hf : freshP s1 c with
      | true =>
        refine ⟨[sv, iv ((i : Int) + 1)], h8, by simp, x8, by simpa [idleG] using i8, by simp only [idleG]; rw [hearP_len]; exact hlen, by simp [idleG, hf]; omega, sv, by simpa [idleG, hf] using a8, hne, rfl⟩
      | false =>
        obtain ⟨v', h9, e9, a9, n9, k9, b9, hb9, hb9'⟩ := a8.push app25 app25 (bls25 (i : Int)) rfl rfl (by simp; omega) x8.nx
        refine ⟨[v', iv ((i : Int) + 1)], h9, by simp [e9], ⟨by have := x8.nx; omega, fun q hq => ?_⟩, ?_, by simp only [idleG]; rw [hearP_len]; exact hlen, by simp [idleG, hf]; omega, v', ?_, ?_, rfl⟩
        · rw [k9 q (by have := x8.nx; omega) (fun e => by have := (a8.blkOf e).1; omega)]
          exact x8.blk q hq
        · simp only [idleG]
          exact i8.keep n9 (k9 b i8.lt hne)
        · simpa [idleG, hf] using a9
        · rw [hb9]
          intro e
          cases e
          have := i8.lt
          omega)
  refine ⟨sv, h', x39 (k := l.length + 1) ?_ (by obtain ⟨x, y, z, hz⟩ := hap.isSl; rw [hz]; rfl), hx, hap.slR⟩
  have c77 := fun (K : Value → H → Option (Value × H)) => calls_eq (K := K) (xs := [_]) e77
  simp [f39, k71 hs1, hv, c77, cell_of hb3, hs.len, lp_eq hl]

end Go.AM

end

section

/- Spread, as the program tells it. -/
namespace Go.AM
open Go.Proofs
variable {k : Nat} {R : Type}
attribute [local simp] nx_eq nx_new nx_set blk_new blk_set asI_int asK_int asB_bool asP_ptr al_eq bx_eq len_slice onE_exit onE_ret onR_ret Value.cells d3 d29 d31 d56 d24 d59 d22 w3 cell_new cell_set rd_new rd_set off eq lt le ifB gv out eqF1 eqF2 eqF3 eqF4 eqF5 eqF6 eqF7 eqF8
attribute [local simp] k73 k74 k72 k42
/-- Is a person in a set? -/
def inP (s p : Int) : Bool := AM.and .i64 (shr .i64 s p) 1 == 1

/-- Who has heard after a call. -/
def nowP (now : Int) (c : Kl) : Int := if inP now c.a = true ∨ inP now c.b = true then AM.or .i64 now (AM.or .i64 (shl .i64 1 c.a) (shl .i64 1 c.b)) else now

/-- Is a call the last one of its time? -/
def lastP (l : List Kl) (i : Nat) (c : Kl) : Bool := decide (i + 1 = l.length) || (l[i + 1]?).any fun d => decide (c.t < d.t)

def spreadG (l : List Kl) (i : Nat) (c : Kl) (s : Int × List Int) : Int × List Int := (nowP s.1 c, if lastP l i c = true then s.2 ++ [nowP s.1 c] else s.2)

def spreadP (l : List Kl) (p : Int) : List Int := (foldI (spreadG l) l 0 (shl .i64 1 p, [shl .i64 1 p])).2

theorem s38_bad {n s : Int} {sl : Value} {l : List Kl} {h : H} (hs : SlR h 56 3 sl (l.map Kl.cells)) (hv : (validP n l && decide (0 ≤ s ∧ s < n)) = false) : ∃ h', rn 38 #[.agg #[iv n, sl], iv s] h = some (.tuple #[.slice none 0 0, iv 2], h') ∧ Ext h h' := by
  have x1 : Ext h (h.new (.row [iv n, sl] 31 true)) := .new _ _
  refine ⟨h.new (.row [iv n, sl] 31 true), x38 (k := 0) ?_ rfl, x1⟩
  cases h1 : validP n l with
  | false => simp [f38, k71 (hs.ext x1), h1]
  | true =>
    have : ¬ (0 ≤ s ∧ s < n) := by simpa [h1] using hv
    have hd : decide (0 ≤ s ∧ s < n) = false := decide_eq_false this
    simp only [f38, nx_eq, bx_eq, d31, cell_new, rd_new, Value.cells, k71 (hs.ext x1), h1, k72, hd]
    simp [k71 (hs.ext x1), h1]
    grind

theorem s38 {n p : Int} {sl : Value} {l : List Kl} {h : H} (hs : SlR h 56 3 sl (l.map Kl.cells)) (hv : validP n l = true) (hp : 0 ≤ p ∧ p < n) :
    ∃ v h', rn 38 #[.agg #[iv n, sl], iv p] h = some (.tuple #[v, iv 0], h') ∧ Ext h h' ∧ SlR h' 3 1 v (cellsI (spreadP l p)) := by
  obtain ⟨hn1, hn7, hl24, hok⟩ := validP_ok hv
  have x1 : Ext h (h.new (.row [iv n, sl] 31 true)) := .new _ _
  have x2 := Ext.new (h.new (.row [iv n, sl] 31 true)) (.row [iv (shl .i64 1 p)] 3 true)
  have x12 := x1.trans x2
  have hb2 : ((h.new (.row [iv n, sl] 31 true)).new (.row [iv (shl .i64 1 p)] 3 true)).blk h.nx = some (.row [iv n, sl] 31 true) := (x2.blk _ (Nat.lt_succ_self _)).trans (blk_new_self _ _)
  have a2 : AqR h.nx ((h.new (.row [iv n, sl] 31 true)).new (.row [iv (shl .i64 1 p)] 3 true)) 3 1 (.slice (some ⟨h.nx + 1, 0, none⟩) 1 1) (cellsI [shl .i64 1 p]) :=
    AqR.lit (l := cellsI [shl .i64 1 p]) (by simp [nx_new]) rfl (by simp) (by simp)
  obtain ⟨ws', h', hl, hx, ho, sv, hap, rfl⟩ := lp_for (F := f38_l1 rn (l.length + 1) h sl l.length) (k := l.length + 1) (l := l) (spreadG l)
    (fun i s ws g => Ext ((h.new (.row [iv n, sl] 31 true))) g ∧ s.2.length ≤ i + 1 ∧ ∃ sv, AqR (h.nx + 1) g 3 1 sv (cellsI s.2) ∧ ws = [iv s.1, sv, iv i]) 0 (ws := [iv (shl .i64 1 p), .slice (some ⟨h.nx + 1, 0, none⟩) 1 1, iv 0]) (h := (h.new (.row [iv n, sl] 31 true)).new (.row [iv (shl .i64 1 p)] 3 true)) (s0 := (shl .i64 1 p, [shl .i64 1 p]))
    ⟨x2, Nat.le_refl _, _, AqR.lit (l := cellsI [shl .i64 1 p]) (by simp [nx_new]) rfl (by simp) (by simp), rfl⟩ (by omega)
    (by
      rintro s ws g ⟨hx, ho, sv, hap, rfl⟩
      simp [f38_l1])
    (by
      rintro i c ⟨s1, s2⟩ ws g hc ⟨hx, ho, sv, hap, rfl⟩
      simp only at ho hap
      have hil := (List.getElem?_eq_some_iff.1 hc).1
      obtain ⟨ha, hb⟩ := ok_range hv hc
      have y7 := (Ext.refl g).fresh 56 [iv 0, iv 0, iv 0] c.cells
      have hcb := blk_fresh g 56 [iv 0, iv 0, iv 0] c.cells
      have hs7 := hs.ext (x1.trans (hx.trans y7))
      have hb7 : (g.fresh 56 [iv 0, iv 0, iv 0] c.cells).blk h.nx = some (.row [iv n, sl] 31 true) := ((hx.trans y7).blk _ (Nat.lt_succ_self _)).trans (blk_new_self _ _)
      have x7 := hx.trans y7
      have a7 := hap.ext y7
      have start : f38_l1 rn (l.length + 1) h sl l.length [iv s1, sv, iv i] g = (if lastP l i c = true then
          (bls Try.prog (g.fresh 56 [iv 0, iv 0, iv 0] c.cells) 25 1 [(0, iv (nowP s1 c))] fun v9 h8 => app Try.prog h8 25 25 sv v9 fun v10 h9 => some (.normal, [iv (nowP s1 c), v10, iv ((i : Int) + 1)], h9)) else
          some (.normal, [iv (nowP s1 c), sv, iv ((i : Int) + 1)], g.fresh 56 [iv 0, iv 0, iv 0] c.cells)) := by
        unfold f38_l1
        rw [show gv [iv s1, sv, iv i] 2 = iv i from rfl, show gv [iv s1, sv, iv i] 1 = sv from rfl, show gv [iv s1, sv, iv i] 0 = iv s1 from rfl, asI_int, lt_t (by omega), ifB_true, asK_int, (hs.ext (x1.trans hx)).ldA ag56 sz56 (by omega) (x := c.cells) (by simp [hc])]
        rw [al_st (zs := [iv 0, iv 0, iv 0]) (xs := c.cells) sz56 rfl rfl]
        generalize g.fresh 56 [iv 0, iv 0, iv 0] c.cells = h7 at *
        simp only [Kl.cells] at hcb
        have hlen : ∀ (K : Int → Option (Ex × List Value × H)), len sl K = K l.length := fun K => by rw [hs.len, List.length_map]
        have hadd : add .i64 (i : Int) 1 = (i : Int) + 1 := add64 (by omega) (by omega)
        by_cases hlast : i + 1 = l.length
        · have e1 : ((i : Int) + 1 = (l.length : Int)) = True := eq_true (by omega)
          simp [cell_of hcb, cell_of hb7, nn_ge ha.1, nn_ge hb.1, hlen, hadd, e1, lastP, hlast, nowP, inP]
          grind
        · have e1 : ((i : Int) + 1 = (l.length : Int)) = False := eq_false (by omega)
          have hd : l[i + 1]? = some l[i + 1] := List.getElem?_eq_getElem (by omega)
          have hnext : ∀ (K : Value → Option (Ex × List Value × H)), (six sl ((i : Int) + 1) 3 fun b o => (h7.cell b (o + 2)).bind K) = K (iv (l[i + 1]).t) := fun K =>
            hs7.cF (by omega) (x := (l[i + 1]).cells) (by rw [show ((i : Int) + 1).toNat = i + 1 by omega]; simp [hd]) rfl K
          simp [cell_of hcb, cell_of hb7, nn_ge ha.1, nn_ge hb.1, hlen, hadd, e1, lastP, hlast, nowP, inP, hnext, hd]
          grind
      rw [start]
      cases hf : lastP l i c with
      | false =>
        exact ⟨[iv (nowP s1 c), sv, iv ((i : Int) + 1)], _, by simp, x7, by simp [spreadG, hf]; omega, sv, by simpa [spreadG, hf] using a7, by simp [spreadG]⟩
      | true =>
        obtain ⟨v', h9, e9, a9, n9, k9, b9, hb9, hb9'⟩ := a7.push app25 app25 (bls25 (nowP s1 c)) rfl rfl (by simp; omega) x7.nx
        refine ⟨[iv (nowP s1 c), v', iv ((i : Int) + 1)], h9, by simp [e9], ⟨by have := x7.nx; omega, fun q hq => ?_⟩, by simp [spreadG, hf]; omega, v', by simpa [spreadG, hf] using a9, by simp [spreadG]⟩
        rw [k9 q (by have := x7.nx; omega) (fun e => by have := (a7.blkOf e).1; rw [nx_new] at hq; omega)]
        exact x7.blk q hq)
  refine ⟨sv, h', x38 (k := l.length + 1) ?_ (by obtain ⟨x, y, z, hz⟩ := hap.isSl; rw [hz]; rfl), x1.trans hx, hap.slR⟩
  have hd : decide (0 ≤ p ∧ p < n) = true := decide_eq_true hp
  have kbls : ∀ (K : Value → H → Option (Value × H)), bls Try.prog (h.new (.row [iv n, sl] 31 true)) 25 1 [(0, .int .i64 (shl .i64 1 p))] K = K (.slice (some ⟨h.nx + 1, 0, none⟩) 1 1) ((h.new (.row [iv n, sl] 31 true)).new (.row [iv (shl .i64 1 p)] 3 true)) := fun K => bls_some (bls25 (shl .i64 1 p) (h.new (.row [iv n, sl] 31 true)))
  simp [f38, k71 (hs.ext x1), hv, nn_ge hp.1, hp, kbls, hs.len, lp_eq hl]

end Go.AM

end

section

/- What the document says of news: Idle, and all that is heard. -/
namespace Go.AM
open Go.Proofs
variable {k : Nat} {R : Type}
attribute [local simp] nx_eq nx_new nx_set blk_new blk_set asI_int asK_int asB_bool asP_ptr al_eq bx_eq len_slice onE_exit onE_ret onR_ret Value.cells d3 d29 d31 d56 d24 d59 d22 d25 w3 cell_new cell_set rd_new rd_set off eq lt le ifB gv out eqF1 eqF2 eqF3 eqF4 eqF5 eqF6 eqF7 eqF8
theorem zero3 : zero? Try.prog 3 = some (iv 0) := by kernel_rfl

theorem set_bits (n i : Nat) (hi : i < n) : ((ownP i ++ List.replicate (n - i) 0).set i (bit i)) = ownP (i + 1) ++ List.replicate (n - (i + 1)) 0 := by
  have hl : (ownP i).length = i := by simp [ownP]
  rw [List.set_append_right _ _ (by omega), hl, Nat.sub_self]
  have : n - i = (n - (i + 1)) + 1 := by omega
  rw [this, List.replicate_succ, List.set_cons_zero]
  rw [show ownP (i + 1) = ownP i ++ [bit i] by simp [ownP, List.range_succ]]
  simp

/-- The loop that sets everybody's own news. -/
theorem own_loop {F : List Value → H → Option (Ex × List Value × H)} {n b : Nat} {h : H} {v : Value} (hn : n < 1000) (hv : IA h b v (List.replicate n 0))
    (hF : ∀ (ws : List Value) (g : H), F ws g = asI .i64 (gv ws 0) fun n2 => ifB (lt n2 n) (asK (gv ws 0) fun n3 => nn n3 (asK (gv ws 0) fun n4 => six v n4 1 fun b0 b1 => st Try.prog g 3 b0 b1 (.int .i64 (shl .i64 1 n3)) fun h4 =>
      asI .i64 (gv ws 0) fun n5 => out .normal [(.int .i64 (add .i64 n5 1))] h4)) (out (.exit 0) [gv ws 0] g)) :
    ∃ ws' h', lpGo F (n + 1) [iv 0] h = some (.exit 0, ws', h') ∧ h'.nx = h.nx ∧ (∀ q, q < h.nx → q ≠ b → h'.blk q = h.blk q) ∧ IA h' b v (ownP n) := by
  obtain ⟨ws', h', hl, hx, hf, hi, _⟩ := lp_for (F := F) (k := n + 1) (l := List.range n) (fun _ _ (_ : Unit) => ())
    (fun i _ ws g => g.nx = h.nx ∧ (∀ q, q < h.nx → q ≠ b → g.blk q = h.blk q) ∧ IA g b v (ownP i ++ List.replicate (n - i) 0) ∧ ws = [iv i]) 0 (ws := [iv 0]) (h := h) (s0 := ())
    ⟨rfl, fun _ _ _ => rfl, by simpa [ownP] using hv, rfl⟩ (by simp)
    (by
      rintro _ ws g ⟨hx, hf, hi, rfl⟩
      rw [hF]
      simp)
    (by
      rintro i c _ ws g hc ⟨hx, hf, hi, rfl⟩
      have hin : i < n := by simpa using (List.getElem?_eq_some_iff.1 hc).1
      have hlen : (ownP i ++ List.replicate (n - i) 0).length = n := by simp [ownP]; omega
      have w := hi.wrc (i := i) (by omega) (bit i)
      refine ⟨[iv ((i : Int) + 1)], g.set b (.row (((ownP i ++ List.replicate (n - i) 0).set i (bit i)).map iv) 3 true), ?_, ?_, ?_, ?_, rfl⟩
      · rw [hF]
        rw [show gv [iv i] 0 = iv i from rfl, asI_int, lt_t (by omega), ifB_true, asK_int, nn_ge (by omega), asK_int, hi.put (by omega) (by omega), Int.toNat_natCast, w3]
        simp only [bit] at w ⊢
        rw [w, Option.bind_some, asI_int, add64 (by omega) (by omega)]
        rfl
      · rw [nx_set]; exact hx
      · intro q hq hne
        rw [blk_set_ne _ _ _ hne]
        exact hf q hq hne
      · have := hi.set i (bit i)
        rw [set_bits n i hin] at this ⊢
        exact this)
  rw [List.length_range] at hi
  exact ⟨ws', h', hl, hx, hf, by simpa using hi⟩

/-- What both of a call know then. -/
def bothP (s : List Int) (c : Kl) : Int := AM.or .i64 (s.getD c.a.toNat 0) (s.getD c.b.toNat 0)

theorem hear_wr {g : H} {b : Nat} {v : Value} {s : List Int} {c : Kl} (hi : IA g b v s) (ha : 0 ≤ c.a ∧ c.a < s.length) (hb : 0 ≤ c.b ∧ c.b < s.length) :
    ∃ g', g'.nx = g.nx ∧ (∀ q, q ≠ b → g'.blk q = g.blk q) ∧ IA g' b v (hearP s c) ∧
      ∀ {R : Type} (K : H → Option R), ((wrc 1 g b c.a.toNat (.int .i64 (bothP s c))).bind fun h3 => (wrc 1 h3 b c.b.toNat (.int .i64 (bothP s c))).bind K) = K g' := by
  have w1 := hi.wrc (i := c.a.toNat) (by omega) (bothP s c)
  have i1 := hi.set c.a.toNat (bothP s c)
  have w2 := i1.wrc (i := c.b.toNat) (by rw [List.length_set]; omega) (bothP s c)
  have i2 := i1.set c.b.toNat (bothP s c)
  exact ⟨_, by rw [nx_set, nx_set], fun q hq => by rw [blk_set_ne _ _ _ hq, blk_set_ne _ _ _ hq], i2, fun K => by rw [w1, Option.bind_some, w2, Option.bind_some]⟩

theorem fresh_iff (s : List Int) (c : Kl) : freshP s c = !(decide (s.getD c.a.toNat 0 = bothP s c) && decide (s.getD c.b.toNat 0 = bothP s c)) := by
  unfold freshP bothP
  simp only [Bool.not_and]
  congr 1

theorem s41 {n : Int} {sl : Value} {l : List Kl} {h : H} (hs : SlR h 59 3 sl (l.map Kl.cells)) (hv : validP n l = true) :
    ∃ v h', rn 41 #[.agg #[iv n, sl]] h = some (v, h') ∧ Ext h h' ∧ SlR h' 3 1 v (cellsI (idleP n.toNat l)) := by
  obtain ⟨hn1, hn7, hl24, hok⟩ := validP_ok hv
  obtain ⟨m, rfl⟩ := Int.eq_ofNat_of_zero_le (show 0 ≤ n by omega)
  have x1 : Ext h (h.new (.row [iv m, sl] 24 true)) := .new _ _
  have x2 := Ext.new (h.new (.row [iv m, sl] 24 true)) (.row ((List.replicate m 0).map iv) 3 true)
  have i2 : IA ((h.new (.row [iv m, sl] 24 true)).new (.row ((List.replicate m 0).map iv) 3 true)) (h.nx + 1) (.slice (some ⟨h.nx + 1, 0, none⟩) m m) (List.replicate m 0) := ia_new (by omega) (by simp)
  obtain ⟨ws1, h5, hl1, n5, f5, i5⟩ := own_loop (F := f41_l1 rn (max l.length m + 1) (.slice (some ⟨h.nx + 1, 0, none⟩) m m) m) (n := m) (by omega) i2 (fun _ _ => rfl)
  have hl1' := lpGo_mono hl1 (show m + 1 ≤ max l.length m + 1 by omega)
  have x5 : Ext h h5 := ⟨by rw [n5]; simp only [nx_new]; omega, fun q hq => by rw [f5 q (by simp only [nx_new]; omega) (by omega)]; exact (x1.trans x2).blk q hq⟩
  have hb5 : h5.blk h.nx = some (.row [iv m, sl] 24 true) := (f5 h.nx (by simp only [nx_new]; omega) (by omega)).trans ((x2.blk _ (Nat.lt_succ_self _)).trans (blk_new_self _ _))
  generalize hvv : Value.slice (some ⟨h.nx + 1, 0, none⟩) m m = v2 at *
  obtain ⟨ws', h', hl, hx, hiaN, hlen, ho, sv, hap, hne, rfl⟩ := lp_for (F := f41_l2 rn (max l.length m + 1) v2 sl l.length) (k := max l.length m + 1) (l := l) idleG
    (fun i s ws g => Ext h g ∧ IA g (h.nx + 1) v2 s.1 ∧ s.1.length = m ∧ s.2.length ≤ i ∧ ∃ sv, AqR h.nx g 3 1 sv (cellsI s.2) ∧ blkOf sv ≠ some (h.nx + 1) ∧ ws = [sv, iv i]) 2 (ws := [.slice none 0 0, iv 0]) (h := h5) (s0 := (ownP m, []))
    ⟨x5, i5, by simp [ownP], Nat.le_refl _, _, .nil, by simp [blkOf], rfl⟩ (by omega)
    (by
      rintro s ws g ⟨hx, hi, hlen, ho, sv, hap, hne, rfl⟩
      simp [f41_l2])
    (by
      rintro i c ⟨s1, s2⟩ ws g hc ⟨hx, hi, hlen, ho, sv, hap, hne, rfl⟩
      simp only at hi hlen ho hap
      have hil := (List.getElem?_eq_some_iff.1 hc).1
      obtain ⟨ha, hb⟩ := ok_range hv hc
      have y7 := (Ext.refl g).fresh 59 [iv 0, iv 0, iv 0] c.cells
      have hcb := blk_fresh g 59 [iv 0, iv 0, iv 0] c.cells
      have n7 : (g.fresh 59 [iv 0, iv 0, iv 0] c.cells).nx = g.nx + 1 := rfl
      have i7 := hi.ext y7
      have a7 := hap.ext y7
      have hbl := hi.lt
      have hA : s1[c.a.toNat]? = some (s1.getD c.a.toNat 0) := by simp [show c.a.toNat < s1.length by omega]
      have hB : s1[c.b.toNat]? = some (s1.getD c.b.toNat 0) := by simp [show c.b.toNat < s1.length by omega]
      have x7 := hx.trans y7
      have pA : ∀ (K : Nat → Nat → Option (Ex × List Value × H)), six v2 c.a 1 K = K (h.nx + 1) c.a.toNat := fun K => i7.put ha.1 (by omega) K
      have pB : ∀ (K : Nat → Nat → Option (Ex × List Value × H)), six v2 c.b 1 K = K (h.nx + 1) c.b.toNat := fun K => i7.put hb.1 (by omega) K
      have hcell : ∀ o, (g.fresh 59 [iv 0, iv 0, iv 0] c.cells).cell (h.nx + 1) o = (s1.map iv)[o]? := fun o => cell_of i7.row
      have hadd : add .i64 (i : Int) 1 = (i : Int) + 1 := add64 (by omega) (by omega)
      have hor : AM.or .i64 (s1.getD c.a.toNat 0) (s1.getD c.b.toNat 0) = bothP s1 c := rfl
      have hfr := fresh_iff s1 c
      unfold f41_l2
      rw [show gv [sv, iv i] 1 = iv i from rfl, show gv [sv, iv i] 0 = sv from rfl, asI_int, lt_t (by omega), ifB_true, asK_int, (hs.ext hx).ldA ag59 sz59 (by omega) (x := c.cells) (by simp [hc])]
      rw [al_st (zs := [iv 0, iv 0, iv 0]) (xs := c.cells) sz59 rfl rfl]
      generalize hG : g.fresh 59 [iv 0, iv 0, iv 0] c.cells = h7 at *
      cases hf : freshP s1 c with
      | true =>
        obtain ⟨g', n', f', i', e'⟩ := hear_wr (c := c) i7 (by omega) (by omega)
        have hck : ∀ o : Nat, fre g.nx h7.nx 1 1 (h.nx + 1) o 1 = true := fun o => by simp only [fre, Bool.and_eq_true, decide_eq_true_eq]; omega
        refine ⟨[sv, iv ((i : Int) + 1)], g', ?_, ⟨by have := x7.nx; omega, fun q hq => by rw [f' q (by omega)]; exact x7.blk q hq⟩, by simpa [idleG] using i', by simp only [idleG]; rw [hearP_len]; exact hlen, by simp [idleG, hf]; omega, sv, ?_, hne, rfl⟩
        · simp only [Kl.cells] at hcb
          rw [hf] at hfr
          generalize s1.getD c.a.toNat 0 = A at *
          generalize s1.getD c.b.toNat 0 = B at *
          simp [cell_of hcb, pA, pB, hcell, hA, hB, hck, ck, hadd, hor, e']
          grind
        · simp only [idleG, hf, if_true]
          exact a7.keep (by omega) fun q hq => f' q (fun e => hne (e ▸ hq))
      | false =>
        obtain ⟨v', h9, e9, a9, n9, k9, b9, hb9, hb9'⟩ := a7.push app25 app25 (bls25 (i : Int)) rfl rfl (by simp; omega) x7.nx
        have i9 := i7.keep n9 (k9 _ i7.lt hne)
        have hcb9 : h9.blk g.nx = some (.row c.cells 59 true) := (k9 g.nx (by omega) (fun e => by have := (hap.blkOf e).2.1; omega)).trans hcb
        obtain ⟨g', n', f', i', e'⟩ := hear_wr (c := c) i9 (by omega) (by omega)
        have hck : ∀ o : Nat, fre g.nx h9.nx 1 1 (h.nx + 1) o 1 = true := fun o => by simp only [fre, Bool.and_eq_true, decide_eq_true_eq]; omega
        refine ⟨[v', iv ((i : Int) + 1)], g', ?_, ⟨by have := x7.nx; omega, fun q hq => ?_⟩, by simpa [idleG] using i', by simp only [idleG]; rw [hearP_len]; exact hlen, by simp [idleG, hf]; omega, v', ?_, ?_, rfl⟩
        · simp only [Kl.cells] at hcb hcb9
          rw [hf] at hfr
          generalize s1.getD c.a.toNat 0 = A at *
          generalize s1.getD c.b.toNat 0 = B at *
          have hAB : A = bothP s1 c ∧ B = bothP s1 c := by simpa using hfr
          obtain ⟨h1, h2⟩ := hAB
          subst h1
          subst h2
          simp [cell_of hcb, cell_of hcb9, pA, pB, hcell, hA, hB, hck, ck, hadd, hor, e', e9]
        · rw [f' q (by omega), k9 q (by have := x7.nx; omega) (fun e => by have := (a7.blkOf e).1; omega)]
          exact x7.blk q hq
        · have := a9.keep (h' := g') (by omega) fun q hq => f' q (fun e => by rw [hb9] at hq; cases hq; omega)
          simpa [idleG, hf] using this
        · rw [hb9]
          intro e
          cases e
          omega)
  refine ⟨sv, h', x41 (k := max l.length m + 1) ?_ (by obtain ⟨x, y, z, hz⟩ := hap.isSl; rw [hz]; rfl), hx, hap.slR⟩
  have kmk : ∀ (K : Value → H → Option (Value × H)), mks Try.prog (h.new (.row [iv m, sl] 24 true)) 25 m m K = K v2 ((h.new (.row [iv m, sl] 24 true)).new (.row ((List.replicate m 0).map iv) 3 true)) := fun K => by
    rw [← hvv]; exact mks_ints app25 zero3 (by omega) K
  simp only [List.map_replicate] at hl1'
  simp [f41, kmk, i2.len, lp_eq hl1', cell_of hb5, hs.len, lp_eq hl]

end Go.AM

end

section

/- All that is heard, as the document tells it. -/
namespace Go.AM
open Go.Proofs
variable {k : Nat} {R : Type}
attribute [local simp] nx_eq nx_new nx_set blk_new blk_set asI_int asK_int asB_bool asP_ptr al_eq bx_eq len_slice onE_exit onE_ret onR_ret Value.cells d3 d29 d31 d56 d24 d59 d22 d25 w3 cell_new cell_set rd_new rd_set off eq lt le ifB gv out eqF1 eqF2 eqF3 eqF4 eqF5 eqF6 eqF7 eqF8
theorem app58 : okApp Try.prog 58 25 1 = true := by kernel_rfl

theorem bls58 (b o n c : Nat) (h : H) : buildSlice Try.prog 58 1 [(0, .slice (some ⟨b, o, none⟩) n c)] h = some (.slice (some ⟨h.nx, 0, none⟩) 1 1, h.new (.row [.slice (some ⟨b, o, none⟩) n c] 25 true)) := by kernel_rfl

abbrev cellsV (l : List Value) : List (List Value) := l.map fun v => [v]

/-- Does a time begin with a call? -/
def firstP (l : List Kl) (i : Nat) (c : Kl) : Bool := decide (i = 0) || (l[i - 1]?).any fun d => decide (d.t < c.t)

def heardG (l : List Kl) (i : Nat) (c : Kl) (s : List (List Int) × List Int) : List (List Int) × List Int := (if firstP l i c = true then s.1 ++ [s.2] else s.1, hearP s.2 c)

def heardP (n : Nat) (l : List Kl) : List (List Int) × List Int := foldI (heardG l) l 0 ([], ownP n)

/-- Slices of slices of numbers. -/
def SsR (h : H) (vs : List Value) (ls : List (List Int)) : Prop := vs.length = ls.length ∧ ∀ (j : Nat) (v : Value) (l : List Int), vs[j]? = some v → ls[j]? = some l → SlR h 3 1 v (cellsI l)

theorem SlR.keep {h h' : H} {e : TypeId} {s : Nat} {v : Value} {l : List (List Value)} (a : SlR h e s v l) (hn : h.nx ≤ h'.nx) (hb : ∀ b o n c, v = .slice (some ⟨b, o, none⟩) n c → h'.blk b = h.blk b) : SlR h' e s v l := by
  cases a with
  | nil => exact .nil
  | at_ hb' hr hk hc hl hx => exact .at_ (Nat.lt_of_lt_of_le hb' hn) ((hb _ _ _ _ rfl).trans hr) hk hc hl hx

theorem SsR.keep {h h' : H} {vs : List Value} {ls : List (List Int)} (a : SsR h vs ls) (hn : h.nx ≤ h'.nx) (hb : ∀ v ∈ vs, ∀ b, blkOf v = some b → h'.blk b = h.blk b) : SsR h' vs ls :=
  ⟨a.1, fun j v l hv hl => (a.2 j v l hv hl).keep hn fun b o n c e => hb v (List.mem_of_getElem? hv) b (by rw [e]; rfl)⟩

theorem SsR.snoc {h : H} {vs : List Value} {ls : List (List Int)} (a : SsR h vs ls) {v : Value} {l : List Int} (hv : SlR h 3 1 v (cellsI l)) : SsR h (vs ++ [v]) (ls ++ [l]) := by
  refine ⟨by simp [a.1], fun j w m hw hm => ?_⟩
  rcases Nat.lt_or_ge j vs.length with h1 | h1
  · rw [List.getElem?_append_left h1] at hw
    rw [List.getElem?_append_left (by rw [← a.1]; exact h1)] at hm
    exact a.2 j w m hw hm
  · rw [List.getElem?_append_right h1] at hw
    rw [List.getElem?_append_right (by rw [← a.1]; exact h1)] at hm
    have h2 : j - vs.length = 0 := by
      rcases Nat.eq_zero_or_pos (j - vs.length) with h2 | h2
      · exact h2
      · rw [List.getElem?_eq_none (by simp; omega)] at hw; cases hw
    rw [h2] at hw
    rw [← a.1, h2] at hm
    simp at hw hm
    subst hw; subst hm
    exact hv

theorem SsR.bel {h : H} {vs : List Value} {ls : List (List Int)} (a : SsR h vs ls) {v : Value} (hv : v ∈ vs) {b : Nat} (hb : blkOf v = some b) : b < h.nx := by
  obtain ⟨j, hj, rfl⟩ := List.getElem_of_mem hv
  have := a.2 j vs[j] (ls[j]'(by rw [← a.1]; exact hj)) (List.getElem?_eq_getElem hj) (List.getElem?_eq_getElem _)
  generalize vs[j] = v at *
  generalize cellsI (ls[j]'_) = L at this
  cases this with
  | nil => cases hb
  | at_ hb' => cases hb; exact hb'

theorem s79 {n : Int} {sl : Value} {l : List Kl} {h : H} (hs : SlR h 59 3 sl (l.map Kl.cells)) (hv : validP n l = true) :
    ∃ v h' pv vl, rn 79 #[.agg #[iv n, sl]] h = some (v, h') ∧ Ext h h' ∧ SlR h' 25 1 v (cellsV (pv ++ [vl])) ∧ SsR h' pv (heardP n.toNat l).1 ∧ SlR h' 3 1 vl (cellsI (heardP n.toNat l).2) := by
  obtain ⟨hn1, hn7, hl24, hok⟩ := validP_ok hv
  obtain ⟨m, rfl⟩ := Int.eq_ofNat_of_zero_le (show 0 ≤ n by omega)
  have x1 : Ext h (h.new (.row [iv m, sl] 24 true)) := .new _ _
  have x2 := Ext.new (h.new (.row [iv m, sl] 24 true)) (.row ((List.replicate m 0).map iv) 3 true)
  have i2 : IA ((h.new (.row [iv m, sl] 24 true)).new (.row ((List.replicate m 0).map iv) 3 true)) (h.nx + 1) (.slice (some ⟨h.nx + 1, 0, none⟩) m m) (List.replicate m 0) := ia_new (by omega) (by simp)
  obtain ⟨ws1, h5, hl1, n5, f5, i5⟩ := own_loop (F := f79_l1 rn (max l.length m + 1) (.slice (some ⟨h.nx + 1, 0, none⟩) m m) m) (n := m) (by omega) i2 (fun _ _ => rfl)
  have hl1' := lpGo_mono hl1 (show m + 1 ≤ max l.length m + 1 by omega)
  have x5 : Ext h h5 := ⟨by rw [n5]; simp only [nx_new]; omega, fun q hq => by rw [f5 q (by simp only [nx_new]; omega) (by omega)]; exact (x1.trans x2).blk q hq⟩
  have hb5 : h5.blk h.nx = some (.row [iv m, sl] 24 true) := (f5 h.nx (by simp only [nx_new]; omega) (by omega)).trans ((x2.blk _ (Nat.lt_succ_self _)).trans (blk_new_self _ _))
  have n5' : h5.nx = h.nx + 2 := by rw [n5]; rfl
  have x6 := Ext.new h5 (.row [.slice (some ⟨h.nx + 1, 0, none⟩) m m] 25 true)
  have a6 : AqR h.nx (h5.new (.row [.slice (some ⟨h.nx + 1, 0, none⟩) m m] 25 true)) 25 1 (.slice (some ⟨h5.nx, 0, none⟩) 1 1) (cellsV [.slice (some ⟨h.nx + 1, 0, none⟩) m m]) :=
    AqR.lit (l := cellsV [.slice (some ⟨h.nx + 1, 0, none⟩) m m]) (by omega) rfl (by simp) (by simp)
  have k58 : ∀ (K : Value → H → Option (Value × H)), bls Try.prog h5 58 1 [(0, .slice (some ⟨h.nx + 1, 0, none⟩) m m)] K = K (.slice (some ⟨h5.nx, 0, none⟩) 1 1) (h5.new (.row [.slice (some ⟨h.nx + 1, 0, none⟩) m m] 25 true)) := fun K => bls_some (bls58 _ _ _ _ _)
  have hbs : blkOf (.slice (some ⟨h.nx + 1, 0, none⟩) m m) = some (h.nx + 1) := rfl
  generalize hvv : Value.slice (some ⟨h.nx + 1, 0, none⟩) m m = v2 at *
  obtain ⟨ws', h', hl, hx, hlen, hpl, sv, pv, vl, b, hap, hne, hss, hpv, hlo, hia, hbl, rfl⟩ := lp_for (F := f79_l2 rn (max l.length m + 1) h sl l.length) (k := max l.length m + 1) (l := l) (heardG l)
    (fun i s ws g => Ext (h.new (.row [iv m, sl] 24 true)) g ∧ s.2.length = m ∧ s.1.length ≤ i ∧ ∃ sv pv vl b, AqR h.nx g 25 1 sv (cellsV (pv ++ [vl])) ∧ (∀ q, blkOf sv = some q → h.nx < q) ∧ SsR g pv s.1 ∧ (∀ v ∈ pv, blkOf v ≠ some b) ∧ h.nx < b ∧ IA g b vl s.2 ∧ blkOf vl = some b ∧ ws = [sv, iv i]) 2
    (ws := [.slice (some ⟨h5.nx, 0, none⟩) 1 1, iv 0]) (h := h5.new (.row [v2] 25 true)) (s0 := ([], ownP m))
    ⟨⟨by rw [nx_new, nx_new]; omega, fun q hq => by rw [nx_new] at hq; rw [blk_new_ne _ _ (by omega), f5 q (by simp only [nx_new]; omega) (by omega), blk_new_ne _ _ (by simp only [nx_new]; omega)]⟩, by simp [ownP], Nat.le_refl _, _, [], v2, h.nx + 1, by simpa using a6,
      (fun q hq => by cases hq; omega), ⟨rfl, fun j v l hv => by simp at hv⟩, by simp, by omega, i5.ext x6, hbs, rfl⟩ (by omega)
    (by
      rintro s ws g ⟨hx, hlen, hpl, sv, pv, vl, b, hap, hne, hss, hpv, hlo, hia, hbl, rfl⟩
      simp [f79_l2])
    (by
      rintro i c ⟨s1, s2⟩ ws g hc ⟨hx, hlen, hpl, sv, pv, vl, b, hap, hne, hss, hpv, hlo, hia, hbl, rfl⟩
      simp only at hlen hpl hss hia
      have hil := (List.getElem?_eq_some_iff.1 hc).1
      obtain ⟨ha, hb⟩ := ok_range hv hc
      have y7 := (Ext.refl g).fresh 59 [iv 0, iv 0, iv 0] c.cells
      have hcb := blk_fresh g 59 [iv 0, iv 0, iv 0] c.cells
      have n7 : (g.fresh 59 [iv 0, iv 0, iv 0] c.cells).nx = g.nx + 1 := rfl
      have x7 := hx.trans y7
      have hb7 : (g.fresh 59 [iv 0, iv 0, iv 0] c.cells).blk h.nx = some (.row [iv m, sl] 24 true) := (x7.blk _ (Nat.lt_succ_self _)).trans (blk_new_self _ _)
      have hs7 := hs.ext (x1.trans x7)
      have i7 := hia.ext y7
      have a7 := hap.ext y7
      have ss7 := hss.keep y7.nx fun v hv q hq => y7.blk q (hss.bel hv hq)
      have hbg := hia.lt
      have hgx := hx.nx
      rw [nx_new] at hgx
      have hA : s2[c.a.toNat]? = some (s2.getD c.a.toNat 0) := by simp [show c.a.toNat < s2.length by omega]
      have hB : s2[c.b.toNat]? = some (s2.getD c.b.toNat 0) := by simp [show c.b.toNat < s2.length by omega]
      have hadd : add .i64 (i : Int) 1 = (i : Int) + 1 := add64 (by omega) (by omega)
      have hor : AM.or .i64 (s2.getD c.a.toNat 0) (s2.getD c.b.toNat 0) = bothP s2 c := rfl
      have hpvl : pv.length = s1.length := hss.1
      unfold f79_l2
      rw [show gv [sv, iv i] 1 = iv i from rfl, show gv [sv, iv i] 0 = sv from rfl, asI_int, lt_t (by omega), ifB_true, asK_int, (hs.ext (x1.trans hx)).ldA ag59 sz59 (by omega) (x := c.cells) (by simp [hc])]
      rw [al_st (zs := [iv 0, iv 0, iv 0]) (xs := c.cells) sz59 rfl rfl]
      generalize hG : g.fresh 59 [iv 0, iv 0, iv 0] c.cells = h7 at *
      simp only [Kl.cells] at hcb
      have hprev : ∀ (K : Value → Option (Ex × List Value × H)) (d : Kl), ¬ i = 0 → l[i - 1]? = some d → (six sl (sub .i64 (i : Int) 1) 3 fun b o => (h7.cell b (o + 2)).bind K) = K (iv d.t) := fun K d h0 hd => by
        rw [sub64 (by omega) (by omega)]
        exact hs7.cF (by omega) (x := d.cells) (by rw [show ((i : Int) - 1).toNat = i - 1 by omega]; simp [hd]) rfl K
      -- the last of what was heard, wherever it stands
      have lastOf : ∀ (g : H) (sv : Value) (ps : List Value) (w : Value) (x : Int), SlR g 25 1 sv (cellsV (ps ++ [w])) → x = ps.length + 1 → ps.length < 1000 → (∀ (K : Int → Option (Ex × List Value × H)), len sv K = K x) ∧
          ∀ (K : Value → Option (Ex × List Value × H)), (six sv (sub .i64 x 1) 1 fun b o => (g.cell b o).bind K) = K w := by
        intro g sv ps w x hsv hx hps
        subst hx
        refine ⟨fun K => by rw [hsv.len]; simp, fun K => ?_⟩
        rw [sub64 (by omega) (by omega)]
        exact hsv.c0 (by omega) (x := [w]) (by rw [show (((ps.length : Int) + 1) - 1).toNat = ps.length by omega]; simp) rfl K
      cases hf : firstP l i c with
      | true =>
        have kb : ∀ (K : Value → H → Option (Ex × List Value × H)), bls Try.prog h7 25 0 [] K = K (.slice (some ⟨h7.nx, 0, none⟩) 0 0) (h7.new (.row [] 3 true)) := fun K => bls_some (bls25e h7)
        have x10 := Ext.new h7 (.row [] 3 true)
        have a10 : AqR h7.nx (h7.new (.row [] 3 true)) 3 1 (.slice (some ⟨h7.nx, 0, none⟩) 0 0) [] := AqR.lit (l := []) (Nat.le_refl _) rfl (by simp) (by simp)
        obtain ⟨l10, g10⟩ := lastOf _ sv pv vl ((pv.length : Int) + 1) (a7.ext x10).slR rfl (by omega)
        obtain ⟨v8, h11, e11, a11, n11, k11, b11⟩ := a10.app app25 app25 (i7.ext x10).slR (by rw [List.all_eq_true]; intro x hx; simp only [flat1, List.mem_map] at hx; obtain ⟨z, _, rfl⟩ := hx; rfl) (by simp; omega) (by rw [nx_new]; omega)
        rw [List.nil_append] at a11
        obtain ⟨b8, hlo8, hb8, i11⟩ := a11.ia (by intro e; rw [e] at hlen; simp at hlen; omega)
        have x11 : Ext h7 h11 := ⟨Nat.le_trans x10.nx n11, fun q hq => by rw [k11 q (by rw [nx_new]; omega) (by intro e; cases e; omega)]; exact x10.blk q hq⟩
        obtain ⟨w8, hw8, _⟩ := i11.val
        obtain ⟨v10, h13, e13, a13, n13, k13, b13, hb13, hb13'⟩ := (a7.ext x11).push app58 app58 (xv := v8) (t2 := 58) (x := [v8]) (by rw [hw8]; exact bls58 _ _ _ _) rfl (by rw [hw8]; rfl) (by simp; omega) (by have := x11.nx; omega)
        have a13' : AqR h.nx h13 25 1 v10 (cellsV ((pv ++ [vl]) ++ [v8])) := by simpa using a13
        obtain ⟨l13, g13⟩ := lastOf _ v10 (pv ++ [vl]) v8 ((pv.length : Int) + 1 + 1) a13'.slR (by simp) (by simp; omega)
        have keep13 : ∀ q, q < h11.nx → blkOf sv ≠ some q → h13.blk q = h11.blk q := k13
        have svl : ∀ q, blkOf sv = some q → q < g.nx := fun q hq => (hap.blkOf hq).2.1
        have svt : ∀ q c, blkOf sv = some q → h7.blk q = some (.row c 3 true) → False := fun q c hq hr => by
          have := (a7.blkOf hq).2.2
          rw [this] at hr
          simp at hr
        have i13 : IA h13 b8 v8 s2 := i11.keep n13 (keep13 b8 i11.lt fun e => by have := svl b8 e; omega)
        have hcb13 : h13.blk g.nx = some (.row [iv c.a, iv c.b, iv c.t] 59 true) := (keep13 g.nx (by have := x11.nx; omega) (fun e => by have := svl _ e; omega)).trans ((x11.blk _ (by omega)).trans hcb)
        obtain ⟨g', n', f', i', e'⟩ := hear_wr (c := c) i13 (by omega) (by omega)
        have pA : ∀ (K : Nat → Nat → Option (Ex × List Value × H)), six v8 c.a 1 K = K b8 c.a.toNat := fun K => i13.put ha.1 (by omega) K
        have pB : ∀ (K : Nat → Nat → Option (Ex × List Value × H)), six v8 c.b 1 K = K b8 c.b.toNat := fun K => i13.put hb.1 (by omega) K
        have hcell : ∀ o, h13.cell b8 o = (s2.map iv)[o]? := fun o => cell_of i13.row
        have hck : ∀ o : Nat, fre g.nx h13.nx 1 1 b8 o 1 = true := fun o => by simp only [fre, Bool.and_eq_true, decide_eq_true_eq]; have := x11.nx; omega
        have vlS : SlR g' 3 1 vl (cellsI s2) := (i7.slR).keep (by have := x11.nx; omega) fun q o n c e => by
          have : q = b := by rw [e] at hbl; cases hbl; rfl
          subst this
          rw [f' q (by omega), keep13 q (by have := x11.nx; omega) (fun e => svt q _ e i7.row), x11.blk q (by omega)]
        have ss' : SsR g' pv s1 := ss7.keep (by have := x11.nx; omega) fun v hv q hq => by
          have hqg := hss.bel hv hq
          rw [f' q (by omega), keep13 q (by have := x11.nx; omega) (fun e => ?_), x11.blk q (by omega)]
          obtain ⟨j, hj, rfl⟩ := List.getElem_of_mem hv
          have := ss7.2 j pv[j] (s1[j]'(by omega)) (List.getElem?_eq_getElem hj) (List.getElem?_eq_getElem _)
          generalize pv[j] = v at *
          generalize cellsI (s1[j]'_) = L at this
          cases this with
          | nil => cases hq
          | at_ _ hr => cases hq; have := (a7.blkOf e).2.2; rw [this] at hr; simp at hr
        refine ⟨[v10, iv ((i : Int) + 1)], g', ?_, ⟨by have := x11.nx; rw [nx_new]; omega, fun q hq => ?_⟩, by simp only [heardG]; rw [hearP_len]; exact hlen, by simp [heardG, hf]; omega, v10, pv ++ [vl], v8, b8, ?_, fun q hq => ?_, by simpa [heardG, hf] using ss'.snoc vlS, ?_, by omega, by simpa [heardG] using i', by rw [hw8]; rw [hw8] at hb8; exact hb8, rfl⟩
        · generalize h7.new (.row [] 3 true) = h10 at *
          generalize s2.getD c.a.toNat 0 = A at *
          generalize s2.getD c.b.toNat 0 = B at *
          by_cases h0 : i = 0
          · subst h0
            have h01 : add .i64 0 1 = 1 := by decide
            simp [cell_of hcb, cell_of hb7, cell_of hcb13, pA, pB, hcell, hA, hB, hck, ck, hor, e', kb, l10, g10, e11, e13, l13, g13, h01]
          · have hd : ∃ d, l[i - 1]? = some d := ⟨_, List.getElem?_eq_getElem (by omega)⟩
            obtain ⟨d, hd⟩ := hd
            have hdt : d.t < c.t := by simpa [firstP, h0, hd] using hf
            simp [cell_of hcb, cell_of hb7, cell_of hcb13, pA, pB, hcell, hA, hB, hck, ck, hor, e', kb, l10, g10, e11, e13, l13, g13, hprev _ d h0 hd, h0, hdt, hadd]
        · have hq' : q < h.nx + 1 := hq
          rw [f' q (by omega), keep13 q (by have := x11.nx; omega) (fun e => by have := hne q e; omega), x11.blk q (by omega)]
          exact x7.blk q hq
        · exact a13'.keep (by omega) fun q hq => f' q (fun e => by rw [hb13] at hq; cases hq; have := i11.lt; omega)
        · rw [hb13] at hq; cases hq; have := x11.nx; omega
        · intro v hv e
          rcases List.mem_append.1 hv with hv | hv
          · have := hss.bel hv e; omega
          · simp at hv; subst hv; rw [hbl] at e; cases e; omega
      | false =>
        have h0 : ¬ i = 0 := by intro e; simp [firstP, e] at hf
        have hd : ∃ d, l[i - 1]? = some d := ⟨_, List.getElem?_eq_getElem (by omega)⟩
        obtain ⟨d, hd⟩ := hd
        have hdt : ¬ d.t < c.t := by simpa [firstP, h0, hd] using hf
        obtain ⟨l7, g7⟩ := lastOf _ sv pv vl ((pv.length : Int) + 1) a7.slR rfl (by omega)
        have svt : ∀ q c, blkOf sv = some q → h7.blk q = some (.row c 3 true) → False := fun q c hq hr => by
          have := (a7.blkOf hq).2.2
          rw [this] at hr
          simp at hr
        obtain ⟨g', n', f', i', e'⟩ := hear_wr (c := c) i7 (by omega) (by omega)
        have pA : ∀ (K : Nat → Nat → Option (Ex × List Value × H)), six vl c.a 1 K = K b c.a.toNat := fun K => i7.put ha.1 (by omega) K
        have pB : ∀ (K : Nat → Nat → Option (Ex × List Value × H)), six vl c.b 1 K = K b c.b.toNat := fun K => i7.put hb.1 (by omega) K
        have hcell : ∀ o, h7.cell b o = (s2.map iv)[o]? := fun o => cell_of i7.row
        have hck : ∀ o : Nat, fre g.nx h7.nx 1 1 b o 1 = true := fun o => by simp only [fre, Bool.and_eq_true, decide_eq_true_eq]; omega
        refine ⟨[sv, iv ((i : Int) + 1)], g', ?_, ⟨by rw [nx_new]; omega, fun q hq => ?_⟩, by simp only [heardG]; rw [hearP_len]; exact hlen, by simp [heardG, hf]; omega, sv, pv, vl, b, ?_, hne, ?_, hpv, hlo, by simpa [heardG] using i', hbl, rfl⟩
        · generalize s2.getD c.a.toNat 0 = A at *
          generalize s2.getD c.b.toNat 0 = B at *
          simp [cell_of hcb, cell_of hb7, pA, pB, hcell, hA, hB, hck, ck, hor, e', l7, g7, hprev _ d h0 hd, h0, hdt, hadd]
        · have hq' : q < h.nx + 1 := hq
          rw [f' q (by omega)]
          exact x7.blk q hq
        · exact a7.keep (by omega) fun q hq => f' q (fun e => svt q _ hq (e ▸ i7.row))
        · simp only [heardG, hf]
          exact ss7.keep (by omega) fun v hv q hq => f' q fun e => hpv v hv (e ▸ hq))
  simp only [List.map_replicate] at hl1'
  refine ⟨sv, h', pv, vl, x79 (k := max l.length m + 1) ?_ (by obtain ⟨x, y, z, hz⟩ := hap.isSl; rw [hz]; rfl), x1.trans hx, hap.slR, hss, hia.slR⟩
  have kmk : ∀ (K : Value → H → Option (Value × H)), mks Try.prog (h.new (.row [iv m, sl] 24 true)) 25 m m K = K v2 ((h.new (.row [iv m, sl] 24 true)).new (.row ((List.replicate m 0).map iv) 3 true)) := fun K => by
    rw [← hvv]; exact mks_ints app25 zero3 (by omega) K
  simp [f79, kmk, i2.len, lp_eq hl1', cell_of hb5, hs.len, lp_eq hl, k58, lt_ne (show h.nx < h5.nx by omega)]

end Go.AM

end

section

/- News, Spread and gossip, as the document tells them. -/
namespace Go.AM
open Go.Proofs
variable {k : Nat} {R : Type}
attribute [local simp] nx_eq nx_new nx_set blk_new blk_set asI_int asK_int asB_bool asP_ptr al_eq bx_eq len_slice onE_exit onE_ret onR_ret Value.cells d3 d29 d31 d56 d24 d59 d22 d25 w3 cell_new cell_set rd_new rd_set off eq lt le ifB gv out eqF1 eqF2 eqF3 eqF4 eqF5 eqF6 eqF7 eqF8
theorem heard_last (n : Nat) (l : List Kl) : (heardP n l).2 = newsP n l := by
  unfold heardP newsP
  have : ∀ (l' : List Kl) (i : Nat) (s : List (List Int) × List Int), (foldI (heardG l) l' i s).2 = l'.foldl hearP s.2 := by
    intro l'
    induction l' with
    | nil => intro i s; rfl
    | cons c l' ih => intro i s; rw [foldI, ih]; rfl
  exact this l 0 _

theorem heard_len (n : Nat) (l : List Kl) : (heardP n l).1.length ≤ l.length := by
  unfold heardP
  have : ∀ (l' : List Kl) (i : Nat) (s : List (List Int) × List Int), (foldI (heardG l) l' i s).1.length ≤ s.1.length + l'.length := by
    intro l'
    induction l' with
    | nil => intro i s; exact Nat.le_refl _
    | cons c l' ih =>
      intro i s
      refine Nat.le_trans (ih (i + 1) _) ?_
      simp only [heardG, List.length_cons]
      split <;> simp <;> omega
  have := this l 0 ([], ownP n)
  simpa using this

theorem heard_lens (n : Nat) (l : List Kl) : ∀ L ∈ (heardP n l).1 ++ [(heardP n l).2], L.length = n := by
  unfold heardP
  have : ∀ (l' : List Kl) (i : Nat) (s : List (List Int) × List Int), (∀ L ∈ s.1 ++ [s.2], L.length = n) → ∀ L ∈ (foldI (heardG l) l' i s).1 ++ [(foldI (heardG l) l' i s).2], L.length = n := by
    intro l'
    induction l' with
    | nil => intro i s h; exact h
    | cons c l' ih =>
      intro i s h
      refine ih (i + 1) _ ?_
      have h2 : (hearP s.2 c).length = n := by rw [hearP_len]; exact h _ (by simp)
      intro L hL
      simp only [heardG] at hL
      split at hL
      · simp only [List.append_assoc, List.mem_append, List.mem_cons, List.not_mem_nil, or_false] at hL
        rcases hL with hL | hL | hL
        · exact h L (by simp [hL])
        · exact h L (by simp [hL])
        · rw [hL]; exact h2
      · simp only [List.mem_append, List.mem_cons, List.not_mem_nil, or_false] at hL
        rcases hL with hL | hL
        · exact h L (by simp [hL])
        · rw [hL]; exact h2
  exact this l 0 ([], ownP n) (by simp [ownP])

theorem s40 {n : Int} {sl : Value} {l : List Kl} {h : H} (hs : SlR h 59 3 sl (l.map Kl.cells)) (hv : validP n l = true) :
    ∃ v h', rn 40 #[.agg #[iv n, sl]] h = some (v, h') ∧ Ext h h' ∧ SlR h' 3 1 v (cellsI (newsP n.toNat l)) := by
  have x1 : Ext h (h.new (.row [iv n, sl] 24 true)) := .new _ _
  obtain ⟨v, h', pv, vl, e, x, hs1, hs2, hs3⟩ := s79 (n := n) (hs.ext x1) hv
  have hpv := hs2.1
  have hle := heard_len n.toNat l
  have hl24 := (validP_ok hv).2.2.1
  rw [heard_last] at hs3
  refine ⟨vl, h', x40 (k := 0) ?_ hs3.notR, x1.trans x, hs3⟩
  have c1 := fun (K : Value → H → Option (Value × H)) => calls_eq (K := K) (xs := [_]) e
  have c2 : ∀ (K : Value → Option (Value × H)), (six v (sub .i64 ((pv.length : Int) + 1) 1) 1 fun b o => (h'.cell b o).bind K) = K vl := fun K => by
    rw [sub64 (by omega) (by omega)]
    exact hs1.c0 (by omega) (x := [vl]) (by rw [show (((pv.length : Int) + 1) - 1).toNat = pv.length by omega]; simp) rfl K
  simp [f40, c1, hs1.len, c2]

/-- Do all know all? -/
def allP (n : Nat) (L : List Int) : Bool := L.all fun x => decide (x = sub .i64 (shl .i64 1 n) 1)

theorem s36 {n : Int} {sl : Value} {l : List Kl} {h : H} (hs : SlR h 59 3 sl (l.map Kl.cells)) (hv : validP n l = true) : rn 36 #[.agg #[iv n, sl]] h = some (.bool (allP n.toNat (newsP n.toNat l)), h) := by
  obtain ⟨hn1, hn7, hl24, hok⟩ := validP_ok hv
  obtain ⟨m, rfl⟩ := Int.eq_ofNat_of_zero_le (show 0 ≤ n by omega)
  have x1 : Ext h (h.new (.row [iv m, sl] 24 true)) := .new _ _
  obtain ⟨v, h', e, x, hs1⟩ := s40 (n := (m : Int)) (hs.ext x1) hv
  rw [Int.toNat_natCast] at *
  have hb : h'.blk h.nx = some (.row [iv m, sl] 24 true) := (x.blk _ (Nat.lt_succ_self _)).trans (blk_new_self _ _)
  have hlen : (newsP m l).length = m := newsP_len m l
  generalize newsP m l = L at *
  have hl := lp_same (F := f36_l1 rn (L.length + 1) h v L.length) (k := L.length + 1) (l := L) (h := h') (fun i (_ : Unit) => [.bool false, iv i])
    (fun i x s => if decide (x = sub .i64 (shl .i64 1 m) 1) = true then .inl s else .inr i) (fun _ _ => True) (fun _ => .ret) (fun i => [.bool false, iv i]) 0 (fun _ => [.bool false, iv L.length]) (ws := [.bool false, iv 0]) (s0 := ()) rfl trivial (by omega) (by simp)
    (fun _ _ => by simp [f36_l1])
    (by
      intro i x _ hx _
      have hi := (List.getElem?_eq_some_iff.1 hx).1
      refine ⟨fun _ _ => trivial, ?_⟩
      have g1 : ∀ (K : Value → Option (Ex × List Value × H)), (six v (i : Int) 1 fun b o => (h'.cell b o).bind K) = K (iv x) := fun K => hs1.c0 (by omega) (x := [iv x]) (by simp [hx]) rfl K
      simp [f36_l1, show i < L.length by omega, g1, cell_of hb, nn_ge, rnd]
      rw [add64 (by omega) (by omega)]
      grind)
  refine p36 (k := L.length + 1) (h1 := h') ?_ rfl (x1.trans x)
  have c1 := fun (K : Value → H → Option (Value × H)) => calls_eq (K := K) (xs := [_]) e
  rcases itL_all (ok := fun _ x => decide (x = sub .i64 (shl .i64 1 m) 1)) (g := fun i _ => i) (s0 := ()) L 0 with ⟨⟨r, h1⟩, j, x, hx, h2⟩ | ⟨h1, h2⟩
  · rw [h1] at hl
    simp [f36, c1, hs1.len, lp_eq hl, allP]
    exact ⟨x, List.mem_of_getElem? hx, by simpa using h2⟩
  · rw [h1] at hl
    simp [f36, c1, hs1.len, lp_eq hl.1, allP]
    intro x hx
    obtain ⟨j, hj, rfl⟩ := List.getElem_of_mem hx
    simpa using h2 j _ (List.getElem?_eq_getElem hj)

/-- Who has the news of a person. -/
def transG (s : Int) (p : Nat) (x : Int) (set : Int) : Int := AM.or .i64 set (shl .i64 (AM.and .i64 (shr .i64 x s) 1) p)

def transP (s : Int) (L : List Int) : Int := foldI (transG s) L 0 0

theorem s43 {n s : Int} {sl : Value} {l : List Kl} {h : H} (hs : SlR h 59 3 sl (l.map Kl.cells)) (hv : validP n l = true) (hp : 0 ≤ s) :
    ∃ v h', rn 43 #[.agg #[iv n, sl], iv s] h = some (v, h') ∧ Ext h h' ∧ SlR h' 3 1 v (cellsI (((heardP n.toNat l).1 ++ [(heardP n.toNat l).2]).map (transP s))) := by
  obtain ⟨hn1, hn7, hl24, hok⟩ := validP_ok hv
  have x1 : Ext h (h.new (.row [iv n, sl] 24 true)) := .new _ _
  obtain ⟨v2, h2, pv, vl, e, x2, hs1, hs2, hs3⟩ := s79 (n := n) (hs.ext x1) hv
  have hss := hs2.snoc hs3
  have hle := heard_len n.toNat l
  have hlens : (pv ++ [vl]).length ≤ 25 := by have := hs2.1; simp; omega
  have hall := heard_lens n.toNat l
  have hb2 : h2.blk h.nx = some (.row [iv n, sl] 24 true) := (x2.blk _ (Nat.lt_succ_self _)).trans (blk_new_self _ _)
  generalize (heardP n.toNat l).1 ++ [(heardP n.toNat l).2] = LL at *
  have hlenL := hss.1
  obtain ⟨ws', h', hl, hx, ho, sv, hap, rfl⟩ := lp_for (F := f43_l1 rn 30 s v2 LL.length) (k := 30) (l := LL) (fun _ (L : List Int) (out : List Int) => out ++ [transP s L])
    (fun i s ws g => Ext h2 g ∧ s.length ≤ i ∧ ∃ sv, AqR h2.nx g 3 1 sv (cellsI s) ∧ ws = [sv, iv i]) 0 (ws := [.slice none 0 0, iv 0]) (h := h2) (s0 := [])
    ⟨.refl _, Nat.le_refl _, _, .nil, rfl⟩ (by omega)
    (by
      rintro s ws g ⟨hx, ho, sv, hap, rfl⟩
      simp [f43_l1])
    (by
      rintro i L out ws g hL ⟨hx, ho, sv, hap, rfl⟩
      have hi := (List.getElem?_eq_some_iff.1 hL).1
      have hvi : (pv ++ [vl])[i]? = some (pv ++ [vl])[i] := List.getElem?_eq_getElem (by omega)
      have hsi := (hss.2 i _ L hvi hL).ext hx
      generalize (pv ++ [vl])[i] = vi at *
      have hLlen := hall L (List.mem_of_getElem? hL)
      have g1 : ∀ (K : Value → Option (Ex × List Value × H)), (six v2 (i : Int) 1 fun b o => (g.cell b o).bind K) = K vi := fun K => (hs1.ext hx).c0 (by omega) (x := [vi]) (by simp only [Int.toNat_natCast, List.getElem?_map, hvi]; rfl) rfl K
      have hin := lp_same (ρ := Empty) (F := f43_l2 rn 30 s vi L.length) (k := 30) (l := L) (h := g) (fun i (set : Int) => [iv set, iv i])
        (fun p x set => .inl (transG s p x set)) (fun _ _ => True) (fun _ => .ret) (fun i => []) 2 (fun set => [iv set, iv L.length]) (ws := [iv 0, iv 0]) (s0 := 0) rfl trivial (by omega) (by simp)
        (fun _ _ => by simp [f43_l2])
        (by
          intro p x set hx' _
          have hp' := (List.getElem?_eq_some_iff.1 hx').1
          refine ⟨fun _ _ => trivial, ?_⟩
          have g2 : ∀ (K : Value → Option (Ex × List Value × H)), (six vi (p : Int) 1 fun b o => (g.cell b o).bind K) = K (iv x) := fun K => hsi.c0 (by omega) (x := [iv x]) (by simp [hx']) rfl K
          simp [f43_l2, hp', g2, nn_ge hp, nn_ge, rnd, transG]
          rw [add64 (by omega) (by omega)])
      rw [itL_inl] at hin
      obtain ⟨v', h9, e9, a9, n9, k9, b9, hb9, hb9'⟩ := hap.push app25 app25 (bls25 (transP s L)) rfl rfl (by simp; omega) hx.nx
      refine ⟨[v', iv ((i : Int) + 1)], h9, ?_, ⟨by have := hx.nx; omega, fun q hq => ?_⟩, by simp; omega, v', by simpa using a9, rfl⟩
      · unfold transP at e9
        simp only [f43_l1]
        simp [hi, g1, hsi.len, lp_eq hin.1, e9]
        rw [add64 (by omega) (by omega)]
      · rw [k9 q (by have := hx.nx; omega) (fun e => by have := (hap.blkOf e).1; omega)]
        exact hx.blk q hq)
  have hfin : foldI (fun _ (L : List Int) (out : List Int) => out ++ [transP s L]) LL 0 [] = LL.map (transP s) := by
    have : ∀ (LL : List (List Int)) (i : Nat) (o : List Int), foldI (fun _ (L : List Int) (out : List Int) => out ++ [transP s L]) LL i o = o ++ LL.map (transP s) := by
      intro LL
      induction LL with
      | nil => intro i o; simp [foldI]
      | cons L LL ih => intro i o; rw [foldI, ih]; simp
    simpa using this LL 0 []
  rw [hfin] at hap
  refine ⟨sv, h', x43 (k := 30) ?_ hap.slR.notR, (x1.trans x2).trans hx, hap.slR⟩
  have c1 := fun (K : Value → H → Option (Value × H)) => calls_eq (K := K) (xs := [_]) e
  have hlv : ∀ (K : Int → Option (Value × H)), len v2 K = K LL.length := fun K => by rw [hs1.len, List.length_map, hlenL]
  simp [f43, c1, hlv, lp_eq hl]

end Go.AM

end

section

/- Spread tells what the document tells. -/
namespace Go.AM
open Go.Proofs
/-- Numbers that are sets of people below a bound. -/
def NS (k : Nat) (L : List Int) (M : List Nat) : Prop := L = M.map (fun x : Nat => (x : Int)) ∧ ∀ x ∈ M, x < 2 ^ k

theorem NS.len {k : Nat} {L : List Int} {M : List Nat} (h : NS k L M) : L.length = M.length := by rw [h.1]; simp

theorem NS.get {k : Nat} {L : List Int} {M : List Nat} (h : NS k L M) {i : Nat} (hi : i < M.length) : L.getD i 0 = ((M.getD i 0 : Nat) : Int) ∧ M.getD i 0 < 2 ^ k := by
  rw [h.1]
  have h1 : M[i]? = some M[i] := List.getElem?_eq_getElem hi
  have h2 : M[i] ∈ M := List.getElem_mem hi
  simp only [List.getD_eq_getElem?_getD, List.getElem?_map, h1]
  exact ⟨rfl, h.2 _ h2⟩

theorem ownP_ns {n : Nat} (hn : n ≤ 7) : NS 7 (ownP n) ((List.range n).map fun p => 2 ^ p) := by
  refine ⟨?_, fun x hx => ?_⟩
  · unfold ownP
    rw [List.map_map]
    apply List.map_congr_left
    intro p hp
    have := List.mem_range.1 hp
    exact shl1_nat (by omega)
  · simp only [List.mem_map, List.mem_range] at hx
    obtain ⟨p, hp, rfl⟩ := hx
    exact Nat.pow_lt_pow_right (by omega) (by omega)

/-- A call is made, of sets. -/
def hearN (M : List Nat) (a b : Nat) : List Nat := (M.set a (M.getD a 0 ||| M.getD b 0)).set b (M.getD a 0 ||| M.getD b 0)

theorem hearP_ns {L : List Int} {M : List Nat} {c : Kl} (h : NS 7 L M) (ha : 0 ≤ c.a ∧ c.a < L.length) (hb : 0 ≤ c.b ∧ c.b < L.length) : NS 7 (hearP L c) (hearN M c.a.toNat c.b.toNat) := by
  have hl := h.len
  obtain ⟨a1, a2⟩ := h.get (i := c.a.toNat) (by omega)
  obtain ⟨b1, b2⟩ := h.get (i := c.b.toNat) (by omega)
  have e : AM.or .i64 (L.getD c.a.toNat 0) (L.getD c.b.toNat 0) = ((M.getD c.a.toNat 0 ||| M.getD c.b.toNat 0 : Nat) : Int) := by
    rw [a1, b1]
    exact or_nat (by omega) (by omega)
  have hlt := Nat.or_lt_two_pow a2 b2
  refine ⟨?_, fun x hx => ?_⟩
  · unfold hearP hearN
    simp only [e]
    rw [List.map_set, List.map_set, ← h.1]
  · unfold hearN at hx
    rcases List.mem_or_eq_of_mem_set hx with hx | rfl
    · rcases List.mem_or_eq_of_mem_set hx with hx | rfl
      · exact h.2 x hx
      · exact hlt
    · exact hlt

/-- Who has the news of a person, as a set. -/
def transN (s : Nat) : List Nat → Nat → Nat → Nat
  | [], _, a => a
  | x :: M, p, a => transN s M (p + 1) (a ||| (if x.testBit s then 2 ^ p else 0))

theorem transP_ns {s : Nat} (hs : s < 7) : ∀ (M : List Nat) (p a : Nat), (∀ x ∈ M, x < 2 ^ 7) → p + M.length ≤ 7 → a < 2 ^ 7 →
    foldI (transG s) (M.map fun x : Nat => (x : Int)) p (a : Int) = ((transN s M p a : Nat) : Int) ∧ transN s M p a < 2 ^ 7 ∧ ∀ q, (transN s M p a).testBit q = (a.testBit q || (decide (p ≤ q) && (M[q - p]?).any fun x => x.testBit s)) := by
  intro M
  induction M with
  | nil => intro p a _ _ ha; exact ⟨rfl, ha, fun q => by simp [transN]⟩
  | cons x M ih =>
    intro p a hM hp ha
    simp only [List.length_cons] at hp
    have hx : x < 2 ^ 7 := hM x (by simp)
    have e : transG s p (x : Int) (a : Int) = ((a ||| (if x.testBit s then 2 ^ p else 0) : Nat) : Int) := by
      unfold transG
      rw [bit_nat (by omega) (by omega)]
      cases x.testBit s with
      | true =>
        simp only [if_true]
        rw [shl1_nat (by omega)]
        exact or_nat (by omega) (Nat.pow_lt_pow_right (by omega) (by omega))
      | false =>
        simp only [Bool.false_eq_true, if_false]
        rw [show AM.shl .i64 0 (p : Int) = ((0 : Nat) : Int) by
          have := shl_nat (a := 0) (p := p) (by simp) (by omega)
          simpa using this]
        exact or_nat (by omega) (by decide)
    have hlt : (a ||| (if x.testBit s then 2 ^ p else 0)) < 2 ^ 7 := by
      refine Nat.or_lt_two_pow ha ?_
      split
      · exact Nat.pow_lt_pow_right (by omega) (by omega)
      · decide
    obtain ⟨h1, h2, h3⟩ := ih (p + 1) _ (fun y hy => hM y (List.mem_cons_of_mem _ hy)) (by omega) hlt
    refine ⟨?_, h2, fun q => ?_⟩
    · simp only [List.map_cons, foldI]
      rw [e]
      exact h1
    · simp only [transN]
      rw [h3 q, Nat.testBit_or]
      by_cases hq : p = q
      · subst hq
        have hn : ¬ p + 1 ≤ p := by omega
        cases hxs : x.testBit s <;> simp [hxs, hn, testBit_pow]
      · have hb : (if x.testBit s then 2 ^ p else 0).testBit q = false := by
          split
          · rw [testBit_pow]; exact decide_eq_false hq
          · simp
        rw [hb]
        by_cases hlt : p < q
        · have e1 : q - p = (q - (p + 1)) + 1 := by omega
          rw [e1]
          simp [show p + 1 ≤ q by omega, show p ≤ q by omega]
        · simp [show ¬ p + 1 ≤ q by omega, show ¬ p ≤ q by omega]

theorem transP_spec {s : Nat} (hs : s < 7) {L : List Int} {M : List Nat} (h : NS 7 L M) (hl : M.length ≤ 7) :
    ∃ t : Nat, transP s L = (t : Int) ∧ t < 2 ^ 7 ∧ ∀ q, t.testBit q = ((M[q]?).any fun x => x.testBit s) := by
  obtain ⟨h1, h2, h3⟩ := transP_ns hs M 0 0 h.2 (by omega) (by decide)
  refine ⟨_, ?_, h2, fun q => ?_⟩
  · unfold transP
    rw [h.1]
    exact h1
  · rw [h3 q]; simp

theorem hearN_get (M : List Nat) (a b : Nat) (ha : a < M.length) (hb : b < M.length) (s q : Nat) :
    ((hearN M a b)[q]?).any (fun x => x.testBit s) = if q = a ∨ q = b then ((M[a]?).any fun x => x.testBit s) || ((M[b]?).any fun x => x.testBit s) else (M[q]?).any fun x => x.testBit s := by
  unfold hearN
  rw [List.getElem?_set, List.getElem?_set]
  simp only [List.length_set, List.getD_eq_getElem?_getD, List.getElem?_eq_getElem ha, List.getElem?_eq_getElem hb, Option.getD_some]
  by_cases h1 : b = q
  · subst h1; simp [hb]
  · by_cases h2 : a = q
    · subst h2; simp [h1, ha]
    · simp [h1, h2, Ne.symm h1, Ne.symm h2]

/-- Who has heard after a call, and what all know then. -/
theorem now_hear {s : Nat} (hs : s < 7) {L : List Int} {M : List Nat} {c : Kl} (h : NS 7 L M) (hl : M.length ≤ 7) (ha : 0 ≤ c.a ∧ c.a < L.length) (hb : 0 ≤ c.b ∧ c.b < L.length) :
    nowP (transP s L) c = transP s (hearP L c) := by
  have hlen := h.len
  obtain ⟨t, e1, t1, t2⟩ := transP_spec hs h hl
  have hns := hearP_ns h ha hb
  obtain ⟨u, e2, u1, u2⟩ := transP_spec hs hns (by simp [hearN]; omega)
  rw [e1, e2]
  obtain ⟨a, hca⟩ := Int.eq_ofNat_of_zero_le ha.1
  obtain ⟨b, hcb⟩ := Int.eq_ofNat_of_zero_le hb.1
  rw [hca] at ha
  rw [hcb] at hb
  rw [hca, hcb] at u2
  simp only [Int.toNat_natCast] at u2
  have u3 : ∀ q, u.testBit q = if q = a ∨ q = b then t.testBit a || t.testBit b else t.testBit q := fun q => by
    rw [u2 q, hearN_get M a b (by omega) (by omega), t2 a, t2 b, t2 q]
  unfold nowP inP
  rw [hca, hcb]
  simp only [beq_iff_eq]
  simp only [bit_eq1 (a := t) (p := a) (by omega) (by omega), bit_eq1 (a := t) (p := b) (by omega) (by omega)]
  have pa : 2 ^ a < 2 ^ 7 := Nat.pow_lt_pow_right (by omega) (by omega)
  have pb : 2 ^ b < 2 ^ 7 := Nat.pow_lt_pow_right (by omega) (by omega)
  have pab := Nat.or_lt_two_pow pa pb
  rw [shl1_nat (by omega), shl1_nat (by omega), or_nat (by omega) (by omega), or_nat (by omega) (by omega)]
  split
  · rename_i hin
    congr 1
    apply Nat.eq_of_testBit_eq
    intro q
    rw [u3 q, Nat.testBit_or, Nat.testBit_or, testBit_pow, testBit_pow]
    by_cases h1 : q = a
    · subst h1; rcases hin with h2 | h2 <;> simp [h2]
    · by_cases h2 : q = b
      · subst h2; rcases hin with h3 | h3 <;> simp [h3]
      · simp [h1, h2, Ne.symm h1, Ne.symm h2]
  · rename_i hin
    congr 1
    apply Nat.eq_of_testBit_eq
    intro q
    rw [u3 q]
    simp only [not_or, Bool.not_eq_true] at hin
    by_cases h1 : q = a
    · subst h1; simp [hin.1, hin.2]
    · by_cases h2 : q = b
      · subst h2; simp [hin.1, hin.2]
      · simp [h1, h2]

theorem trans_own {n s : Nat} (hn : n ≤ 7) (hs : s < n) : transP s (ownP n) = shl .i64 1 s := by
  obtain ⟨t, e1, t1, t2⟩ := transP_spec (s := s) (by omega) (ownP_ns hn) (by simp; omega)
  rw [e1, shl1_nat (by omega)]
  congr 1
  apply Nat.eq_of_testBit_eq
  intro q
  rw [t2 q, testBit_pow]
  by_cases hq : q < n
  · simp [List.getElem?_map, hq, testBit_pow, eq_comm]
  · have : s ≠ q := by omega
    simp [List.getElem?_map, List.getElem?_range, hq, this]

theorem spread_eq {n : Nat} {l : List Kl} {s : Nat} (hv : validP n l = true) (hs : s < n) : spreadP l s = ((heardP n l).1 ++ [(heardP n l).2]).map (transP s) := by
  obtain ⟨hn1, hn7, hl24, hok⟩ := validP_ok hv
  unfold spreadP heardP
  have key : ∀ (l' : List Kl) (i : Nat) (st : Int × List Int) (hd : List (List Int) × List Int) (M : List Nat), l.drop i = l' → NS 7 hd.2 M → M.length = n → st.1 = transP s hd.2 →
      (if i = 0 ∨ (∃ c, l[i - 1]? = some c ∧ lastP l (i - 1) c = true) then st.2 = (hd.1 ++ [hd.2]).map (transP s) else st.2 = hd.1.map (transP s)) → (i = 0 ∨ i ≤ l.length) →
      (l' = [] → (i = 0 ∨ ∃ c, l[i - 1]? = some c ∧ lastP l (i - 1) c = true)) →
      (foldI (spreadG l) l' i st).2 = ((foldI (heardG l) l' i hd).1 ++ [(foldI (heardG l) l' i hd).2]).map (transP s) := by
    intro l'
    induction l' with
    | nil =>
      intro i st hd M _ _ _ _ hst _ hlast
      rw [if_pos (hlast rfl)] at hst
      exact hst
    | cons c l' ih =>
      intro i st hd M hdrop hns hM hnow hst hi _
      have hil : i < l.length := by
        rcases Nat.lt_or_ge i l.length with h | h
        · exact h
        · rw [List.drop_of_length_le h] at hdrop; cases hdrop
      have hc : l[i]? = some c := by
        have := List.getElem?_drop (xs := l) (i := i) (j := 0)
        rw [hdrop] at this
        simpa using this.symm
      have hdrop' : l.drop (i + 1) = l' := by
        have := List.drop_drop (i := 1) (j := i) (l := l)
        rw [hdrop] at this
        rw [← this]
        rfl
      obtain ⟨ha, hb⟩ := ok_range hv hc
      have hlen := hns.len
      have hns' := hearP_ns (c := c) hns (by omega) (by omega)
      have hnow' : nowP st.1 c = transP s (hearP hd.2 c) := by
        rw [hnow]
        exact now_hear (by omega) hns (by omega) (by omega) (by omega)
      -- a time ends where the next one begins
      have hfl : (i = 0 ∨ (∃ d, l[i - 1]? = some d ∧ lastP l (i - 1) d = true)) ↔ firstP l i c = true := by
        unfold firstP lastP
        by_cases h0 : i = 0
        · simp [h0]
        · have hd' : l[i - 1]? = some l[i - 1] := List.getElem?_eq_getElem (by omega)
          have e1 : i - 1 + 1 = i := by omega
          simp only [h0, false_or, hd', e1, hc, Option.any_some, decide_false, Bool.false_or, Option.some.injEq, exists_eq_left']
          have : ¬ i = l.length := by omega
          simp [this]
      have hst' : st.2 = (heardG l i c hd).1.map (transP s) := by
        simp only [heardG]
        by_cases hf : firstP l i c = true
        · rw [if_pos (hfl.2 hf)] at hst
          rw [if_pos hf]
          exact hst
        · rw [if_neg (fun h => hf (hfl.1 h))] at hst
          rw [if_neg hf]
          exact hst
      simp only [foldI]
      refine ih (i + 1) (spreadG l i c st) (heardG l i c hd) _ hdrop' (by simpa [heardG] using hns') (by simp [hearN]; exact hM) (by simpa [heardG, spreadG] using hnow') ?_ (by omega) ?_
      · simp only [Nat.add_sub_cancel, hc, Nat.succ_ne_zero, false_or, Option.some.injEq, exists_eq_left']
        by_cases hlp : lastP l i c = true
        · rw [if_pos hlp]
          simp only [spreadG, hlp, if_true]
          rw [hst', hnow']
          simp [heardG]
        · rw [if_neg hlp]
          simp only [spreadG, hlp]
          exact hst'
      · intro hnil
        subst hnil
        have : i + 1 = l.length := by
          have := congrArg List.length hdrop'
          simp at this
          omega
        right
        rw [Nat.add_sub_cancel]
        exact ⟨c, hc, by simp only [lastP, this, decide_true, Bool.true_or]⟩
  refine key l 0 _ _ _ (by simp) (ownP_ns (by omega)) (by simp) (trans_own (by omega) hs).symm ?_ (.inl rfl) (fun _ => .inl rfl)
  simp [trans_own (show n ≤ 7 by omega) hs]

end Go.AM

end

section

/- CallsNews, on the abstract machine. -/
namespace Go.AM
open Go.Proofs
variable {k : Nat} {R : Type}
attribute [local simp] nx_eq nx_new nx_set blk_new blk_set asI_int asK_int asB_bool asP_ptr al_eq bx_eq len_slice onE_exit onE_ret onR_ret Value.cells d3 d29 d31 d56 d24 d59 d22 d25 w3 cell_new cell_set rd_new rd_set off eq lt le ifB gv out eqF1 eqF2 eqF3 eqF4 eqF5 eqF6 eqF7 eqF8 ext20 ext21 k42
theorem s22 (h : H) : rn 22 #[] h = some (.bool true, h) := by
  have e : call Try.prog E0 60 22 #[] h = some (.bool true, h) := by kernel_rfl
  exact run_iso rfl e

theorem k22 (h : H) (K : Value → H → Option R) : calls rn h 22 [] K = K (.bool true) h := calls_eq (s22 h)

theorem k35 {n : Int} {sl : Value} {l : List Kl} {h : H} (hs : SlR h 59 3 sl (l.map Kl.cells)) (K : Value → H → Option R) : calls rn h 35 [.agg #[iv n, sl]] K = K (.bool (validP n l)) h := calls_eq (s35 hs)

theorem k26 {v0 v1 : Value} {a b : List Int} {h : H} (ha : SlR h 3 1 v0 (cellsI a)) (hb : SlR h 3 1 v1 (cellsI b)) (K : Value → H → Option R) : calls rn h 26 [v0, v1] K = K (.bool (decide (a = b))) h := calls_eq (s26 ha hb)

theorem s6 {n s : Int} {sl : Value} {l : List Kl} {h : H} (hs : SlR h 59 3 sl (l.map Kl.cells)) : ∃ h', rn 6 #[.agg #[iv n, sl], iv s] h = some (.bool true, h') := by
  have x1 : Ext h (h.new (.row [iv n, sl] 24 true)) := .new _ _
  have b1 : (h.new (.row [iv n, sl] 24 true)).blk h.nx = some (.row [iv n, sl] 24 true) := blk_new_self _ _
  have n1 : h.nx < (h.new (.row [iv n, sl] 24 true)).nx := Nat.lt_succ_self _
  have start : ∃ h1, Ext h h1 ∧ f6 rn 0 (.agg #[iv n, sl]) s h = some (.bool true, h1) := by
    unfold f6
    rw [bx_eq, nx_eq, show (Value.agg #[iv n, sl]).cells.toList = [iv n, sl] from rfl]
    generalize h.new (.row [iv n, sl] 24 true) = h1 at *
    have ld1 : ∀ (g : H), Ext h1 g → ∀ (K : Value → Option (Value × H)), ld Try.prog g 24 h.nx 0 K = K (.agg #[iv n, sl]) := fun g x K => by
      rw [d24, rd_all (n := 2) ((x.blk _ n1).trans b1) rfl]; rfl
    obtain ⟨la, h2, e2, x2, s2⟩ := s18 (n := n) (hs.ext x1)
    rw [ld1 _ (.refl _), calls_eq (xs := [_]) e2]
    by_cases hv : validP n l = true
    · have hv' : validP n (l.take 26) = true := by rw [validP_take]; exact hv
      have hl : l.take 26 = l := List.take_of_length_le (by have := (validP_ok hv).2.2.1; omega)
      rw [hl] at s2
      obtain ⟨va, h3, e3, x3, sa⟩ := s37 s2 hv
      rw [calls_eq (xs := [_]) e3, ext20, ext21, asI_int]
      have x13 := x2.trans x3
      rw [ld1 _ x13]
      obtain ⟨lb, h4, e4, x4, s4⟩ := s18 (n := n) (hs.ext (x1.trans x13))
      rw [calls_eq (xs := [_]) e4]
      rw [hl] at s4
      have x14 := x13.trans x4
      obtain ⟨b5, h5, n5, e5, x5, s5⟩ : ∃ v h5 e, rn 38 #[.agg #[iv n, lb], iv s] h4 = some (.tuple #[v, iv e], h5) ∧ Ext h4 h5 ∧ (if 0 ≤ s ∧ s < n then e = 0 ∧ SlR h5 3 1 v (cellsI (spreadP l s)) else e = 2 ∧ v = .slice none 0 0) := by
        by_cases hp : 0 ≤ s ∧ s < n
        · obtain ⟨v, h5, q1, q2, q3⟩ := s38 s4 hv hp
          exact ⟨v, h5, 0, q1, q2, by rw [if_pos hp]; exact ⟨rfl, q3⟩⟩
        · obtain ⟨h5, q1, q2⟩ := s38_bad (n := n) (s := s) s4 (by simp [hp])
          exact ⟨_, h5, 2, q1, q2, by rw [if_neg hp]; exact ⟨rfl, rfl⟩⟩
      rw [calls_eq (xs := [_, _]) e5, ext20, ext21, asI_int]
      have x15 := x14.trans x5
      rw [ld1 _ x15]
      obtain ⟨lc, h6, e6, x6, s6⟩ := s18 (n := n) (hs.ext (x1.trans x15))
      rw [calls_eq (xs := [_]) e6]
      rw [hl] at s6
      have x16 := x15.trans x6
      obtain ⟨vc, h7, e7, x7, sc⟩ := s39 s6 hv
      rw [calls_eq (xs := [_]) e7, ext20, ext21, asI_int]
      have x17 := x16.trans x7
      rw [ld1 _ x17, k35 (hs.ext (x1.trans x17)), asB_bool, hv]
      simp only [Bool.not_true, ifB, Bool.false_eq_true, if_false]
      rw [ld1 _ x17]
      obtain ⟨v8, h8, e8, x8, s8⟩ := s40 (hs.ext (x1.trans x17)) hv
      have x18 := x17.trans x8
      rw [calls_eq (xs := [_]) e8, k26 (sa.ext (x4.trans (x5.trans (x6.trans (x7.trans x8))))) s8, asB_bool, ld1 _ x18]
      obtain ⟨v9, h9, e9, x9, s9⟩ := s41 (hs.ext (x1.trans x18)) hv
      have x19 := x18.trans x9
      rw [calls_eq (xs := [_]) e9, k26 (sc.ext (x8.trans x9)) s9, asB_bool, k22, asB_bool, ld1 _ x19]
      simp only [decide_true, Bool.not_true, eq, beq_self_eq_true, Bool.false_eq_true, if_false]
      rw [k42, asB_bool]
      by_cases hp : 0 ≤ s ∧ s < n
      · rw [if_pos hp] at s5
        obtain ⟨rfl, s5⟩ := s5
        rw [decide_eq_true hp, ld1 _ x19]
        obtain ⟨vd, h10, e10, x10, s10⟩ := s43 (s := s) (hs.ext (x1.trans x19)) hv hp.1
        obtain ⟨m, rfl⟩ := Int.eq_ofNat_of_zero_le (show 0 ≤ n by have := (validP_ok hv).1; omega)
        obtain ⟨t, rfl⟩ := Int.eq_ofNat_of_zero_le hp.1
        rw [Int.toNat_natCast, ← spread_eq hv (by omega)] at s10
        rw [calls_eq (xs := [_, _]) e10, k26 (s5.ext (x6.trans (x7.trans (x8.trans (x9.trans x10))))) s10, asB_bool]
        exact ⟨h10, x1.trans (x19.trans x10), by simp⟩
      · rw [if_neg hp] at s5
        obtain ⟨rfl, rfl⟩ := s5
        rw [decide_eq_false hp]
        exact ⟨h9, x1.trans x19, by simp⟩
    · have hv0 : validP n l = false := by simpa using hv
      have hv' : validP n (l.take 26) = false := by rw [validP_take]; exact hv0
      obtain ⟨h3, e3, x3⟩ := s37_bad s2 hv'
      rw [calls_eq (xs := [_]) e3, ext20, ext21, asI_int]
      have x13 := x2.trans x3
      rw [ld1 _ x13]
      obtain ⟨lb, h4, e4, x4, s4⟩ := s18 (n := n) (hs.ext (x1.trans x13))
      rw [calls_eq (xs := [_]) e4]
      have x14 := x13.trans x4
      obtain ⟨h5, e5, x5⟩ := s38_bad (n := n) (s := s) s4 (by simp [hv'])
      rw [calls_eq (xs := [_, _]) e5, ext20, ext21, asI_int]
      have x15 := x14.trans x5
      rw [ld1 _ x15]
      obtain ⟨lc, h6, e6, x6, s6⟩ := s18 (n := n) (hs.ext (x1.trans x15))
      rw [calls_eq (xs := [_]) e6]
      have x16 := x15.trans x6
      obtain ⟨h7, e7, x7⟩ := s39_bad s6 hv'
      rw [calls_eq (xs := [_]) e7, ext20, ext21, asI_int]
      have x17 := x16.trans x7
      rw [ld1 _ x17, k35 (hs.ext (x1.trans x17)), asB_bool, hv0]
      refine ⟨h7, x1.trans x17, ?_⟩
      have h00 : add .i64 (add .i64 0 0) 0 = 0 := by decide
      simp [k22, h00]
  obtain ⟨h1, _, e⟩ := start
  exact ⟨_, t6 e⟩

end Go.AM

end

section

/- The staged forms of functions 8, 10, 16, 44, 46, 47, 53, 54, 55, 56, 57, 58, 59, 62, 63, 64, 65, 66, 67, 68, 69, 70, 80, 81, 82, 85, 88, 90, 92, 93, 94, 97, 98, 101, 104, 111, 112, 116, and what calls of these answer. -/
namespace Go.AM
open Go.Proofs
noncomputable def f8_l1 (rec : Rec) (_k : Nat) (n0 : Int) (n1 : Int) (h0 : H) (v42 : Value) (n15 : Int) (ws0 : List Value) (h20 : H) : Option (Ex × List Value × H) :=
  asI .i64 (gv ws0 1) fun n16 =>
  ifB (lt n16 n15) (
    asK (gv ws0 1) fun n17 =>
    six v42 n17 1 fun b6 b7 =>
    ld Try.prog h20 25 b6 b7 fun v43 =>
    ld Try.prog h20 24 (nx h0) 0 fun v44 =>
    calls rec h20 18 [v44] fun v45 h21 =>
    calls rec h21 27 [v45, (.int .i64 n0), (.int .i64 n1), v43] fun v46 h22 =>
    ext v46 0 fun v47 =>
    asB v47 fun q7 =>
    ext v46 1 fun v48 =>
    asI .i64 v48 fun n18 =>
    ifB (not q7) (
      out .ret [(.bool false), gv ws0 1] h22) (
      ifB (not (eq n18 0)) (
        out .ret [(.bool false), gv ws0 1] h22) (
        asI .i64 (gv ws0 1) fun n19 =>
        out .normal [gv ws0 0, (.int .i64 (add .i64 n19 1))] h22))) (
    out (.exit 0) [gv ws0 0, gv ws0 1] h20)

noncomputable def f8 (rec : Rec) (k : Nat) (v0 : Value) (n0 : Int) (n1 : Int) (v1 : Value) (h0 : H) : Option (Value × H) :=
  bx h0 24 v0 fun h1 =>
  ld Try.prog h1 24 (nx h0) 0 fun v2 =>
  calls rec h1 18 [v2] fun v3 h2 =>
  calls rec h2 17 [v3, (.int .i64 n0), (.int .i64 n1)] fun v4 h3 =>
  ext v4 0 fun v5 =>
  ext v4 1 fun v6 =>
  asI .i64 v6 fun n2 =>
  ld Try.prog h3 24 (nx h0) 0 fun v7 =>
  calls rec h3 18 [v7] fun v8 h4 =>
  calls rec h4 19 [v8, (.int .i64 n0), (.int .i64 n1)] fun v9 h5 =>
  ext v9 0 fun v10 =>
  ext v9 1 fun v11 =>
  asI .i64 v11 fun n3 =>
  ld Try.prog h5 24 (nx h0) 0 fun v12 =>
  calls rec h5 18 [v12] fun v13 h6 =>
  calls rec h6 20 [v13, (.int .i64 n0), (.int .i64 n1)] fun v14 h7 =>
  ext v14 0 fun v15 =>
  ext v14 1 fun v16 =>
  asI .i64 v16 fun n4 =>
  ld Try.prog h7 24 (nx h0) 0 fun v17 =>
  calls rec h7 18 [v17] fun v18 h8 =>
  calls rec h8 45 [v18, (.int .i64 n0)] fun v19 h9 =>
  ext v19 0 fun v20 =>
  ext v19 1 fun v21 =>
  asI .i64 v21 fun n5 =>
  ld Try.prog h9 24 (nx h0) 0 fun v22 =>
  calls rec h9 18 [v22] fun v23 h10 =>
  calls rec h10 37 [v23] fun v24 h11 =>
  ext v24 0 fun v25 =>
  ext v24 1 fun v26 =>
  asI .i64 v26 fun n6 =>
  ld Try.prog h11 24 (nx h0) 0 fun v27 =>
  calls rec h11 18 [v27] fun v28 h12 =>
  calls rec h12 28 [v1] fun v29 h13 =>
  calls rec h13 27 [v28, (.int .i64 n0), (.int .i64 n1), v29] fun v30 h14 =>
  ext v30 0 fun v31 =>
  asB v31 fun q0 =>
  ext v30 1 fun v32 =>
  asI .i64 v32 fun n7 =>
  ifB (not (eq n7 0)) (
    ifB (eq n2 2) (
      ifB (eq n3 2) (
        ifB (eq n4 2) (
          ifB (eq n7 2) (
            calls rec h14 22 [] fun v33 h15 =>
            asB v33 fun q1 =>
            some ((.bool q1), h15)) (
            some ((.bool false), h14))) (
          some ((.bool false), h14))) (
        some ((.bool false), h14))) (
      some ((.bool false), h14))) (
    len v20 fun n8 =>
    ld Try.prog h14 3 (nx h0) 0 fun v34 =>
    asI .i64 v34 fun n9 =>
    ifB (not (eq n8 n9)) (
      ifB (eq n2 2) (
        ifB (eq n3 2) (
          ifB (eq n4 2) (
            ifB (eq n7 2) (
              calls rec h14 22 [] fun v35 h16 =>
              asB v35 fun q2 =>
              some ((.bool q2), h16)) (
              some ((.bool false), h14))) (
            some ((.bool false), h14))) (
          some ((.bool false), h14))) (
        some ((.bool false), h14))) (
      len v25 fun n10 =>
      ld Try.prog h14 3 (nx h0) 0 fun v36 =>
      asI .i64 v36 fun n11 =>
      ifB (not (eq n10 n11)) (
        ifB (eq n2 2) (
          ifB (eq n3 2) (
            ifB (eq n4 2) (
              ifB (eq n7 2) (
                calls rec h14 22 [] fun v37 h17 =>
                asB v37 fun q3 =>
                some ((.bool q3), h17)) (
                some ((.bool false), h14))) (
              some ((.bool false), h14))) (
            some ((.bool false), h14))) (
          some ((.bool false), h14))) (
        ifB (not (eq n5 0)) (
          some ((.bool false), h14)) (
          ifB (not (eq n6 0)) (
            some ((.bool false), h14)) (
            ifB (not (eq n2 n3)) (
              some ((.bool false), h14)) (
              ifB (not (eq n2 n4)) (
                some ((.bool false), h14)) (
                six v20 n1 1 fun b0 b1 =>
                ld Try.prog h14 3 b0 b1 fun v38 =>
                asI .i64 v38 fun n12 =>
                eqv Try.prog 4 (.bool (eq n2 0)) (.bool (le 0 n12)) fun q4 =>
                ifB (not q4) (
                  some ((.bool false), h14)) (
                  six v20 n1 1 fun b2 b3 =>
                  ld Try.prog h14 3 b2 b3 fun v39 =>
                  asI .i64 v39 fun n13 =>
                  six v25 n1 1 fun b4 b5 =>
                  ld Try.prog h14 3 b4 b5 fun v40 =>
                  asI .i64 v40 fun n14 =>
                  nn n0 (
                    eqv Try.prog 4 (.bool (le 0 n13)) (.bool (eq (and .i64 (shr .i64 n14 n0) 1) 1)) fun q5 =>
                    ifB (not q5) (
                      some ((.bool false), h14)) (
                      ifB (not (eq n2 0)) (
                        ifB (eq n2 4) (
                          ifB (not q0) (
                            calls rec h14 22 [] fun v41 h18 =>
                            asB v41 fun q6 =>
                            some ((.bool q6), h18)) (
                            some ((.bool false), h14))) (
                          some ((.bool false), h14))) (
                        bls Try.prog h14 58 3 [(0, v5), (1, v10), (2, v15)] fun v42 h19 =>
                        len v42 fun n15 =>
                        lp k (f8_l1 rec k n0 n1 h0 v42 n15) [(.bool false), (.int .i64 0)] h19 fun e0 ws1 h23 =>
                        onE e0 0 (
                          al h23 60 [.nilFunc] fun h24 =>
                          st Try.prog h24 60 (nx h23) 0 (.func (.func 46) #[] #[(pt (nx h0) 0)]) fun h25 =>
                          calls rec h25 47 [v5, (pt (nx h23) 0)] fun v49 h26 =>
                          asI .i64 v49 fun n20 =>
                          six v20 n1 1 fun b8 b9 =>
                          ld Try.prog h26 3 b8 b9 fun v50 =>
                          asI .i64 v50 fun n21 =>
                          ck (freq b8 (nx h25) (same h26 h25)) (
                            ifB (not (eq n20 n21)) (
                              some ((.bool false), h26)) (
                              ifB (not q0) (
                                calls rec h26 22 [] fun v51 h27 =>
                                asB v51 fun q8 =>
                                some ((.bool q8), h27)) (
                                calls rec h26 47 [v5, (pt (nx h23) 0)] fun v52 h28 =>
                                asI .i64 v52 fun n22 =>
                                calls rec h28 47 [v1, (pt (nx h23) 0)] fun v53 h29 =>
                                asI .i64 v53 fun n23 =>
                                ifB (le n22 n23) (
                                  len v10 fun n24 =>
                                  len v1 fun n25 =>
                                  ifB (le n24 n25) (
                                    calls rec h29 47 [v15, (pt (nx h23) 0)] fun v54 h30 =>
                                    asI .i64 v54 fun n26 =>
                                    ld Try.prog h30 60 (nx h23) 0 fun v55 =>
                                    ck (freq (nx h23) (nx h29) (same h30 h29)) (
                                      callsV rec h30 v55 [v15, (.int .i64 0)] fun v56 h31 =>
                                      asI .i64 v56 fun n27 =>
                                      calls rec h31 47 [v1, (pt (nx h23) 0)] fun v57 h32 =>
                                      asI .i64 v57 fun n28 =>
                                      ld Try.prog h32 60 (nx h23) 0 fun v58 =>
                                      ck (freq (nx h23) (nx h31) (same h32 h31)) (
                                        ck (freq (nx h23) (nx h30) (same h31 h30)) (
                                          ck (freq (nx h23) (nx h29) (same h30 h29)) (
                                            callsV rec h32 v58 [v1, (.int .i64 0)] fun v59 h33 =>
                                            asI .i64 v59 fun n29 =>
                                            ifB (le (sub .i64 n26 n27) (sub .i64 n28 n29)) (
                                              calls rec h33 22 [] fun v60 h34 =>
                                              asB v60 fun q9 =>
                                              some ((.bool q9), h34)) (
                                              some ((.bool false), h33))))))) (
                                    some ((.bool false), h29))) (
                                  some ((.bool false), h29)))))) (
                          onR e0 (
                            some (gv ws1 0, h23))))))))))))))

theorem e8 (rec : Rec) (k : Nat) (v0 : Value) (n0 : Int) (n1 : Int) (v1 : Value) (h : H) : bodyT Try.prog E0 SC (XC Try.prog rec k) 8 (Value × H) [.opq v0, .int .i64 n0, .int .i64 n1, .opq v1] h (fun v h => some (v, h)) = f8 rec k v0 n0 n1 v1 h := by kernel_rfl

theorem t8 {k : Nat} {v0 : Value} {n0 : Int} {n1 : Int} {v1 : Value} {h h1 : H} {v : Value} (hh : f8 rn k v0 n0 n1 v1 h = some (v, h1)) : rn 8 #[v0, .int .i64 n0, .int .i64 n1, v1] h = some (v, trunc Try.prog h h1 v) :=
  run_of_bodyT (args := [.opq v0, .int .i64 n0, .int .i64 n1, .opq v1]) rfl ((e8 _ _ _ _ _ _ _).trans hh)

theorem x8 {k : Nat} {v0 : Value} {n0 : Int} {n1 : Int} {v1 : Value} {h h1 : H} {v : Value} (hh : f8 rn k v0 n0 n1 v1 h = some (v, h1)) (hp : plainO v = false) : rn 8 #[v0, .int .i64 n0, .int .i64 n1, v1] h = some (v, h1) := by rw [t8 hh, trunc_not hp]

noncomputable def f10 (rec : Rec) (_k : Nat) (v0 : Value) (n0 : Int) (n1 : Int) (h0 : H) : Option (Value × H) :=
  bx h0 24 v0 fun h1 =>
  ld Try.prog h1 24 (nx h0) 0 fun v1 =>
  calls rec h1 18 [v1] fun v2 h2 =>
  calls rec h2 53 [v2, (.int .i64 n0), (.int .i64 n1)] fun v3 h3 =>
  ext v3 0 fun v4 =>
  asI .i64 v4 fun n2 =>
  ext v3 1 fun v5 =>
  asI .i64 v5 fun n3 =>
  ld Try.prog h3 24 (nx h0) 0 fun v6 =>
  calls rec h3 18 [v6] fun v7 h4 =>
  calls rec h4 54 [v7, (.int .i64 n0), (.int .i64 n1)] fun v8 h5 =>
  ext v8 0 fun v9 =>
  asI .i64 v9 fun n4 =>
  ext v8 1 fun v10 =>
  asI .i64 v10 fun n5 =>
  ld Try.prog h5 24 (nx h0) 0 fun v11 =>
  calls rec h5 21 [v11, (.int .i64 n0), (.int .i64 n1)] fun v12 h6 =>
  asB v12 fun q0 =>
  ifB (not q0) (
    ifB (eq n2 0) (
      ifB (eq n4 0) (
        ifB (eq n3 2) (
          ifB (eq n5 2) (
            calls rec h6 22 [] fun v13 h7 =>
            asB v13 fun q1 =>
            some ((.bool q1), h7)) (
            some ((.bool false), h6))) (
          some ((.bool false), h6))) (
        some ((.bool false), h6))) (
      some ((.bool false), h6))) (
    ld Try.prog h6 24 (nx h0) 0 fun v14 =>
    calls rec h6 55 [v14, (.int .i64 n0), (.int .i64 n1)] fun v15 h8 =>
    ext v15 0 fun v16 =>
    asI .i64 v16 fun n6 =>
    ext v15 1 fun v17 =>
    asI .i64 v17 fun n7 =>
    ld Try.prog h8 24 (nx h0) 0 fun v18 =>
    calls rec h8 56 [v18, (.int .i64 n0), (.int .i64 n1)] fun v19 h9 =>
    asI .i64 v19 fun n8 =>
    ifB (eq n2 n8) (
      ifB (eq n3 0) (
        ifB (eq n4 n6) (
          ifB (eq n5 n7) (
            calls rec h9 22 [] fun v20 h10 =>
            asB v20 fun q2 =>
            some ((.bool q2), h10)) (
            some ((.bool false), h9))) (
          some ((.bool false), h9))) (
        some ((.bool false), h9))) (
      some ((.bool false), h9)))

theorem e10 (rec : Rec) (k : Nat) (v0 : Value) (n0 : Int) (n1 : Int) (h : H) : bodyT Try.prog E0 SC (XC Try.prog rec k) 10 (Value × H) [.opq v0, .int .i64 n0, .int .i64 n1] h (fun v h => some (v, h)) = f10 rec k v0 n0 n1 h := by kernel_rfl

theorem t10 {k : Nat} {v0 : Value} {n0 : Int} {n1 : Int} {h h1 : H} {v : Value} (hh : f10 rn k v0 n0 n1 h = some (v, h1)) : rn 10 #[v0, .int .i64 n0, .int .i64 n1] h = some (v, trunc Try.prog h h1 v) :=
  run_of_bodyT (args := [.opq v0, .int .i64 n0, .int .i64 n1]) rfl ((e10 _ _ _ _ _ _).trans hh)

theorem x10 {k : Nat} {v0 : Value} {n0 : Int} {n1 : Int} {h h1 : H} {v : Value} (hh : f10 rn k v0 n0 n1 h = some (v, h1)) (hp : plainO v = false) : rn 10 #[v0, .int .i64 n0, .int .i64 n1] h = some (v, h1) := by rw [t10 hh, trunc_not hp]

noncomputable def f16_l1 (_rec : Rec) (_k : Nat) (n0 : Int) (v4 : Value) (v17 : Value) (v22 : Value) (v27 : Value) (n14 : Int) (ws0 : List Value) (h17 : H) : Option (Ex × List Value × H) :=
  asI .i64 (gv ws0 1) fun n15 =>
  ifB (lt n15 n14) (
    asK (gv ws0 1) fun n16 =>
    six v17 n16 1 fun b2 b3 =>
    ld Try.prog h17 3 b2 b3 fun v33 =>
    asI .i64 v33 fun n17 =>
    ifB (lt n17 0) (
      asK (gv ws0 1) fun n18 =>
      six v4 n18 1 fun b4 b5 =>
      ld Try.prog h17 3 b4 b5 fun v34 =>
      asI .i64 v34 fun n19 =>
      ifB (not (eq n19 (-1))) (
        out .ret [(.bool false), gv ws0 1] h17) (
        asK (gv ws0 1) fun n20 =>
        six v17 n20 1 fun b6 b7 =>
        ld Try.prog h17 3 b6 b7 fun v35 =>
        asI .i64 v35 fun n21 =>
        ifB (le 0 n21) (
          asK (gv ws0 1) fun n22 =>
          six v4 n22 1 fun b8 b9 =>
          ld Try.prog h17 3 b8 b9 fun v36 =>
          asI .i64 v36 fun n23 =>
          asK (gv ws0 1) fun n24 =>
          six v17 n24 1 fun b10 b11 =>
          ld Try.prog h17 3 b10 b11 fun v37 =>
          asI .i64 v37 fun n25 =>
          ifB (not (eq n23 (sub .i64 31 n25))) (
            out .ret [(.bool false), gv ws0 1] h17) (
            asK (gv ws0 1) fun n26 =>
            six v22 n26 1 fun b12 b13 =>
            ld Try.prog h17 3 b12 b13 fun v38 =>
            asI .i64 v38 fun n27 =>
            nn n0 (
              len v27 fun n28 =>
              six v27 (sub .i64 n28 1) 1 fun b14 b15 =>
              ld Try.prog h17 3 b14 b15 fun v39 =>
              asI .i64 v39 fun n29 =>
              asK (gv ws0 1) fun n30 =>
              nn n30 (
                ifB (not (eq (and .i64 (shr .i64 n27 n0) 1) (and .i64 (shr .i64 n29 n30) 1))) (
                  out .ret [(.bool false), gv ws0 1] h17) (
                  asI .i64 (gv ws0 1) fun n31 =>
                  out .normal [gv ws0 0, (.int .i64 (add .i64 n31 1))] h17))))) (
          asK (gv ws0 1) fun n32 =>
          six v22 n32 1 fun b16 b17 =>
          ld Try.prog h17 3 b16 b17 fun v40 =>
          asI .i64 v40 fun n33 =>
          nn n0 (
            len v27 fun n34 =>
            six v27 (sub .i64 n34 1) 1 fun b18 b19 =>
            ld Try.prog h17 3 b18 b19 fun v41 =>
            asI .i64 v41 fun n35 =>
            asK (gv ws0 1) fun n36 =>
            nn n36 (
              ifB (not (eq (and .i64 (shr .i64 n33 n0) 1) (and .i64 (shr .i64 n35 n36) 1))) (
                out .ret [(.bool false), gv ws0 1] h17) (
                asI .i64 (gv ws0 1) fun n37 =>
                out .normal [gv ws0 0, (.int .i64 (add .i64 n37 1))] h17)))))) (
      asK (gv ws0 1) fun n38 =>
      six v17 n38 1 fun b20 b21 =>
      ld Try.prog h17 3 b20 b21 fun v42 =>
      asI .i64 v42 fun n39 =>
      ifB (le 0 n39) (
        asK (gv ws0 1) fun n40 =>
        six v4 n40 1 fun b22 b23 =>
        ld Try.prog h17 3 b22 b23 fun v43 =>
        asI .i64 v43 fun n41 =>
        asK (gv ws0 1) fun n42 =>
        six v17 n42 1 fun b24 b25 =>
        ld Try.prog h17 3 b24 b25 fun v44 =>
        asI .i64 v44 fun n43 =>
        ifB (not (eq n41 (sub .i64 31 n43))) (
          out .ret [(.bool false), gv ws0 1] h17) (
          asK (gv ws0 1) fun n44 =>
          six v22 n44 1 fun b26 b27 =>
          ld Try.prog h17 3 b26 b27 fun v45 =>
          asI .i64 v45 fun n45 =>
          nn n0 (
            len v27 fun n46 =>
            six v27 (sub .i64 n46 1) 1 fun b28 b29 =>
            ld Try.prog h17 3 b28 b29 fun v46 =>
            asI .i64 v46 fun n47 =>
            asK (gv ws0 1) fun n48 =>
            nn n48 (
              ifB (not (eq (and .i64 (shr .i64 n45 n0) 1) (and .i64 (shr .i64 n47 n48) 1))) (
                out .ret [(.bool false), gv ws0 1] h17) (
                asI .i64 (gv ws0 1) fun n49 =>
                out .normal [gv ws0 0, (.int .i64 (add .i64 n49 1))] h17))))) (
        asK (gv ws0 1) fun n50 =>
        six v22 n50 1 fun b30 b31 =>
        ld Try.prog h17 3 b30 b31 fun v47 =>
        asI .i64 v47 fun n51 =>
        nn n0 (
          len v27 fun n52 =>
          six v27 (sub .i64 n52 1) 1 fun b32 b33 =>
          ld Try.prog h17 3 b32 b33 fun v48 =>
          asI .i64 v48 fun n53 =>
          asK (gv ws0 1) fun n54 =>
          nn n54 (
            ifB (not (eq (and .i64 (shr .i64 n51 n0) 1) (and .i64 (shr .i64 n53 n54) 1))) (
              out .ret [(.bool false), gv ws0 1] h17) (
              asI .i64 (gv ws0 1) fun n55 =>
              out .normal [gv ws0 0, (.int .i64 (add .i64 n55 1))] h17)))))) (
    out (.exit 0) [gv ws0 0, gv ws0 1] h17)

noncomputable def f16 (rec : Rec) (k : Nat) (v0 : Value) (n0 : Int) (h0 : H) : Option (Value × H) :=
  bx h0 24 v0 fun h1 =>
  ld Try.prog h1 24 (nx h0) 0 fun v1 =>
  calls rec h1 18 [v1] fun v2 h2 =>
  calls rec h2 62 [v2, (.int .i64 n0)] fun v3 h3 =>
  ext v3 0 fun v4 =>
  ext v3 1 fun v5 =>
  asI .i64 v5 fun n1 =>
  ld Try.prog h3 24 (nx h0) 0 fun v6 =>
  calls rec h3 18 [v6] fun v7 h4 =>
  calls rec h4 57 [v7] fun v8 h5 =>
  ext v8 0 fun v9 =>
  ext v8 1 fun v10 =>
  asI .i64 v10 fun n2 =>
  al h5 31 [(.int .i64 0), (.slice none 0 0)] fun h6 =>
  st Try.prog h6 31 (nx h5) 0 v9 fun h7 =>
  ifB (not (eq n1 0)) (
    ifB (eq n1 2) (
      ifB (eq n2 0) (
        calls rec h7 22 [] fun v11 h8 =>
        asB v11 fun q0 =>
        some ((.bool q0), h8)) (
        ifB (eq n2 2) (
          calls rec h7 22 [] fun v12 h9 =>
          asB v12 fun q1 =>
          some ((.bool q1), h9)) (
          some ((.bool false), h7)))) (
      some ((.bool false), h7))) (
    ifB (not (eq n2 0)) (
      ifB (eq n1 2) (
        ifB (eq n2 0) (
          calls rec h7 22 [] fun v13 h10 =>
          asB v13 fun q2 =>
          some ((.bool q2), h10)) (
          ifB (eq n2 2) (
            calls rec h7 22 [] fun v14 h11 =>
            asB v14 fun q3 =>
            some ((.bool q3), h11)) (
            some ((.bool false), h7)))) (
        some ((.bool false), h7))) (
      ld Try.prog h7 31 (nx h5) 0 fun v15 =>
      calls rec h7 45 [v15, (.int .i64 n0)] fun v16 h12 =>
      ext v16 0 fun v17 =>
      ext v16 1 fun v18 =>
      asI .i64 v18 fun n3 =>
      ld Try.prog h12 24 (nx h0) 0 fun v19 =>
      calls rec h12 18 [v19] fun v20 h13 =>
      calls rec h13 37 [v20] fun v21 h14 =>
      ext v21 0 fun v22 =>
      ext v21 1 fun v23 =>
      asI .i64 v23 fun n4 =>
      ld Try.prog h14 24 (nx h0) 0 fun v24 =>
      calls rec h14 18 [v24] fun v25 h15 =>
      calls rec h15 38 [v25, (.int .i64 n0)] fun v26 h16 =>
      ext v26 0 fun v27 =>
      ext v26 1 fun v28 =>
      asI .i64 v28 fun n5 =>
      ifB (not (eq n3 0)) (
        some ((.bool false), h16)) (
        ifB (not (eq n4 0)) (
          some ((.bool false), h16)) (
          ifB (not (eq n5 0)) (
            some ((.bool false), h16)) (
            len v4 fun n6 =>
            ld Try.prog h16 3 (nx h0) 0 fun v29 =>
            asI .i64 v29 fun n7 =>
            ifB (not (eq n6 n7)) (
              some ((.bool false), h16)) (
              len v17 fun n8 =>
              ld Try.prog h16 3 (nx h0) 0 fun v30 =>
              asI .i64 v30 fun n9 =>
              ifB (not (eq n8 n9)) (
                some ((.bool false), h16)) (
                len v22 fun n10 =>
                ld Try.prog h16 3 (nx h0) 0 fun v31 =>
                asI .i64 v31 fun n11 =>
                ifB (not (eq n10 n11)) (
                  some ((.bool false), h16)) (
                  len v27 fun n12 =>
                  ifB (eq n12 0) (
                    some ((.bool false), h16)) (
                    six v27 0 1 fun b0 b1 =>
                    ld Try.prog h16 3 b0 b1 fun v32 =>
                    asI .i64 v32 fun n13 =>
                    nn n0 (
                      ifB (not (eq n13 (shl .i64 1 n0))) (
                        some ((.bool false), h16)) (
                        len v4 fun n14 =>
                        lp k (f16_l1 rec k n0 v4 v17 v22 v27 n14) [(.bool false), (.int .i64 0)] h16 fun e0 ws1 h18 =>
                        onE e0 0 (
                          ld Try.prog h18 31 (nx h5) 0 fun v49 =>
                          calls rec h18 57 [v49] fun v50 h19 =>
                          ext v50 0 fun v51 =>
                          ext v50 1 fun v52 =>
                          asI .i64 v52 fun n56 =>
                          al h19 31 [(.int .i64 0), (.slice none 0 0)] fun h20 =>
                          st Try.prog h20 31 (nx h19) 0 v51 fun h21 =>
                          ifB (eq n56 0) (
                            ld Try.prog h21 29 (nx h19) (off 0 1) fun v53 =>
                            len v53 fun n57 =>
                            ld Try.prog h21 22 (nx h0) (off 0 1) fun v54 =>
                            len v54 fun n58 =>
                            ifB (eq n57 n58) (
                              calls rec h21 22 [] fun v55 h22 =>
                              asB v55 fun q4 =>
                              some ((.bool q4), h22)) (
                              some ((.bool false), h21))) (
                            some ((.bool false), h21))) (
                          onR e0 (
                            some (gv ws1 0, h18))))))))))))))

theorem e16 (rec : Rec) (k : Nat) (v0 : Value) (n0 : Int) (h : H) : bodyT Try.prog E0 SC (XC Try.prog rec k) 16 (Value × H) [.opq v0, .int .i64 n0] h (fun v h => some (v, h)) = f16 rec k v0 n0 h := by kernel_rfl

theorem t16 {k : Nat} {v0 : Value} {n0 : Int} {h h1 : H} {v : Value} (hh : f16 rn k v0 n0 h = some (v, h1)) : rn 16 #[v0, .int .i64 n0] h = some (v, trunc Try.prog h h1 v) :=
  run_of_bodyT (args := [.opq v0, .int .i64 n0]) rfl ((e16 _ _ _ _ _).trans hh)

theorem x16 {k : Nat} {v0 : Value} {n0 : Int} {h h1 : H} {v : Value} (hh : f16 rn k v0 n0 h = some (v, h1)) (hp : plainO v = false) : rn 16 #[v0, .int .i64 n0] h = some (v, h1) := by rw [t16 hh, trunc_not hp]

noncomputable def f57 (rec : Rec) (_k : Nat) (v0 : Value) (h0 : H) : Option (Value × H) :=
  bx h0 31 v0 fun h1 =>
  al h1 31 [(.int .i64 0), (.slice none 0 0)] fun h2 =>
  ld Try.prog h2 31 (nx h0) 0 fun v1 =>
  calls rec h2 71 [v1] fun v2 h3 =>
  asB v2 fun q0 =>
  ifB (not q0) (
    bld Try.prog 31 [] fun v3 =>
    st Try.prog h3 31 (nx h1) 0 v3 fun h4 =>
    ld Try.prog h4 31 (nx h1) 0 fun v4 =>
    some ((.tuple #[v4, (.int .i64 2)]), h4)) (
    ld Try.prog h3 31 (nx h0) 0 fun v5 =>
    calls rec h3 94 [v5] fun v6 h5 =>
    st Try.prog h5 31 (nx h1) 0 v6 fun h6 =>
    ld Try.prog h6 31 (nx h1) 0 fun v7 =>
    some ((.tuple #[v7, (.int .i64 0)]), h6))

theorem e57 (rec : Rec) (k : Nat) (v0 : Value) (h : H) : bodyT Try.prog E0 SC (XC Try.prog rec k) 57 (Value × H) [.opq v0] h (fun v h => some (v, h)) = f57 rec k v0 h := by kernel_rfl

theorem t57 {k : Nat} {v0 : Value} {h h1 : H} {v : Value} (hh : f57 rn k v0 h = some (v, h1)) : rn 57 #[v0] h = some (v, trunc Try.prog h h1 v) :=
  run_of_bodyT (args := [.opq v0]) rfl ((e57 _ _ _ _).trans hh)

theorem x57 {k : Nat} {v0 : Value} {h h1 : H} {v : Value} (hh : f57 rn k v0 h = some (v, h1)) (hp : plainO v = false) : rn 57 #[v0] h = some (v, h1) := by rw [t57 hh, trunc_not hp]

noncomputable def f58_l2 (_rec : Rec) (_k : Nat) (h2 : H) (ws0 : List Value) (v3 : Value) (n2 : Int) (ws1 : List Value) (h6 : H) : Option (Ex × List Value × H) :=
  asI .i64 (gv ws1 0) fun n3 =>
  ifB (lt n3 n2) (
    asK (gv ws1 0) fun n4 =>
    six v3 n4 3 fun b0 b1 =>
    ld Try.prog h6 59 b0 b1 fun v4 =>
    al h6 59 [(.int .i64 0), (.int .i64 0), (.int .i64 0)] fun h7 =>
    st Try.prog h7 59 (nx h6) 0 v4 fun h8 =>
    ld Try.prog h8 3 (nx h6) (off 0 2) fun v5 =>
    asI .i64 v5 fun n5 =>
    asI .i64 (gv ws0 0) fun n6 =>
    ifB (eq (sub .i64 31 n5) n6) (
      ld Try.prog h8 22 (nx h2) (off 0 1) fun v6 =>
      ld Try.prog h8 3 (nx h6) 0 fun v7 =>
      asI .i64 v7 fun n7 =>
      ld Try.prog h8 3 (nx h6) (off 0 1) fun v8 =>
      asI .i64 v8 fun n8 =>
      bld Try.prog 59 [(0, (.int .i64 n7)), (1, (.int .i64 n8)), (2, gv ws0 0)] fun v9 =>
      bls Try.prog h8 22 1 [(0, v9)] fun v10 h9 =>
      app Try.prog h9 22 22 v6 v10 fun v11 h10 =>
      st Try.prog h10 22 (nx h2) (off 0 1) v11 fun h11 =>
      asI .i64 (gv ws1 0) fun n9 =>
      out .normal [(.int .i64 (add .i64 n9 1))] h11) (
      asI .i64 (gv ws1 0) fun n10 =>
      out .normal [(.int .i64 (add .i64 n10 1))] h8)) (
    out (.exit 2) [gv ws1 0] h6)

noncomputable def f58_l1 (rec : Rec) (k : Nat) (h0 : H) (h2 : H) (ws0 : List Value) (h5 : H) : Option (Ex × List Value × H) :=
  asI .i64 (gv ws0 0) fun n1 =>
  ifB (le n1 30) (
    ld Try.prog h5 22 (nx h0) (off 0 1) fun v3 =>
    len v3 fun n2 =>
    lp k (f58_l2 rec k h2 ws0 v3 n2) [(.int .i64 0)] h5 fun e0 _ h12 =>
    onE e0 2 (
      asI .i64 (gv ws0 0) fun n11 =>
      out .normal [(.int .i64 (add .i64 n11 1))] h12) (
      none)) (
    out (.exit 0) [gv ws0 0] h5)

noncomputable def f58 (rec : Rec) (k : Nat) (v0 : Value) (h0 : H) : Option (Value × H) :=
  bx h0 24 v0 fun h1 =>
  al h1 24 [(.int .i64 0), (.slice none 0 0)] fun h2 =>
  ld Try.prog h2 3 (nx h0) 0 fun v1 =>
  asI .i64 v1 fun n0 =>
  bld Try.prog 24 [(0, (.int .i64 n0))] fun v2 =>
  al h2 24 [(.int .i64 0), (.slice none 0 0)] fun h3 =>
  st Try.prog h3 24 (nx h2) 0 v2 fun h4 =>
  lp k (f58_l1 rec k h0 h2) [(.int .i64 1)] h4 fun e1 _ h13 =>
  onE e1 0 (
    ld Try.prog h13 24 (nx h2) 0 fun v12 =>
    st Try.prog h13 24 (nx h1) 0 v12 fun h14 =>
    ld Try.prog h14 24 (nx h1) 0 fun v13 =>
    some (v13, h14)) (
    none)

theorem e58 (rec : Rec) (k : Nat) (v0 : Value) (h : H) : bodyT Try.prog E0 SC (XC Try.prog rec k) 58 (Value × H) [.opq v0] h (fun v h => some (v, h)) = f58 rec k v0 h := by kernel_rfl

theorem t58 {k : Nat} {v0 : Value} {h h1 : H} {v : Value} (hh : f58 rn k v0 h = some (v, h1)) : rn 58 #[v0] h = some (v, trunc Try.prog h h1 v) :=
  run_of_bodyT (args := [.opq v0]) rfl ((e58 _ _ _ _).trans hh)

theorem x58 {k : Nat} {v0 : Value} {h h1 : H} {v : Value} (hh : f58 rn k v0 h = some (v, h1)) (hp : plainO v = false) : rn 58 #[v0] h = some (v, h1) := by rw [t58 hh, trunc_not hp]

noncomputable def f62_l1 (_rec : Rec) (_k : Nat) (v7 : Value) (n1 : Int) (ws0 : List Value) (h6 : H) : Option (Ex × List Value × H) :=
  asI .i64 (gv ws0 0) fun n2 =>
  ifB (lt n2 n1) (
    asK (gv ws0 0) fun n3 =>
    six v7 n3 1 fun b0 b1 =>
    ld Try.prog h6 3 b0 b1 fun v8 =>
    asI .i64 v8 fun n4 =>
    ifB (not (eq n4 (-1))) (
      asK (gv ws0 0) fun n5 =>
      six v7 n5 1 fun b2 b3 =>
      st Try.prog h6 3 b2 b3 (.int .i64 (sub .i64 31 n4)) fun h7 =>
      asI .i64 (gv ws0 0) fun n6 =>
      out .normal [(.int .i64 (add .i64 n6 1))] h7) (
      asI .i64 (gv ws0 0) fun n7 =>
      out .normal [(.int .i64 (add .i64 n7 1))] h6)) (
    out (.exit 0) [gv ws0 0] h6)

noncomputable def f62 (rec : Rec) (k : Nat) (v0 : Value) (n0 : Int) (h0 : H) : Option (Value × H) :=
  bx h0 31 v0 fun h1 =>
  ld Try.prog h1 31 (nx h0) 0 fun v1 =>
  calls rec h1 71 [v1] fun v2 h2 =>
  asB v2 fun q0 =>
  ifB (not q0) (
    some ((.tuple #[(.slice none 0 0), (.int .i64 2)]), h2)) (
    ld Try.prog h2 31 (nx h0) 0 fun v3 =>
    calls rec h2 72 [v3, (.int .i64 n0)] fun v4 h3 =>
    asB v4 fun q1 =>
    ifB (not q1) (
      some ((.tuple #[(.slice none 0 0), (.int .i64 2)]), h3)) (
      ld Try.prog h3 31 (nx h0) 0 fun v5 =>
      calls rec h3 94 [v5] fun v6 h4 =>
      calls rec h4 81 [v6, (.int .i64 n0), (.int .i64 0)] fun v7 h5 =>
      len v7 fun n1 =>
      lp k (f62_l1 rec k v7 n1) [(.int .i64 0)] h5 fun e0 _ h8 =>
      onE e0 0 (
        some ((.tuple #[v7, (.int .i64 0)]), h8)) (
        none)))

theorem e62 (rec : Rec) (k : Nat) (v0 : Value) (n0 : Int) (h : H) : bodyT Try.prog E0 SC (XC Try.prog rec k) 62 (Value × H) [.opq v0, .int .i64 n0] h (fun v h => some (v, h)) = f62 rec k v0 n0 h := by kernel_rfl

theorem t62 {k : Nat} {v0 : Value} {n0 : Int} {h h1 : H} {v : Value} (hh : f62 rn k v0 n0 h = some (v, h1)) : rn 62 #[v0, .int .i64 n0] h = some (v, trunc Try.prog h h1 v) :=
  run_of_bodyT (args := [.opq v0, .int .i64 n0]) rfl ((e62 _ _ _ _ _).trans hh)

theorem x62 {k : Nat} {v0 : Value} {n0 : Int} {h h1 : H} {v : Value} (hh : f62 rn k v0 n0 h = some (v, h1)) (hp : plainO v = false) : rn 62 #[v0, .int .i64 n0] h = some (v, h1) := by rw [t62 hh, trunc_not hp]

noncomputable def f65 (rec : Rec) (_k : Nat) (v0 : Value) (n0 : Int) (n1 : Int) (v1 : Value) (h0 : H) : Option (Value × H) :=
  bx h0 31 v0 fun h1 =>
  bx h1 61 v1 fun h2 =>
  ld Try.prog h2 31 (nx h0) 0 fun v2 =>
  calls rec h2 71 [v2] fun v3 h3 =>
  asB v3 fun q0 =>
  ifB (not q0) (
    some ((.tuple #[(.slice none 0 0), (.int .i64 2)]), h3)) (
    ld Try.prog h3 31 (nx h0) 0 fun v4 =>
    calls rec h3 72 [v4, (.int .i64 n0)] fun v5 h4 =>
    asB v5 fun q1 =>
    ifB (not q1) (
      some ((.tuple #[(.slice none 0 0), (.int .i64 2)]), h4)) (
      ld Try.prog h4 31 (nx h0) 0 fun v6 =>
      calls rec h4 72 [v6, (.int .i64 n1)] fun v7 h5 =>
      asB v7 fun q2 =>
      ifB (not q2) (
        some ((.tuple #[(.slice none 0 0), (.int .i64 2)]), h5)) (
        ifB (eq n0 n1) (
          some ((.tuple #[(.slice none 0 0), (.int .i64 2)]), h5)) (
          al h5 25 [(.slice none 0 0)] fun h6 =>
          ld Try.prog h6 31 (nx h0) 0 fun v8 =>
          calls rec h6 85 [v8, (.int .i64 n0), (.int .i64 n1), (.func (.func 97) #[] #[(pt (nx h5) 0), (pt (nx h1) 0)])] fun _ h7 =>
          ld Try.prog h7 25 (nx h5) 0 fun v10 =>
          eqv Try.prog 25 v10 (.slice none 0 0) fun q3 =>
          ifB q3 (
            some ((.tuple #[(.slice none 0 0), (.int .i64 4)]), h7)) (
            ld Try.prog h7 25 (nx h5) 0 fun v11 =>
            some ((.tuple #[v11, (.int .i64 0)]), h7))))))

theorem e65 (rec : Rec) (k : Nat) (v0 : Value) (n0 : Int) (n1 : Int) (v1 : Value) (h : H) : bodyT Try.prog E0 SC (XC Try.prog rec k) 65 (Value × H) [.opq v0, .int .i64 n0, .int .i64 n1, .opq v1] h (fun v h => some (v, h)) = f65 rec k v0 n0 n1 v1 h := by kernel_rfl

theorem t65 {k : Nat} {v0 : Value} {n0 : Int} {n1 : Int} {v1 : Value} {h h1 : H} {v : Value} (hh : f65 rn k v0 n0 n1 v1 h = some (v, h1)) : rn 65 #[v0, .int .i64 n0, .int .i64 n1, v1] h = some (v, trunc Try.prog h h1 v) :=
  run_of_bodyT (args := [.opq v0, .int .i64 n0, .int .i64 n1, .opq v1]) rfl ((e65 _ _ _ _ _ _ _).trans hh)

theorem x65 {k : Nat} {v0 : Value} {n0 : Int} {n1 : Int} {v1 : Value} {h h1 : H} {v : Value} (hh : f65 rn k v0 n0 n1 v1 h = some (v, h1)) (hp : plainO v = false) : rn 65 #[v0, .int .i64 n0, .int .i64 n1, v1] h = some (v, h1) := by rw [t65 hh, trunc_not hp]

noncomputable def f66 (_rec : Rec) (_k : Nat) (v0 : Value) (v1 : Value) (h0 : H) : Option (Value × H) :=
  bx h0 31 v0 fun h1 =>
  ld Try.prog h1 29 (nx h0) (off 0 1) fun v2 =>
  len v1 fun n0 =>
  six v1 (sub .i64 n0 1) 1 fun b0 b1 =>
  ld Try.prog h1 3 b0 b1 fun v3 =>
  asI .i64 v3 fun n1 =>
  six v2 n1 3 fun b2 b3 =>
  ld Try.prog h1 3 b2 (off b3 2) fun v4 =>
  asI .i64 v4 fun n2 =>
  some ((.int .i64 n2), h1)

theorem e66 (rec : Rec) (k : Nat) (v0 : Value) (v1 : Value) (h : H) : bodyT Try.prog E0 SC (XC Try.prog rec k) 66 (Value × H) [.opq v0, .opq v1] h (fun v h => some (v, h)) = f66 rec k v0 v1 h := by kernel_rfl

theorem t66 {k : Nat} {v0 : Value} {v1 : Value} {h h1 : H} {v : Value} (hh : f66 rn k v0 v1 h = some (v, h1)) : rn 66 #[v0, v1] h = some (v, trunc Try.prog h h1 v) :=
  run_of_bodyT (args := [.opq v0, .opq v1]) rfl ((e66 _ _ _ _ _).trans hh)

theorem p66 {k : Nat} {v0 : Value} {v1 : Value} {h h1 : H} {v : Value} (hh : f66 rn k v0 v1 h = some (v, h1)) (hp : plainO v = true) (x : Ext h h1) : rn 66 #[v0, v1] h = some (v, h) := by rw [t66 hh, trunc_pure hp x]

noncomputable def f67 (_rec : Rec) (_k : Nat) (v0 : Value) (h0 : H) : Option (Value × H) :=
  len v0 fun n0 =>
  some ((.int .i64 n0), h0)

theorem e67 (rec : Rec) (k : Nat) (v0 : Value) (h : H) : bodyT Try.prog E0 SC (XC Try.prog rec k) 67 (Value × H) [.opq v0] h (fun v h => some (v, h)) = f67 rec k v0 h := by kernel_rfl

theorem t67 {k : Nat} {v0 : Value} {h h1 : H} {v : Value} (hh : f67 rn k v0 h = some (v, h1)) : rn 67 #[v0] h = some (v, trunc Try.prog h h1 v) :=
  run_of_bodyT (args := [.opq v0]) rfl ((e67 _ _ _ _).trans hh)

theorem p67 {k : Nat} {v0 : Value} {h h1 : H} {v : Value} (hh : f67 rn k v0 h = some (v, h1)) (hp : plainO v = true) (x : Ext h h1) : rn 67 #[v0] h = some (v, h) := by rw [t67 hh, trunc_pure hp x]

noncomputable def f68 (rec : Rec) (_k : Nat) (v0 : Value) (v1 : Value) (h0 : H) : Option (Value × H) :=
  asP v1 fun _ _ =>
  asP v1 fun b2 b3 =>
  ld Try.prog h0 31 b2 b3 fun v2 =>
  calls rec h0 66 [v2, v0] fun v3 h1 =>
  asI .i64 v3 fun n0 =>
  asP v1 fun b4 _ =>
  asP v1 fun b6 b7 =>
  ld Try.prog h1 31 b6 b7 fun v4 =>
  ck (freq b4 (nx h0) (same h1 h0)) (
    calls rec h1 69 [v4, v0] fun v5 h2 =>
    asI .i64 v5 fun n1 =>
    some ((.int .i64 (sub .i64 n0 n1)), h2))

theorem e68 (rec : Rec) (k : Nat) (v0 : Value) (v1 : Value) (h : H) : bodyT Try.prog E0 SC (XC Try.prog rec k) 68 (Value × H) [.opq v0, .opq v1] h (fun v h => some (v, h)) = f68 rec k v0 v1 h := by kernel_rfl

theorem t68 {k : Nat} {v0 : Value} {v1 : Value} {h h1 : H} {v : Value} (hh : f68 rn k v0 v1 h = some (v, h1)) : rn 68 #[v0, v1] h = some (v, trunc Try.prog h h1 v) :=
  run_of_bodyT (args := [.opq v0, .opq v1]) rfl ((e68 _ _ _ _ _).trans hh)

theorem p68 {k : Nat} {v0 : Value} {v1 : Value} {h h1 : H} {v : Value} (hh : f68 rn k v0 v1 h = some (v, h1)) (hp : plainO v = true) (x : Ext h h1) : rn 68 #[v0, v1] h = some (v, h) := by rw [t68 hh, trunc_pure hp x]

noncomputable def f69 (_rec : Rec) (_k : Nat) (v0 : Value) (v1 : Value) (h0 : H) : Option (Value × H) :=
  bx h0 31 v0 fun h1 =>
  ld Try.prog h1 29 (nx h0) (off 0 1) fun v2 =>
  six v1 0 1 fun b0 b1 =>
  ld Try.prog h1 3 b0 b1 fun v3 =>
  asI .i64 v3 fun n0 =>
  six v2 n0 3 fun b2 b3 =>
  ld Try.prog h1 3 b2 (off b3 2) fun v4 =>
  asI .i64 v4 fun n1 =>
  some ((.int .i64 n1), h1)

theorem e69 (rec : Rec) (k : Nat) (v0 : Value) (v1 : Value) (h : H) : bodyT Try.prog E0 SC (XC Try.prog rec k) 69 (Value × H) [.opq v0, .opq v1] h (fun v h => some (v, h)) = f69 rec k v0 v1 h := by kernel_rfl

theorem t69 {k : Nat} {v0 : Value} {v1 : Value} {h h1 : H} {v : Value} (hh : f69 rn k v0 v1 h = some (v, h1)) : rn 69 #[v0, v1] h = some (v, trunc Try.prog h h1 v) :=
  run_of_bodyT (args := [.opq v0, .opq v1]) rfl ((e69 _ _ _ _ _).trans hh)

theorem p69 {k : Nat} {v0 : Value} {v1 : Value} {h h1 : H} {v : Value} (hh : f69 rn k v0 v1 h = some (v, h1)) (hp : plainO v = true) (x : Ext h h1) : rn 69 #[v0, v1] h = some (v, h) := by rw [t69 hh, trunc_pure hp x]

noncomputable def f70_l1 (_rec : Rec) (_k : Nat) (n2 : Int) (h0 : H) (v2 : Value) (n3 : Int) (ws0 : List Value) (h3 : H) : Option (Ex × List Value × H) :=
  asI .i64 (gv ws0 2) fun n4 =>
  ifB (lt n4 n3) (
    asK (gv ws0 2) fun n5 =>
    six v2 n5 1 fun b0 b1 =>
    ld Try.prog h3 25 b0 b1 fun v3 =>
    ld Try.prog h3 22 (nx h0) (off 0 1) fun v4 =>
    six v3 0 1 fun b2 b3 =>
    ld Try.prog h3 3 b2 b3 fun v5 =>
    asI .i64 v5 fun n6 =>
    six v4 n6 3 fun b4 b5 =>
    ld Try.prog h3 3 b4 (off b5 2) fun v6 =>
    asI .i64 v6 fun n7 =>
    ld Try.prog h3 22 (nx h0) (off 0 1) fun v7 =>
    len v3 fun n8 =>
    six v3 (sub .i64 n8 1) 1 fun b6 b7 =>
    ld Try.prog h3 3 b6 b7 fun v8 =>
    asI .i64 v8 fun n9 =>
    six v7 n9 3 fun b8 b9 =>
    ld Try.prog h3 3 b8 (off b9 2) fun v9 =>
    asI .i64 v9 fun n10 =>
    len v3 fun n11 =>
    bld Try.prog 108 [(0, (.int .i64 n10)), (1, (.int .i64 n11)), (2, (.int .i64 (sub .i64 n10 n7)))] fun v10 =>
    inx Try.prog 108 v10 n2 fun v11 =>
    asI .i64 v11 fun n12 =>
    asI .i64 (gv ws0 1) fun n13 =>
    ifB (lt n12 n13) (
      asI .i64 (gv ws0 2) fun n14 =>
      out .normal [v3, (.int .i64 n12), (.int .i64 (add .i64 n14 1))] h3) (
      asI .i64 (gv ws0 2) fun n15 =>
      out .normal [gv ws0 0, gv ws0 1, (.int .i64 (add .i64 n15 1))] h3)) (
    out (.exit 0) [gv ws0 0, gv ws0 1, gv ws0 2] h3)

noncomputable def f70 (rec : Rec) (k : Nat) (v0 : Value) (n0 : Int) (n1 : Int) (n2 : Int) (h0 : H) : Option (Value × H) :=
  bx h0 24 v0 fun h1 =>
  ld Try.prog h1 24 (nx h0) 0 fun v1 =>
  calls rec h1 98 [v1, (.int .i64 n0), (.int .i64 n1)] fun v2 h2 =>
  len v2 fun n3 =>
  lp k (f70_l1 rec k n2 h0 v2 n3) [(.slice none 0 0), (.int .i64 99), (.int .i64 0)] h2 fun e0 ws1 h4 =>
  onE e0 0 (
    eqv Try.prog 25 (gv ws1 0) (.slice none 0 0) fun q0 =>
    ifB q0 (
      some ((.tuple #[(.slice none 0 0), (.int .i64 4)]), h4)) (
      some ((.tuple #[gv ws1 0, (.int .i64 0)]), h4))) (
    none)

theorem e70 (rec : Rec) (k : Nat) (v0 : Value) (n0 : Int) (n1 : Int) (n2 : Int) (h : H) : bodyT Try.prog E0 SC (XC Try.prog rec k) 70 (Value × H) [.opq v0, .int .i64 n0, .int .i64 n1, .int .i64 n2] h (fun v h => some (v, h)) = f70 rec k v0 n0 n1 n2 h := by kernel_rfl

theorem t70 {k : Nat} {v0 : Value} {n0 : Int} {n1 : Int} {n2 : Int} {h h1 : H} {v : Value} (hh : f70 rn k v0 n0 n1 n2 h = some (v, h1)) : rn 70 #[v0, .int .i64 n0, .int .i64 n1, .int .i64 n2] h = some (v, trunc Try.prog h h1 v) :=
  run_of_bodyT (args := [.opq v0, .int .i64 n0, .int .i64 n1, .int .i64 n2]) rfl ((e70 _ _ _ _ _ _ _).trans hh)

theorem x70 {k : Nat} {v0 : Value} {n0 : Int} {n1 : Int} {n2 : Int} {h h1 : H} {v : Value} (hh : f70 rn k v0 n0 n1 n2 h = some (v, h1)) (hp : plainO v = false) : rn 70 #[v0, .int .i64 n0, .int .i64 n1, .int .i64 n2] h = some (v, h1) := by rw [t70 hh, trunc_not hp]

noncomputable def f81_l1 (_rec : Rec) (_k : Nat) (n1 : Int) (v3 : Value) (v4 : Value) (n3 : Int) (ws0 : List Value) (h5 : H) : Option (Ex × List Value × H) :=
  asI .i64 (gv ws0 0) fun n4 =>
  ifB (lt n4 n3) (
    asK (gv ws0 0) fun n5 =>
    six v4 n5 3 fun b2 b3 =>
    ld Try.prog h5 56 b2 b3 fun v5 =>
    al h5 56 [(.int .i64 0), (.int .i64 0), (.int .i64 0)] fun h6 =>
    st Try.prog h6 56 (nx h5) 0 v5 fun h7 =>
    ld Try.prog h7 3 (nx h5) 0 fun v6 =>
    asI .i64 v6 fun n6 =>
    nn n6 (
      ifB (eq (and .i64 (shr .i64 n1 n6) 1) 1) (
        asI .i64 (gv ws0 0) fun n7 =>
        out .normal [(.int .i64 (add .i64 n7 1))] h7) (
        ld Try.prog h7 3 (nx h5) (off 0 1) fun v7 =>
        asI .i64 v7 fun n8 =>
        nn n8 (
          ifB (eq (and .i64 (shr .i64 n1 n8) 1) 1) (
            asI .i64 (gv ws0 0) fun n9 =>
            out .normal [(.int .i64 (add .i64 n9 1))] h7) (
            ld Try.prog h7 3 (nx h5) 0 fun v8 =>
            asI .i64 v8 fun n10 =>
            six v3 n10 1 fun b4 b5 =>
            ld Try.prog h7 3 b4 b5 fun v9 =>
            asI .i64 v9 fun n11 =>
            ld Try.prog h7 3 (nx h5) (off 0 1) fun v10 =>
            asI .i64 v10 fun n12 =>
            six v3 n12 1 fun b6 b7 =>
            ld Try.prog h7 3 b6 b7 fun v11 =>
            asI .i64 v11 fun n13 =>
            ifB (not (eq n11 (-1))) (
              ifB (eq n13 (-1)) (
                ld Try.prog h7 3 (nx h5) (off 0 1) fun v12 =>
                asI .i64 v12 fun n14 =>
                ld Try.prog h7 3 (nx h5) (off 0 2) fun v13 =>
                asI .i64 v13 fun n15 =>
                six v3 n14 1 fun b8 b9 =>
                st Try.prog h7 3 b8 b9 (.int .i64 n15) fun h8 =>
                asI .i64 (gv ws0 0) fun n16 =>
                out .normal [(.int .i64 (add .i64 n16 1))] h8) (
                ifB (not (eq n13 (-1))) (
                  ifB (eq n11 (-1)) (
                    ld Try.prog h7 3 (nx h5) 0 fun v14 =>
                    asI .i64 v14 fun n17 =>
                    ld Try.prog h7 3 (nx h5) (off 0 2) fun v15 =>
                    asI .i64 v15 fun n18 =>
                    six v3 n17 1 fun b10 b11 =>
                    st Try.prog h7 3 b10 b11 (.int .i64 n18) fun h9 =>
                    asI .i64 (gv ws0 0) fun n19 =>
                    out .normal [(.int .i64 (add .i64 n19 1))] h9) (
                    asI .i64 (gv ws0 0) fun n20 =>
                    out .normal [(.int .i64 (add .i64 n20 1))] h7)) (
                  asI .i64 (gv ws0 0) fun n21 =>
                  out .normal [(.int .i64 (add .i64 n21 1))] h7))) (
              ifB (not (eq n13 (-1))) (
                ifB (eq n11 (-1)) (
                  ld Try.prog h7 3 (nx h5) 0 fun v16 =>
                  asI .i64 v16 fun n22 =>
                  ld Try.prog h7 3 (nx h5) (off 0 2) fun v17 =>
                  asI .i64 v17 fun n23 =>
                  six v3 n22 1 fun b12 b13 =>
                  st Try.prog h7 3 b12 b13 (.int .i64 n23) fun h10 =>
                  asI .i64 (gv ws0 0) fun n24 =>
                  out .normal [(.int .i64 (add .i64 n24 1))] h10) (
                  asI .i64 (gv ws0 0) fun n25 =>
                  out .normal [(.int .i64 (add .i64 n25 1))] h7)) (
                asI .i64 (gv ws0 0) fun n26 =>
                out .normal [(.int .i64 (add .i64 n26 1))] h7))))))) (
    out (.exit 0) [gv ws0 0] h5)

noncomputable def f81 (rec : Rec) (k : Nat) (v0 : Value) (n0 : Int) (n1 : Int) (h0 : H) : Option (Value × H) :=
  bx h0 31 v0 fun h1 =>
  bls Try.prog h1 25 1 [(0, (.int .i64 (-1)))] fun v1 h2 =>
  ld Try.prog h2 3 (nx h0) 0 fun v2 =>
  asI .i64 v2 fun n2 =>
  calls rec h2 101 [v1, (.int .i64 n2)] fun v3 h3 =>
  six v3 n0 1 fun b0 b1 =>
  st Try.prog h3 3 b0 b1 (.int .i64 0) fun h4 =>
  ld Try.prog h4 29 (nx h0) (off 0 1) fun v4 =>
  len v4 fun n3 =>
  lp k (f81_l1 rec k n1 v3 v4 n3) [(.int .i64 0)] h4 fun e0 _ h11 =>
  onE e0 0 (
    some (v3, h11)) (
    none)

theorem e81 (rec : Rec) (k : Nat) (v0 : Value) (n0 : Int) (n1 : Int) (h : H) : bodyT Try.prog E0 SC (XC Try.prog rec k) 81 (Value × H) [.opq v0, .int .i64 n0, .int .i64 n1] h (fun v h => some (v, h)) = f81 rec k v0 n0 n1 h := by kernel_rfl

theorem t81 {k : Nat} {v0 : Value} {n0 : Int} {n1 : Int} {h h1 : H} {v : Value} (hh : f81 rn k v0 n0 n1 h = some (v, h1)) : rn 81 #[v0, .int .i64 n0, .int .i64 n1] h = some (v, trunc Try.prog h h1 v) :=
  run_of_bodyT (args := [.opq v0, .int .i64 n0, .int .i64 n1]) rfl ((e81 _ _ _ _ _ _).trans hh)

theorem x81 {k : Nat} {v0 : Value} {n0 : Int} {n1 : Int} {h h1 : H} {v : Value} (hh : f81 rn k v0 n0 n1 h = some (v, h1)) (hp : plainO v = false) : rn 81 #[v0, .int .i64 n0, .int .i64 n1] h = some (v, h1) := by rw [t81 hh, trunc_not hp]

noncomputable def f85 (rec : Rec) (_k : Nat) (v0 : Value) (n0 : Int) (n1 : Int) (v1 : Value) (h0 : H) : Option (Value × H) :=
  bx h0 31 v0 fun h1 =>
  bx h1 3 (.int .i64 n1) fun h2 =>
  bx h2 89 v1 fun h3 =>
  al h3 25 [(.slice none 0 0)] fun h4 =>
  al h4 121 [.nilFunc] fun h5 =>
  st Try.prog h5 121 (nx h4) 0 (.func (.func 104) #[] #[(pt (nx h0) 0), (pt (nx h3) 0), (pt (nx h1) 0), (pt (nx h2) 0), (pt (nx h4) 0)]) fun h6 =>
  ld Try.prog h6 121 (nx h4) 0 fun v2 =>
  nn n0 (
    callsV rec h6 v2 [(.int .i64 n0), (.int .i64 0), (.int .i64 (shl .i64 1 n0))] fun _ h7 =>
    some (undef, h7))

theorem e85 (rec : Rec) (k : Nat) (v0 : Value) (n0 : Int) (n1 : Int) (v1 : Value) (h : H) : bodyT Try.prog E0 SC (XC Try.prog rec k) 85 (Value × H) [.opq v0, .int .i64 n0, .int .i64 n1, .opq v1] h (fun v h => some (v, h)) = f85 rec k v0 n0 n1 v1 h := by kernel_rfl

theorem t85 {k : Nat} {v0 : Value} {n0 : Int} {n1 : Int} {v1 : Value} {h h1 : H} {v : Value} (hh : f85 rn k v0 n0 n1 v1 h = some (v, h1)) : rn 85 #[v0, .int .i64 n0, .int .i64 n1, v1] h = some (v, trunc Try.prog h h1 v) :=
  run_of_bodyT (args := [.opq v0, .int .i64 n0, .int .i64 n1, .opq v1]) rfl ((e85 _ _ _ _ _ _ _).trans hh)

theorem x85 {k : Nat} {v0 : Value} {n0 : Int} {n1 : Int} {v1 : Value} {h h1 : H} {v : Value} (hh : f85 rn k v0 n0 n1 v1 h = some (v, h1)) (hp : plainO v = false) : rn 85 #[v0, .int .i64 n0, .int .i64 n1, v1] h = some (v, h1) := by rw [t85 hh, trunc_not hp]

noncomputable def f94_l1 (_rec : Rec) (_k : Nat) (h2 : H) (v3 : Value) (n1 : Int) (ws0 : List Value) (h5 : H) : Option (Ex × List Value × H) :=
  asI .i64 (gv ws0 0) fun n2 =>
  ifB (lt n2 n1) (
    asK (gv ws0 0) fun n3 =>
    six v3 n3 3 fun b0 b1 =>
    ld Try.prog h5 56 b0 b1 fun v4 =>
    al h5 56 [(.int .i64 0), (.int .i64 0), (.int .i64 0)] fun h6 =>
    st Try.prog h6 56 (nx h5) 0 v4 fun h7 =>
    ld Try.prog h7 29 (nx h2) (off 0 1) fun v5 =>
    ld Try.prog h7 3 (nx h5) 0 fun v6 =>
    asI .i64 v6 fun n4 =>
    ld Try.prog h7 3 (nx h5) (off 0 1) fun v7 =>
    asI .i64 v7 fun n5 =>
    ld Try.prog h7 3 (nx h5) (off 0 2) fun v8 =>
    asI .i64 v8 fun n6 =>
    bld Try.prog 56 [(0, (.int .i64 n4)), (1, (.int .i64 n5)), (2, (.int .i64 (sub .i64 31 n6)))] fun v9 =>
    bls Try.prog h7 29 1 [(0, v9)] fun v10 h8 =>
    app Try.prog h8 29 29 v5 v10 fun v11 h9 =>
    st Try.prog h9 29 (nx h2) (off 0 1) v11 fun h10 =>
    asI .i64 (gv ws0 0) fun n7 =>
    out .normal [(.int .i64 (add .i64 n7 1))] h10) (
    out (.exit 0) [gv ws0 0] h5)

noncomputable def f94 (rec : Rec) (k : Nat) (v0 : Value) (h0 : H) : Option (Value × H) :=
  bx h0 31 v0 fun h1 =>
  al h1 31 [(.int .i64 0), (.slice none 0 0)] fun h2 =>
  ld Try.prog h2 3 (nx h0) 0 fun v1 =>
  asI .i64 v1 fun n0 =>
  bld Try.prog 31 [(0, (.int .i64 n0))] fun v2 =>
  al h2 31 [(.int .i64 0), (.slice none 0 0)] fun h3 =>
  st Try.prog h3 31 (nx h2) 0 v2 fun h4 =>
  ld Try.prog h4 29 (nx h0) (off 0 1) fun v3 =>
  len v3 fun n1 =>
  lp k (f94_l1 rec k h2 v3 n1) [(.int .i64 0)] h4 fun e0 _ h11 =>
  onE e0 0 (
    ld Try.prog h11 29 (nx h2) (off 0 1) fun v12 =>
    calls rec h11 108 [v12, (.func (.func 109) #[] #[])] fun _ h12 =>
    ld Try.prog h12 31 (nx h2) 0 fun v14 =>
    st Try.prog h12 31 (nx h1) 0 v14 fun h13 =>
    ld Try.prog h13 31 (nx h1) 0 fun v15 =>
    some (v15, h13)) (
    none)

theorem e94 (rec : Rec) (k : Nat) (v0 : Value) (h : H) : bodyT Try.prog E0 SC (XC Try.prog rec k) 94 (Value × H) [.opq v0] h (fun v h => some (v, h)) = f94 rec k v0 h := by kernel_rfl

theorem t94 {k : Nat} {v0 : Value} {h h1 : H} {v : Value} (hh : f94 rn k v0 h = some (v, h1)) : rn 94 #[v0] h = some (v, trunc Try.prog h h1 v) :=
  run_of_bodyT (args := [.opq v0]) rfl ((e94 _ _ _ _).trans hh)

theorem x94 {k : Nat} {v0 : Value} {h h1 : H} {v : Value} (hh : f94 rn k v0 h = some (v, h1)) (hp : plainO v = false) : rn 94 #[v0] h = some (v, h1) := by rw [t94 hh, trunc_not hp]

noncomputable def f97 (rec : Rec) (_k : Nat) (v0 : Value) (v1 : Value) (v2 : Value) (h0 : H) : Option (Value × H) :=
  asP v1 fun _ _ =>
  asP v1 fun b2 b3 =>
  ld Try.prog h0 25 b2 b3 fun v3 =>
  eqv Try.prog 25 v3 (.slice none 0 0) fun q0 =>
  ifB q0 (
    calls rec h0 75 [v0] fun v4 h1 =>
    asP v1 fun b4 b5 =>
    st Try.prog h1 25 b4 b5 v4 fun h2 =>
    some (undef, h2)) (
    asP v2 fun _ _ =>
    asP v2 fun b8 b9 =>
    ld Try.prog h0 61 b8 b9 fun v5 =>
    callsV rec h0 v5 [v0] fun v6 h3 =>
    asI .i64 v6 fun n0 =>
    asP v2 fun b10 _ =>
    asP v2 fun b12 b13 =>
    ld Try.prog h3 61 b12 b13 fun v7 =>
    ck (freq b10 (nx h0) (same h3 h0)) (
      asP v1 fun b14 _ =>
      asP v1 fun b16 b17 =>
      ld Try.prog h3 25 b16 b17 fun v8 =>
      ck (freq b14 (nx h0) (same h3 h0)) (
        callsV rec h3 v7 [v8] fun v9 h4 =>
        asI .i64 v9 fun n1 =>
        ifB (lt n0 n1) (
          calls rec h4 75 [v0] fun v10 h5 =>
          asP v1 fun b18 b19 =>
          st Try.prog h5 25 b18 b19 v10 fun h6 =>
          some (undef, h6)) (
          some (undef, h4)))))

theorem e97 (rec : Rec) (k : Nat) (v0 : Value) (v1 : Value) (v2 : Value) (h : H) : bodyT Try.prog E0 SC (XC Try.prog rec k) 97 (Value × H) [.opq v0, .opq v1, .opq v2] h (fun v h => some (v, h)) = f97 rec k v0 v1 v2 h := by kernel_rfl

theorem t97 {k : Nat} {v0 : Value} {v1 : Value} {v2 : Value} {h h1 : H} {v : Value} (hh : f97 rn k v0 v1 v2 h = some (v, h1)) : rn 97 #[v0, v1, v2] h = some (v, trunc Try.prog h h1 v) :=
  run_of_bodyT (args := [.opq v0, .opq v1, .opq v2]) rfl ((e97 _ _ _ _ _ _).trans hh)

theorem x97 {k : Nat} {v0 : Value} {v1 : Value} {v2 : Value} {h h1 : H} {v : Value} (hh : f97 rn k v0 v1 v2 h = some (v, h1)) (hp : plainO v = false) : rn 97 #[v0, v1, v2] h = some (v, h1) := by rw [t97 hh, trunc_not hp]

noncomputable def f98 (rec : Rec) (_k : Nat) (v0 : Value) (n0 : Int) (n1 : Int) (h0 : H) : Option (Value × H) :=
  bx h0 24 v0 fun h1 =>
  ld Try.prog h1 24 (nx h0) 0 fun v1 =>
  nn n0 (
    calls rec h1 111 [v1, (.int .i64 n0), (.int .i64 n1), (.int .i64 (shl .i64 1 n0)), (.int .i64 0), (.slice none 0 0)] fun v2 h2 =>
    some (v2, h2))

theorem e98 (rec : Rec) (k : Nat) (v0 : Value) (n0 : Int) (n1 : Int) (h : H) : bodyT Try.prog E0 SC (XC Try.prog rec k) 98 (Value × H) [.opq v0, .int .i64 n0, .int .i64 n1] h (fun v h => some (v, h)) = f98 rec k v0 n0 n1 h := by kernel_rfl

theorem t98 {k : Nat} {v0 : Value} {n0 : Int} {n1 : Int} {h h1 : H} {v : Value} (hh : f98 rn k v0 n0 n1 h = some (v, h1)) : rn 98 #[v0, .int .i64 n0, .int .i64 n1] h = some (v, trunc Try.prog h h1 v) :=
  run_of_bodyT (args := [.opq v0, .int .i64 n0, .int .i64 n1]) rfl ((e98 _ _ _ _ _ _).trans hh)

theorem x98 {k : Nat} {v0 : Value} {n0 : Int} {n1 : Int} {h h1 : H} {v : Value} (hh : f98 rn k v0 n0 n1 h = some (v, h1)) (hp : plainO v = false) : rn 98 #[v0, .int .i64 n0, .int .i64 n1] h = some (v, h1) := by rw [t98 hh, trunc_not hp]

noncomputable def f101_l1 (_rec : Rec) (_k : Nat) (v4 : Value) (ws0 : List Value) (h4 : H) : Option (Ex × List Value × H) :=
  len v4 fun n5 =>
  asI .i64 (gv ws0 0) fun n6 =>
  ifB (lt n6 n5) (
    sli Try.prog h4 25 v4 (some (gv ws0 0)) none none fun v5 =>
    sli Try.prog h4 25 v4 none (some (gv ws0 0)) none fun v6 =>
    cpy Try.prog h4 25 v5 v6 fun n7 h5 =>
    asI .i64 (gv ws0 0) fun n8 =>
    out .normal [(.int .i64 (add .i64 n8 n7))] h5) (
    out (.exit 0) [gv ws0 0] h4)

noncomputable def f101 (rec : Rec) (k : Nat) (v0 : Value) (n0 : Int) (h0 : H) : Option (Value × H) :=
  ifB (lt n0 0) (
    none) (
    len v0 fun n1 =>
    calls rec h0 112 [(.int .u64 (wr .u64 n1)), (.int .u64 (wr .u64 n0))] fun v1 h1 =>
    ext v1 0 fun v2 =>
    asI .u64 v2 fun n2 =>
    ext v1 1 fun v3 =>
    asI .u64 v3 fun n3 =>
    ifB (lt 0 n2) (
      none) (
      ifB (lt 9223372036854775807 n3) (
        none) (
        mks Try.prog h1 25 (wr .i64 n3) (wr .i64 n3) fun v4 h2 =>
        cpy Try.prog h2 25 v4 v0 fun n4 h3 =>
        lp k (f101_l1 rec k v4) [(.int .i64 n4)] h3 fun e0 _ h6 =>
        onE e0 0 (
          some (v4, h6)) (
          none))))

theorem e101 (rec : Rec) (k : Nat) (v0 : Value) (n0 : Int) (h : H) : bodyT Try.prog E0 SC (XC Try.prog rec k) 101 (Value × H) [.opq v0, .int .i64 n0] h (fun v h => some (v, h)) = f101 rec k v0 n0 h := by kernel_rfl

theorem t101 {k : Nat} {v0 : Value} {n0 : Int} {h h1 : H} {v : Value} (hh : f101 rn k v0 n0 h = some (v, h1)) : rn 101 #[v0, .int .i64 n0] h = some (v, trunc Try.prog h h1 v) :=
  run_of_bodyT (args := [.opq v0, .int .i64 n0]) rfl ((e101 _ _ _ _ _).trans hh)

theorem x101 {k : Nat} {v0 : Value} {n0 : Int} {h h1 : H} {v : Value} (hh : f101 rn k v0 n0 h = some (v, h1)) (hp : plainO v = false) : rn 101 #[v0, .int .i64 n0] h = some (v, h1) := by rw [t101 hh, trunc_not hp]

noncomputable def f104_l1 (rec : Rec) (_k : Nat) (n0 : Int) (n1 : Int) (n2 : Int) (v1 : Value) (v2 : Value) (v3 : Value) (v4 : Value) (v5 : Value) (n3 : Int) (ws0 : List Value) (h1 : H) : Option (Ex × List Value × H) :=
  asI .i64 (gv ws0 0) fun n4 =>
  ifB (lt n4 n3) (
    asK (gv ws0 0) fun n5 =>
    six v5 n5 3 fun b2 b3 =>
    ld Try.prog h1 56 b2 b3 fun v6 =>
    al h1 56 [(.int .i64 0), (.int .i64 0), (.int .i64 0)] fun h2 =>
    st Try.prog h2 56 (nx h1) 0 v6 fun h3 =>
    ld Try.prog h3 3 (nx h1) (off 0 2) fun v7 =>
    asI .i64 v7 fun n6 =>
    ifB (le n6 n1) (
      asI .i64 (gv ws0 0) fun n7 =>
      out .normal [(.int .i64 (add .i64 n7 1))] h3) (
      ld Try.prog h3 56 (nx h1) 0 fun v8 =>
      calls rec h3 73 [v8, (.int .i64 n0)] fun v9 h4 =>
      asB v9 fun q0 =>
      ifB (not q0) (
        asI .i64 (gv ws0 0) fun n8 =>
        out .normal [(.int .i64 (add .i64 n8 1))] h4) (
        ld Try.prog h4 56 (nx h1) 0 fun v10 =>
        calls rec h4 74 [v10, (.int .i64 n0)] fun v11 h5 =>
        asI .i64 v11 fun n9 =>
        nn n9 (
          ifB (eq (and .i64 (shr .i64 n2 n9) 1) 1) (
            asI .i64 (gv ws0 0) fun n10 =>
            out .normal [(.int .i64 (add .i64 n10 1))] h5) (
            ld Try.prog h5 56 (nx h1) 0 fun v12 =>
            calls rec h5 74 [v12, (.int .i64 n0)] fun v13 h6 =>
            asI .i64 v13 fun n11 =>
            asP v1 fun b4 b5 =>
            ld Try.prog h6 25 b4 b5 fun v14 =>
            bls Try.prog h6 25 1 [(0, gv ws0 0)] fun v15 h7 =>
            app Try.prog h7 25 25 v14 v15 fun v16 h8 =>
            asP v1 fun b6 b7 =>
            st Try.prog h8 25 b6 b7 v16 fun h9 =>
            asP v2 fun b8 b9 =>
            ld Try.prog h9 3 b8 b9 fun v17 =>
            asI .i64 v17 fun n12 =>
            ifB (eq n11 n12) (
              asP v3 fun b10 b11 =>
              ld Try.prog h9 89 b10 b11 fun v18 =>
              asP v1 fun b12 b13 =>
              ld Try.prog h9 25 b12 b13 fun v19 =>
              callsV rec h9 v18 [v19] fun _ h10 =>
              asP v1 fun b14 b15 =>
              ld Try.prog h10 25 b14 b15 fun v21 =>
              asP v1 fun b16 b17 =>
              ld Try.prog h10 25 b16 b17 fun v22 =>
              len v22 fun n13 =>
              sli Try.prog h10 25 v21 none (some (.int .i64 (sub .i64 n13 1))) none fun v23 =>
              asP v1 fun b18 b19 =>
              st Try.prog h10 25 b18 b19 v23 fun h11 =>
              asI .i64 (gv ws0 0) fun n14 =>
              out .normal [(.int .i64 (add .i64 n14 1))] h11) (
              asP v4 fun _ _ =>
              asP v4 fun b22 b23 =>
              ld Try.prog h9 121 b22 b23 fun v24 =>
              ld Try.prog h9 3 (nx h1) (off 0 2) fun v25 =>
              asI .i64 v25 fun n15 =>
              nn n11 (
                callsV rec h9 v24 [(.int .i64 n11), (.int .i64 n15), (.int .i64 (or .i64 n2 (shl .i64 1 n11)))] fun _ h12 =>
                asP v1 fun b24 b25 =>
                ld Try.prog h12 25 b24 b25 fun v27 =>
                asP v1 fun b26 b27 =>
                ld Try.prog h12 25 b26 b27 fun v28 =>
                len v28 fun n16 =>
                sli Try.prog h12 25 v27 none (some (.int .i64 (sub .i64 n16 1))) none fun v29 =>
                asP v1 fun b28 b29 =>
                st Try.prog h12 25 b28 b29 v29 fun h13 =>
                asI .i64 (gv ws0 0) fun n17 =>
                out .normal [(.int .i64 (add .i64 n17 1))] h13))))))) (
    out (.exit 0) [gv ws0 0] h1)

noncomputable def f104 (rec : Rec) (k : Nat) (n0 : Int) (n1 : Int) (n2 : Int) (v0 : Value) (v1 : Value) (v2 : Value) (v3 : Value) (v4 : Value) (h0 : H) : Option (Value × H) :=
  asP v0 fun b0 b1 =>
  ld Try.prog h0 29 b0 (off b1 1) fun v5 =>
  len v5 fun n3 =>
  lp k (f104_l1 rec k n0 n1 n2 v1 v2 v3 v4 v5 n3) [(.int .i64 0)] h0 fun e0 _ h14 =>
  onE e0 0 (
    some (undef, h14)) (
    none)

theorem e104 (rec : Rec) (k : Nat) (n0 : Int) (n1 : Int) (n2 : Int) (v0 : Value) (v1 : Value) (v2 : Value) (v3 : Value) (v4 : Value) (h : H) : bodyT Try.prog E0 SC (XC Try.prog rec k) 104 (Value × H) [.int .i64 n0, .int .i64 n1, .int .i64 n2, .opq v0, .opq v1, .opq v2, .opq v3, .opq v4] h (fun v h => some (v, h)) = f104 rec k n0 n1 n2 v0 v1 v2 v3 v4 h := by kernel_rfl

theorem t104 {k : Nat} {n0 : Int} {n1 : Int} {n2 : Int} {v0 : Value} {v1 : Value} {v2 : Value} {v3 : Value} {v4 : Value} {h h1 : H} {v : Value} (hh : f104 rn k n0 n1 n2 v0 v1 v2 v3 v4 h = some (v, h1)) : rn 104 #[.int .i64 n0, .int .i64 n1, .int .i64 n2, v0, v1, v2, v3, v4] h = some (v, trunc Try.prog h h1 v) :=
  run_of_bodyT (args := [.int .i64 n0, .int .i64 n1, .int .i64 n2, .opq v0, .opq v1, .opq v2, .opq v3, .opq v4]) rfl ((e104 _ _ _ _ _ _ _ _ _ _ _).trans hh)

theorem x104 {k : Nat} {n0 : Int} {n1 : Int} {n2 : Int} {v0 : Value} {v1 : Value} {v2 : Value} {v3 : Value} {v4 : Value} {h h1 : H} {v : Value} (hh : f104 rn k n0 n1 n2 v0 v1 v2 v3 v4 h = some (v, h1)) (hp : plainO v = false) : rn 104 #[.int .i64 n0, .int .i64 n1, .int .i64 n2, v0, v1, v2, v3, v4] h = some (v, h1) := by rw [t104 hh, trunc_not hp]

noncomputable def f111_l1 (rec : Rec) (_k : Nat) (n0 : Int) (n1 : Int) (n2 : Int) (n3 : Int) (v1 : Value) (h0 : H) (v3 : Value) (n4 : Int) (ws0 : List Value) (h3 : H) : Option (Ex × List Value × H) :=
  asI .i64 (gv ws0 1) fun n5 =>
  ifB (lt n5 n4) (
    asK (gv ws0 1) fun n6 =>
    six v3 n6 3 fun b0 b1 =>
    ld Try.prog h3 59 b0 b1 fun v4 =>
    al h3 59 [(.int .i64 0), (.int .i64 0), (.int .i64 0)] fun h4 =>
    st Try.prog h4 59 (nx h3) 0 v4 fun h5 =>
    ld Try.prog h5 3 (nx h3) 0 fun v5 =>
    asI .i64 v5 fun n7 =>
    ld Try.prog h5 3 (nx h3) (off 0 1) fun v6 =>
    asI .i64 v6 fun n8 =>
    ld Try.prog h5 3 (nx h3) (off 0 2) fun v7 =>
    asI .i64 v7 fun n9 =>
    ifB (lt n3 n9) (
      ld Try.prog h5 3 (nx h3) 0 fun v8 =>
      asI .i64 v8 fun n10 =>
      ifB (eq n10 n0) (
        nn (sub .i64 (add .i64 n7 n8) n0) (
          ifB (eq (and .i64 (shr .i64 n2 (sub .i64 (add .i64 n7 n8) n0)) 1) 0) (
            ld Try.prog h5 24 (nx h0) 0 fun v9 =>
            nn (sub .i64 (add .i64 n7 n8) n0) (
              ld Try.prog h5 3 (nx h3) (off 0 2) fun v10 =>
              asI .i64 v10 fun n11 =>
              len v1 fun n12 =>
              len v1 fun n13 =>
              sli Try.prog h5 25 v1 none (some (.int .i64 n12)) (some (.int .i64 n13)) fun v11 =>
              bls Try.prog h5 25 1 [(0, gv ws0 1)] fun v12 h6 =>
              ck (fres v1 (nx h5) (same h6 h5)) (
                ck (freq (nx h3) (nx h5) (same h6 h5)) (
                  ck (freq (nx h0) (nx h5) (same h6 h5)) (
                    app Try.prog h6 25 25 v11 v12 fun v13 h7 =>
                    ck (freq (nx h3) (nx h6) (same h7 h6)) (
                      ck (freq (nx h0) (nx h6) (same h7 h6)) (
                        calls rec h7 111 [v9, (.int .i64 (sub .i64 (add .i64 n7 n8) n0)), (.int .i64 n1), (.int .i64 (or .i64 n2 (shl .i64 1 (sub .i64 (add .i64 n7 n8) n0)))), (.int .i64 n11), v13] fun v14 h8 =>
                        app Try.prog h8 58 58 (gv ws0 0) v14 fun v15 h9 =>
                        asI .i64 (gv ws0 1) fun n14 =>
                        out .normal [v15, (.int .i64 (add .i64 n14 1))] h9))))))) (
            asI .i64 (gv ws0 1) fun n15 =>
            out .normal [gv ws0 0, (.int .i64 (add .i64 n15 1))] h5))) (
        ld Try.prog h5 3 (nx h3) (off 0 1) fun v16 =>
        asI .i64 v16 fun n16 =>
        ifB (eq n16 n0) (
          nn (sub .i64 (add .i64 n7 n8) n0) (
            ifB (eq (and .i64 (shr .i64 n2 (sub .i64 (add .i64 n7 n8) n0)) 1) 0) (
              ld Try.prog h5 24 (nx h0) 0 fun v17 =>
              nn (sub .i64 (add .i64 n7 n8) n0) (
                ld Try.prog h5 3 (nx h3) (off 0 2) fun v18 =>
                asI .i64 v18 fun n17 =>
                len v1 fun n18 =>
                len v1 fun n19 =>
                sli Try.prog h5 25 v1 none (some (.int .i64 n18)) (some (.int .i64 n19)) fun v19 =>
                bls Try.prog h5 25 1 [(0, gv ws0 1)] fun v20 h10 =>
                ck (fres v1 (nx h5) (same h10 h5)) (
                  ck (freq (nx h3) (nx h5) (same h10 h5)) (
                    ck (freq (nx h0) (nx h5) (same h10 h5)) (
                      app Try.prog h10 25 25 v19 v20 fun v21 h11 =>
                      ck (freq (nx h3) (nx h10) (same h11 h10)) (
                        ck (freq (nx h0) (nx h10) (same h11 h10)) (
                          calls rec h11 111 [v17, (.int .i64 (sub .i64 (add .i64 n7 n8) n0)), (.int .i64 n1), (.int .i64 (or .i64 n2 (shl .i64 1 (sub .i64 (add .i64 n7 n8) n0)))), (.int .i64 n17), v21] fun v22 h12 =>
                          app Try.prog h12 58 58 (gv ws0 0) v22 fun v23 h13 =>
                          asI .i64 (gv ws0 1) fun n20 =>
                          out .normal [v23, (.int .i64 (add .i64 n20 1))] h13))))))) (
              asI .i64 (gv ws0 1) fun n21 =>
              out .normal [gv ws0 0, (.int .i64 (add .i64 n21 1))] h5))) (
          asI .i64 (gv ws0 1) fun n22 =>
          out .normal [gv ws0 0, (.int .i64 (add .i64 n22 1))] h5))) (
      asI .i64 (gv ws0 1) fun n23 =>
      out .normal [gv ws0 0, (.int .i64 (add .i64 n23 1))] h5)) (
    out (.exit 0) [gv ws0 0, gv ws0 1] h3)

noncomputable def f111 (rec : Rec) (k : Nat) (v0 : Value) (n0 : Int) (n1 : Int) (n2 : Int) (n3 : Int) (v1 : Value) (h0 : H) : Option (Value × H) :=
  bx h0 24 v0 fun h1 =>
  ifB (eq n0 n1) (
    bls Try.prog h1 58 1 [(0, v1)] fun v2 h2 =>
    some (v2, h2)) (
    ld Try.prog h1 22 (nx h0) (off 0 1) fun v3 =>
    len v3 fun n4 =>
    lp k (f111_l1 rec k n0 n1 n2 n3 v1 h0 v3 n4) [(.slice none 0 0), (.int .i64 0)] h1 fun e0 ws1 h14 =>
    onE e0 0 (
      some (gv ws1 0, h14)) (
      none))

theorem e111 (rec : Rec) (k : Nat) (v0 : Value) (n0 : Int) (n1 : Int) (n2 : Int) (n3 : Int) (v1 : Value) (h : H) : bodyT Try.prog E0 SC (XC Try.prog rec k) 111 (Value × H) [.opq v0, .int .i64 n0, .int .i64 n1, .int .i64 n2, .int .i64 n3, .opq v1] h (fun v h => some (v, h)) = f111 rec k v0 n0 n1 n2 n3 v1 h := by kernel_rfl

theorem t111 {k : Nat} {v0 : Value} {n0 : Int} {n1 : Int} {n2 : Int} {n3 : Int} {v1 : Value} {h h1 : H} {v : Value} (hh : f111 rn k v0 n0 n1 n2 n3 v1 h = some (v, h1)) : rn 111 #[v0, .int .i64 n0, .int .i64 n1, .int .i64 n2, .int .i64 n3, v1] h = some (v, trunc Try.prog h h1 v) :=
  run_of_bodyT (args := [.opq v0, .int .i64 n0, .int .i64 n1, .int .i64 n2, .int .i64 n3, .opq v1]) rfl ((e111 _ _ _ _ _ _ _ _ _).trans hh)

theorem x111 {k : Nat} {v0 : Value} {n0 : Int} {n1 : Int} {n2 : Int} {n3 : Int} {v1 : Value} {h h1 : H} {v : Value} (hh : f111 rn k v0 n0 n1 n2 n3 v1 h = some (v, h1)) (hp : plainO v = false) : rn 111 #[v0, .int .i64 n0, .int .i64 n1, .int .i64 n2, .int .i64 n3, v1] h = some (v, h1) := by rw [t111 hh, trunc_not hp]

noncomputable def f112 (rec : Rec) (_k : Nat) (v0 : Value) (v1 : Value) (h0 : H) : Option (Value × H) :=
  calls rec h0 116 [v0, v1] fun v2 h1 =>
  ext v2 0 fun v3 =>
  asI .u64 v3 fun n0 =>
  ext v2 1 fun v4 =>
  asI .u64 v4 fun n1 =>
  some ((.tuple #[(.int .u64 n0), (.int .u64 n1)]), h1)

theorem e112 (rec : Rec) (k : Nat) (v0 : Value) (v1 : Value) (h : H) : bodyT Try.prog E0 SC (XC Try.prog rec k) 112 (Value × H) [.opq v0, .opq v1] h (fun v h => some (v, h)) = f112 rec k v0 v1 h := by kernel_rfl

theorem t112 {k : Nat} {v0 : Value} {v1 : Value} {h h1 : H} {v : Value} (hh : f112 rn k v0 v1 h = some (v, h1)) : rn 112 #[v0, v1] h = some (v, trunc Try.prog h h1 v) :=
  run_of_bodyT (args := [.opq v0, .opq v1]) rfl ((e112 _ _ _ _ _).trans hh)

theorem p112 {k : Nat} {v0 : Value} {v1 : Value} {h h1 : H} {v : Value} (hh : f112 rn k v0 v1 h = some (v, h1)) (hp : plainO v = true) (x : Ext h h1) : rn 112 #[v0, v1] h = some (v, h) := by rw [t112 hh, trunc_pure hp x]

noncomputable def f116 (_rec : Rec) (_k : Nat) (v0 : Value) (v1 : Value) (h0 : H) : Option (Value × H) :=
  asI .u64 v0 fun n0 =>
  asI .u64 v0 fun n1 =>
  nn 32 (
    asI .u64 v1 fun n2 =>
    asI .u64 v1 fun n3 =>
    nn 32 (
      nn 32 (
        nn 32 (
          nn 32 (
            asI .u64 v0 fun n4 =>
            asI .u64 v1 fun n5 =>
            some ((.tuple #[(.int .u64 (add .u64 (add .u64 (mul .u64 (shr .u64 n1 32) (shr .u64 n3 32)) (shr .u64 (add .u64 (mul .u64 (shr .u64 n1 32) (and .u64 n2 4294967295)) (shr .u64 (mul .u64 (and .u64 n0 4294967295) (and .u64 n2 4294967295)) 32)) 32)) (shr .u64 (add .u64 (and .u64 (add .u64 (mul .u64 (shr .u64 n1 32) (and .u64 n2 4294967295)) (shr .u64 (mul .u64 (and .u64 n0 4294967295) (and .u64 n2 4294967295)) 32)) 4294967295) (mul .u64 (and .u64 n0 4294967295) (shr .u64 n3 32))) 32))), (.int .u64 (mul .u64 n4 n5))]), h0))))))

theorem e116 (rec : Rec) (k : Nat) (v0 : Value) (v1 : Value) (h : H) : bodyT Try.prog E0 SC (XC Try.prog rec k) 116 (Value × H) [.opq v0, .opq v1] h (fun v h => some (v, h)) = f116 rec k v0 v1 h := by kernel_rfl

theorem t116 {k : Nat} {v0 : Value} {v1 : Value} {h h1 : H} {v : Value} (hh : f116 rn k v0 v1 h = some (v, h1)) : rn 116 #[v0, v1] h = some (v, trunc Try.prog h h1 v) :=
  run_of_bodyT (args := [.opq v0, .opq v1]) rfl ((e116 _ _ _ _ _).trans hh)

theorem p116 {k : Nat} {v0 : Value} {v1 : Value} {h h1 : H} {v : Value} (hh : f116 rn k v0 v1 h = some (v, h1)) (hp : plainO v = true) (x : Ext h h1) : rn 116 #[v0, v1] h = some (v, h) := by rw [t116 hh, trunc_pure hp x]

end Go.AM

end

section

/- All ways in time, one after the other. -/
namespace Go.AM
open Go.Proofs
variable {R : Type}
attribute [local simp] nx_eq nx_new nx_set blk_new blk_set asI_int asK_int asB_bool asP_ptr al_eq bx_eq len_slice onE_exit onE_ret onR_ret Value.cells d3 d29 d31 d56 d24 d59 d22 d25 d121 d89 w3 w25 cell_new cell_set rd_new rd_set off eq lt le ifB gv out eqF1 eqF2 eqF3 eqF4 eqF5 eqF6 eqF7 eqF8 ext20 ext21 k42 k72 k73 k74
/-- Can a way go on with a call? -/
def goes (c : Kl) (at_ tm seen : Int) : Bool := !decide (c.t ≤ tm) && c.has at_ && !inP seen (c.oth at_)

/-- The set with one person more. -/
def withP (seen p : Int) : Int := AM.or .i64 seen (shl .i64 1 p)

/-- What comes of one call. -/
def wayStep (rec : Int → Int → Int → List (List Int)) (t at_ tm seen : Int) (i : Nat) (c : Kl) : List (List Int) :=
  if goes c at_ tm seen = true then (if c.oth at_ = t then [[(i : Int)]] else (rec (c.oth at_) c.t (withP seen (c.oth at_))).map ((i : Int) :: ·)) else []

/-- All ways on from a person, in order. -/
def waysF (l : List Kl) (t : Int) : Nat → Int → Int → Int → List (List Int)
  | 0, _, _, _ => []
  | f + 1, at_, tm, seen => foldI (fun i c acc => acc ++ wayStep (waysF l t f) t at_ tm seen i c) l 0 []

/-- A function that is called with a slice of numbers: what it makes of a state; D: what it holds above 'lo'; O: what it may turn below. -/
structure Cb {σ : Type} (fv : Value) (lo : Nat) (O : Nat → Prop) (okw : List Int → Prop) (Inv : σ → List Nat → H → Prop) (stp : σ → List Int → σ) : Prop where
  keep : ∀ σ D g g', Inv σ D g → g.nx ≤ g'.nx → (∀ b, b < lo → g'.blk b = g.blk b) → (∀ b ∈ D, g'.blk b = g.blk b) → Inv σ D g'
  bel : ∀ σ D g, Inv σ D g → ∀ b ∈ D, lo ≤ b ∧ b < g.nx
  call : ∀ σ D g wv w, Inv σ D g → lo ≤ g.nx → SlR g 3 1 wv (cellsI w) → okw w → (∀ b ∈ D, blkOf wv ≠ some b) → (∀ b, blkOf wv = some b → lo ≤ b) →
    ∃ g' D', callV rn fv #[wv] g = some (undef, g') ∧ Inv (stp σ w) D' g' ∧ g.nx ≤ g'.nx ∧ (∀ b, b < g.nx → ¬ O b → b ∉ D → g'.blk b = g.blk b) ∧ (∀ b ∈ D', b ∈ D ∨ g.nx ≤ b)

/-- What the search holds. -/
structure WS {σ : Type} (lo : Nat) (O : Nat → Prop) (Inv : σ → List Nat → H → Prop) (n : Int) (sl fv : Value) (l : List Kl) (t : Int) (lb wb tb fb gb : Nat) (w : List Int) (wv : Value) (D : List Nat) (σ0 : σ) (g : H) : Prop where
  lo_ : lo ≤ g.nx
  hsl : SlR g 56 3 sl (l.map Kl.cells)
  slo : ∀ b, blkOf sl = some b → b < lo ∧ ¬ O b
  hlb : lo ≤ lb ∧ lb < g.nx ∧ g.blk lb = some (.row [iv n, sl] 31 true)
  htb : lo ≤ tb ∧ tb < g.nx ∧ g.blk tb = some (.row [iv t] 3 true)
  hfb : lo ≤ fb ∧ fb < g.nx ∧ g.blk fb = some (.row [fv] 89 true)
  hgb : lo ≤ gb ∧ gb < g.nx ∧ g.blk gb = some (.row [.func (.func 104) #[] #[pt lb 0, pt wb 0, pt tb 0, pt fb 0, pt gb 0]] 121 true)
  hwb : lo ≤ wb ∧ wb < g.nx ∧ g.blk wb = some (.row [wv] 25 true)
  ne : wb ≠ lb ∧ wb ≠ tb ∧ wb ≠ fb ∧ wb ≠ gb
  way : WqR lo g 3 1 wv (cellsI w)
  inv : Inv σ0 D g
  wt : blkOf wv ≠ some tb
  dis : ∀ b ∈ D, blkOf wv ≠ some b ∧ b ≠ wb ∧ b ≠ lb ∧ b ≠ tb ∧ b ≠ fb ∧ b ≠ gb

theorem slR_keep {h h' : H} {e : TypeId} {s : Nat} {v : Value} {l : List (List Value)} (a : SlR h e s v l) (hn : h.nx ≤ h'.nx) (hb : ∀ b, blkOf v = some b → h'.blk b = h.blk b) : SlR h' e s v l :=
  a.keep hn fun b o n c e => hb b (by rw [e]; rfl)

section
variable {σ : Type} {fv sl wv : Value} {lo : Nat} {O : Nat → Prop} {okw : List Int → Prop} {Inv : σ → List Nat → H → Prop} {stp : σ → List Int → σ} {n t : Int} {l : List Kl} {lb wb tb fb gb : Nat} {w : List Int} {D : List Nat} {σ0 : σ} {g : H}
theorem WS.turn (cb : Cb fv lo O okw Inv stp) (ws : WS lo O Inv n sl fv l t lb wb tb fb gb w wv D σ0 g) {g' : H} {w' : List Int} {wv' : Value} (hn : g.nx ≤ g'.nx) (hf : ∀ b, b < g.nx → b ≠ wb → blkOf wv ≠ some b → g'.blk b = g.blk b)
    (hw : g'.blk wb = some (.row [wv'] 25 true)) (ha : WqR lo g' 3 1 wv' (cellsI w')) (hb : ∀ b, blkOf wv' = some b → g.nx ≤ b ∨ blkOf wv = some b) : WS lo O Inv n sl fv l t lb wb tb fb gb w' wv' D σ0 g' := by
  have hwv : ∀ b, blkOf wv = some b → lo ≤ b ∧ ∃ c, g.blk b = some (.row c 3 true) := fun b hb => ⟨(ws.way.blkOf hb).1, (ws.way.blkOf hb).2.2⟩
  have other : ∀ b c e, b < g.nx → b ≠ wb → g.blk b = some (.row c e true) → e ≠ 3 → g'.blk b = some (.row c e true) := fun b c e h1 h2 h3 h4 => (hf b h1 h2 (fun h => by
    obtain ⟨_, c', h5⟩ := hwv b h
    rw [h3] at h5
    simp at h5
    exact h4 h5.2)).trans h3
  have hbel := cb.bel _ _ _ ws.inv
  have htb : g'.blk tb = some (.row [iv t] 3 true) := by
    exact (hf tb ws.htb.2.1 (Ne.symm ws.ne.2.1) ws.wt).trans ws.htb.2.2
  refine ⟨Nat.le_trans ws.lo_ hn, slR_keep ws.hsl hn fun b hb' => ?_, ws.slo, ⟨ws.hlb.1, Nat.lt_of_lt_of_le ws.hlb.2.1 hn, other _ _ _ ws.hlb.2.1 (Ne.symm ws.ne.1) ws.hlb.2.2 (by decide)⟩, ⟨ws.htb.1, Nat.lt_of_lt_of_le ws.htb.2.1 hn, htb⟩,
    ⟨ws.hfb.1, Nat.lt_of_lt_of_le ws.hfb.2.1 hn, other _ _ _ ws.hfb.2.1 (Ne.symm ws.ne.2.2.1) ws.hfb.2.2 (by decide)⟩, ⟨ws.hgb.1, Nat.lt_of_lt_of_le ws.hgb.2.1 hn, other _ _ _ ws.hgb.2.1 (Ne.symm ws.ne.2.2.2) ws.hgb.2.2 (by decide)⟩,
    ⟨ws.hwb.1, Nat.lt_of_lt_of_le ws.hwb.2.1 hn, hw⟩, ws.ne, ha, ?_, fun h => ?_, fun b hb' => ⟨fun h => ?_, (ws.dis b hb').2⟩⟩
  · have := (ws.slo b hb').1
    exact hf b (by have := ws.lo_; omega) (by have := ws.hwb.1; omega) (fun h => by have := (hwv b h).1; omega)
  · exact cb.keep _ _ _ _ ws.inv hn (fun b hb' => hf b (by have := ws.lo_; omega) (by have := ws.hwb.1; omega) (fun h => by have := (hwv b h).1; omega)) (fun b hb' => hf b (hbel b hb').2 (ws.dis b hb').2.1 (ws.dis b hb').1)
  · rcases hb tb h with h1 | h1
    · have := ws.htb.2.1; omega
    · exact ws.wt h1
  · rcases hb b h with h1 | h1
    · have := (hbel b hb').2; omega
    · exact (ws.dis b hb').1 h1

theorem WS.ext (cb : Cb fv lo O okw Inv stp) (ws : WS lo O Inv n sl fv l t lb wb tb fb gb w wv D σ0 g) {g' : H} (x : Ext g g') : WS lo O Inv n sl fv l t lb wb tb fb gb w wv D σ0 g' :=
  ws.turn cb x.nx (fun b hb _ _ => x.blk b hb) ((x.blk _ ws.hwb.2.1).trans ws.hwb.2.2) (ws.way.keep x.nx fun b hb => x.blk b (ws.way.blkOf hb).2.1) (fun _ h => .inr h)

theorem WS.called (cb : Cb fv lo O okw Inv stp) (hO : ∀ b, O b → b < lo) (ws : WS lo O Inv n sl fv l t lb wb tb fb gb w wv D σ0 g) (hok : okw w) :
    ∃ g' D', callV rn fv #[wv] g = some (undef, g') ∧ WS lo O Inv n sl fv l t lb wb tb fb gb w wv D' (stp σ0 w) g' ∧ g.nx ≤ g'.nx ∧ (∀ b, b < lo → ¬ O b → g'.blk b = g.blk b) := by
  have hbel := cb.bel _ _ _ ws.inv
  obtain ⟨g', D', e, i', n', f', d'⟩ := cb.call _ _ _ _ _ ws.inv ws.lo_ ws.way.slR hok (fun b hb => (ws.dis b hb).1) (fun b hb => (ws.way.blkOf hb).1)
  have up : ∀ b, lo ≤ b → b < g.nx → b ∉ D → g'.blk b = g.blk b := fun b h1 h2 h3 => f' b h2 (fun h => by have := hO b h; omega) h3
  refine ⟨g', D', e, ⟨Nat.le_trans ws.lo_ n', slR_keep ws.hsl n' fun b hb => ?_, ws.slo, ⟨ws.hlb.1, Nat.lt_of_lt_of_le ws.hlb.2.1 n', ?_⟩, ⟨ws.htb.1, Nat.lt_of_lt_of_le ws.htb.2.1 n', ?_⟩, ⟨ws.hfb.1, Nat.lt_of_lt_of_le ws.hfb.2.1 n', ?_⟩, ⟨ws.hgb.1, Nat.lt_of_lt_of_le ws.hgb.2.1 n', ?_⟩,
    ⟨ws.hwb.1, Nat.lt_of_lt_of_le ws.hwb.2.1 n', ?_⟩, ws.ne, ws.way.keep n' fun b hb => ?_, i', ws.wt, fun b hb => ?_⟩, n', fun b h1 h2 => f' b (by have := ws.lo_; omega) h2 (fun h => by have := (hbel b h).1; omega)⟩
  · have := ws.slo b hb
    exact f' b (by have := ws.lo_; omega) this.2 (fun h => by have := (hbel b h).1; omega)
  · exact (up lb ws.hlb.1 ws.hlb.2.1 (fun h => (ws.dis _ h).2.2.1 rfl)).trans ws.hlb.2.2
  · exact (up tb ws.htb.1 ws.htb.2.1 (fun h => (ws.dis _ h).2.2.2.1 rfl)).trans ws.htb.2.2
  · exact (up fb ws.hfb.1 ws.hfb.2.1 (fun h => (ws.dis _ h).2.2.2.2.1 rfl)).trans ws.hfb.2.2
  · exact (up gb ws.hgb.1 ws.hgb.2.1 (fun h => (ws.dis _ h).2.2.2.2.2 rfl)).trans ws.hgb.2.2
  · exact (up wb ws.hwb.1 ws.hwb.2.1 (fun h => (ws.dis _ h).2.1 rfl)).trans ws.hwb.2.2
  · exact up b (ws.way.blkOf hb).1 (ws.way.blkOf hb).2.1 (fun h => (ws.dis _ h).1 hb)
  · rcases d' b hb with h | h
    · exact ws.dis b h
    · have h1 := ws.hlb.2.1
      have h2 := ws.htb.2.1
      have h3 := ws.hfb.2.1
      have h4 := ws.hgb.2.1
      have h5 := ws.hwb.2.1
      exact ⟨fun h6 => by have := (ws.way.blkOf h6).2.1; omega, by omega, by omega, by omega, by omega, by omega⟩

theorem mem_app {α β : Type} {st : Nat → α → List β} {x : β} : ∀ (l : List α) (i : Nat) (acc : List β), x ∈ foldI (fun i c acc => acc ++ st i c) l i acc ↔ x ∈ acc ∨ ∃ j c, l[j]? = some c ∧ x ∈ st (i + j) c := by
  intro l
  induction l with
  | nil => intro i acc; simp [foldI]
  | cons c l ih =>
    intro i acc
    simp only [foldI]
    rw [ih, List.mem_append]
    constructor
    · rintro ((h | h) | ⟨j, d, h1, h2⟩)
      · exact .inl h
      · exact .inr ⟨0, c, rfl, h⟩
      · exact .inr ⟨j + 1, d, by simpa using h1, by rw [show i + (j + 1) = i + 1 + j by omega]; exact h2⟩
    · rintro (h | ⟨j, d, h1, h2⟩)
      · exact .inl (.inl h)
      · cases j with
        | zero => simp at h1; subst h1; exact .inl (.inr h2)
        | succ j => exact .inr ⟨j, d, by simpa using h1, by rw [show i + 1 + j = i + (j + 1) by omega]; exact h2⟩

/-- What the search does from a time on. -/
def GrowOk {σ : Type} (fv sl : Value) (lo : Nat) (O : Nat → Prop) (okw : List Int → Prop) (Inv : σ → List Nat → H → Prop) (stp : σ → List Int → σ) (n t : Int) (l : List Kl) (lb wb tb fb gb : Nat) (F : Nat) (tm : Int) : Prop :=
  ∀ (p seen : Int) (w : List Int) (wv : Value) (D : List Nat) (σ0 : σ) (g : H), 0 ≤ p ∧ p < n → w.length + F < 100 → WS lo O Inv n sl fv l t lb wb tb fb gb w wv D σ0 g → (∀ w' ∈ waysF l t F p tm seen, okw (w ++ w')) →
    ∃ g' wv' D', rn 104 #[iv p, iv tm, iv seen, pt lb 0, pt wb 0, pt tb 0, pt fb 0, pt gb 0] g = some (undef, g') ∧ WS lo O Inv n sl fv l t lb wb tb fb gb w wv' D' (((waysF l t F p tm seen).map (w ++ ·)).foldl stp σ0) g' ∧ g.nx ≤ g'.nx ∧
      (∀ b, b < lo → ¬ O b → g'.blk b = g.blk b)

theorem grow_body (cb : Cb fv lo O okw Inv stp) (hO : ∀ b, O b → b < lo) (hv : validP n l = true) (F : Nat) (tm : Int) (hrec : ∀ tm', tm < tm' → tm' ≤ 30 → GrowOk fv sl lo O okw Inv stp n t l lb wb tb fb gb F tm') :
    GrowOk fv sl lo O okw Inv stp n t l lb wb tb fb gb (F + 1) tm := by
  obtain ⟨hn1, hn7, hl24, hok⟩ := validP_ok hv
  intro p seen w wv D σ0 g hp hlen ws hokw
  obtain ⟨ws', g', hl, ⟨wv', D', wsN, n', f'⟩, _⟩ := lp_for (F := f104_l1 rn 30 p tm seen (pt wb 0) (pt tb 0) (pt fb 0) (pt gb 0) sl l.length) (k := 30) (l := l) (fun i c acc => acc ++ wayStep (waysF l t F) t p tm seen i c)
    (fun i acc ws g' => (∃ wv D, WS lo O Inv n sl fv l t lb wb tb fb gb w wv D ((acc.map (w ++ ·)).foldl stp σ0) g' ∧ g.nx ≤ g'.nx ∧ (∀ b, b < lo → ¬ O b → g'.blk b = g.blk b)) ∧ ws = [iv i]) 0 (ws := [iv 0]) (h := g) (s0 := [])
    ⟨⟨wv, D, ws, Nat.le_refl _, fun _ _ _ => rfl⟩, rfl⟩ (by omega)
    (by
      rintro acc ws' g' ⟨_, rfl⟩
      simp [f104_l1])
    (by
      rintro i c acc ws' g1 hc ⟨⟨wv, D, ws, n1, f1⟩, rfl⟩
      have hil := (List.getElem?_eq_some_iff.1 hc).1
      have hcok := hok _ _ hc
      have hadd : add .i64 (i : Int) 1 = (i : Int) + 1 := add64 (by omega) (by omega)
      have x3 := (Ext.refl g1).fresh 56 [iv 0, iv 0, iv 0] c.cells
      have hcb := blk_fresh g1 56 [iv 0, iv 0, iv 0] c.cells
      have hn3 : (g1.fresh 56 [iv 0, iv 0, iv 0] c.cells).nx = g1.nx + 1 := rfl
      have ws3 := ws.ext cb x3
      unfold f104_l1
      rw [show gv [iv i] 0 = iv i from rfl, asI_int, lt_t (by omega), ifB_true, asK_int, ws.hsl.ldA ag56 sz56 (by omega) (x := c.cells) (by simp [hc])]
      rw [al_st (zs := [iv 0, iv 0, iv 0]) (xs := c.cells) sz56 rfl rfl]
      generalize g1.fresh 56 [iv 0, iv 0, iv 0] c.cells = h3 at *
      simp only [Kl.cells] at hcb
      by_cases hg : goes c p tm seen = true
      · have hg' := hg
        simp only [goes, Bool.and_eq_true, Bool.not_eq_true', decide_eq_false_iff_not] at hg
        obtain ⟨⟨g_t, g_h⟩, g_s⟩ := hg
        have hoth := oth_ok hcok g_h
        have hcalc := oth_calc (by omega) hcok g_h
        have hin : AM.and .i64 (shr .i64 seen (c.oth p)) 1 ≠ 1 := by simpa [inP] using g_s
        -- one call more
        obtain ⟨v16, h8, e8, a8, n8, k8, b8, hb8, hb8'⟩ := ws3.way.push app25 app25 (bls25 (i : Int)) rfl rfl (by simp; omega) ws3.lo_
        have hwb3 : h3.blk wb = some (.row [wv] 25 true) := ws3.hwb.2.2
        have hwb8 : h8.blk wb = some (.row [wv] 25 true) := (k8 wb ws3.hwb.2.1 (fun h => by obtain ⟨_, _, c', h5⟩ := ws3.way.blkOf h; rw [hwb3] at h5; simp at h5)).trans hwb3
        have hw8 : wrc 1 h8 wb 0 v16 = some (h8.set wb (.row [v16] 25 true)) := by rw [wrc_one hwb8 a8.cells.1 a8.cells.2 (by simp)]; rfl
        have ws9 : WS lo O Inv n sl fv l t lb wb tb fb gb (w ++ [(i : Int)]) v16 D ((acc.map (w ++ ·)).foldl stp σ0) (h8.set wb (.row [v16] 25 true)) := by
          refine ws3.turn cb n8 (fun b h1 h2 h3 => by rw [blk_set_ne _ _ _ h2]; exact k8 b h1 h3) (blk_set_self _ _ _) ?_ (fun b hb => ?_)
          · have := a8.keep (h' := h8.set wb (.row [v16] 25 true)) (Nat.le_refl _) fun b hb => blk_set_ne _ _ _ (fun e => by
              subst e
              obtain ⟨_, _, c', h5⟩ := a8.blkOf hb
              rw [hwb8] at h5
              simp at h5)
            simpa using this
          · rw [hb8] at hb
            cases hb
            exact hb8'
        have hcb9 : (h8.set wb (.row [v16] 25 true)).blk g1.nx = some (.row [iv c.a, iv c.b, iv c.t] 56 true) := by
          have h1 := ws.hwb.2.1
          rw [blk_set_ne _ _ _ (by omega), k8 g1.nx (by omega) (fun h => by obtain ⟨_, h5, _⟩ := ws.way.blkOf h; omega)]
          exact hcb
        have n9 : g1.nx ≤ (h8.set wb (.row [v16] 25 true)).nx := by rw [nx_set]; omega
        have f9 : ∀ b, b < lo → (h8.set wb (.row [v16] 25 true)).blk b = g1.blk b := fun b hb => by
          have h1 := ws.hwb.1
          have h2 := ws.lo_
          rw [blk_set_ne _ _ _ (by omega), k8 b (by omega) (fun h => by obtain ⟨h5, _⟩ := ws.way.blkOf h; omega)]
          exact x3.blk b (by omega)
        generalize h8.set wb (.row [v16] 25 true) = h9 at *
        -- and without it again
        have back : ∀ (v17 : Value) (D' : List Nat) (σ1 : σ) (h10 : H), WS lo O Inv n sl fv l t lb wb tb fb gb (w ++ [(i : Int)]) v17 D' σ1 h10 → ∃ v23 h11, (∀ (K : Int → Option (Ex × List Value × H)), len v17 K = K ((w.length : Int) + 1)) ∧
            (∀ (K : Value → Option (Ex × List Value × H)), sli Try.prog h10 25 v17 none (some (.int .i64 (sub .i64 ((w.length : Int) + 1) 1))) none K = K v23) ∧ wrc 1 h10 wb 0 v23 = some h11 ∧ WS lo O Inv n sl fv l t lb wb tb fb gb w v23 D' σ1 h11 ∧ h10.nx ≤ h11.nx ∧ (∀ b, b < lo → h11.blk b = h10.blk b) := by
          intro v17 D' σ1 h10 w10
          have hway : WqR lo h10 3 1 v17 (cellsI w ++ [[iv (i : Int)]]) := by simpa using w10.way
          obtain ⟨v23, e23, a23, b23⟩ := hway.pop under25 sz3
          refine ⟨v23, h10.set wb (.row [v23] 25 true), fun K => by rw [hway.slR.len]; simp, fun K => ?_, by rw [wrc_one w10.hwb.2.2 a23.cells.1 a23.cells.2 (by simp)]; rfl, ?_, Nat.le_refl _, fun b hb => blk_set_ne _ _ _ (by have := w10.hwb.1; omega)⟩
          · rw [sub64 (by omega) (by omega), show (w.length : Int) + 1 - 1 = ((cellsI w).length : Int) by simp]
            exact e23 K
          · exact w10.turn cb (Nat.le_refl _) (fun b h1 h2 _ => blk_set_ne _ _ _ h2) (blk_set_self _ _ _) (a23.keep (Nat.le_refl _) fun b hb => blk_set_ne _ _ _ (fun e => by
              subst e
              obtain ⟨_, _, c', h5⟩ := a23.blkOf hb
              rw [w10.hwb.2.2] at h5
              simp at h5)) (fun b hb => .inr (b23 ▸ hb))
        by_cases hto : c.oth p = t
        · have hst : wayStep (waysF l t F) t p tm seen i c = [[(i : Int)]] := by simp [wayStep, hg', hto]
          obtain ⟨h10, D', e10, ws10, n10, f10⟩ := ws9.called cb hO (hokw [(i : Int)] (by
            simp only [waysF]
            rw [mem_app]
            exact .inr ⟨i, c, hc, by rw [Nat.zero_add, hst]; simp⟩))
          obtain ⟨v23, h11, l23, s23, w23, ws11, n11, f11⟩ := back _ _ _ _ ws10
          have hcv : ∀ (K : Value → H → Option (Ex × List Value × H)), callsV rn h9 fv [v16] K = K undef h10 := fun K => callsV_some (xs := [v16]) e10
          refine ⟨[iv ((i : Int) + 1)], h11, ?_, ⟨v23, D', ?_, by omega, fun b hb h => by rw [f11 b hb, f10 b hb h, f9 b hb, f1 b hb h]⟩, rfl⟩
          · have h1 : c.oth p = t := hto
            have ht0 : 0 ≤ t := hto ▸ hoth.1
            have hin' : AM.and .i64 (shr .i64 seen t) 1 ≠ 1 := hto ▸ hin
            simp [nn_ge ht0, hin', cell_of hcb, rd_of hcb, hcalc, nn_ge hoth.1, hin, g_h, show ¬ c.t ≤ tm from Int.not_le.2 (by omega), cell_of ws3.hwb.2.2, e8, hw8, cell_of ws9.htb.2.2, cell_of ws9.hfb.2.2, cell_of ws9.hwb.2.2, h1, hcv, cell_of ws10.hwb.2.2, l23, s23, w23, hadd]
          · rw [hst]; simpa using ws11
        · have hst : wayStep (waysF l t F) t p tm seen i c = (waysF l t F (c.oth p) c.t (withP seen (c.oth p))).map ((i : Int) :: ·) := by simp [wayStep, hg', hto]
          have htm : tm < c.t ∧ c.t ≤ 30 := ⟨by simpa using g_t, (okC_iff.1 hcok).2.2.2.2⟩
          obtain ⟨h10, v17, D', e10, ws10, n10, f10⟩ := hrec c.t htm.1 htm.2 (c.oth p) (withP seen (c.oth p)) (w ++ [(i : Int)]) v16 D _ h9 ⟨hoth.1, hoth.2.1⟩ (by simp; omega) ws9 (fun w' hw' => by
            have := hokw ((i : Int) :: w') (by
              simp only [waysF]
              rw [mem_app]
              exact .inr ⟨i, c, hc, by rw [Nat.zero_add, hst]; simpa using hw'⟩)
            simpa using this)
          obtain ⟨v23, h11, l23, s23, w23, ws11, n11, f11⟩ := back _ _ _ _ ws10
          have hcv : ∀ (K : Value → H → Option (Ex × List Value × H)), calls rn h9 104 [iv (c.oth p), iv c.t, iv (AM.or .i64 seen (shl .i64 1 (c.oth p))), pt lb 0, pt wb 0, pt tb 0, pt fb 0, pt gb 0] K = K undef h10 := fun K => calls_eq (xs := [_, _, _, _, _, _, _, _]) e10
          refine ⟨[iv ((i : Int) + 1)], h11, ?_, ⟨v23, D', ?_, by omega, fun b hb h => by rw [f11 b hb, f10 b hb h, f9 b hb, f1 b hb h]⟩, rfl⟩
          · simp [cell_of hcb, rd_of hcb, hcalc, nn_ge hoth.1, hin, g_h, show ¬ c.t ≤ tm from Int.not_le.2 (by omega), cell_of ws3.hwb.2.2, e8, hw8, cell_of ws9.htb.2.2, cell_of ws9.hfb.2.2, cell_of ws9.hwb.2.2, hto, callsV_eq, cell_of ws9.hgb.2.2, cell_of hcb9, hcv, cell_of ws10.hwb.2.2, l23, s23, w23, hadd]
          · rw [hst]
            simp only [List.map_append, List.foldl_append, List.map_map]
            simpa [Function.comp_def] using ws11
      · have hst : wayStep (waysF l t F) t p tm seen i c = [] := by simp [wayStep, hg]
        refine ⟨[iv ((i : Int) + 1)], h3, ?_, ⟨wv, D, by rw [hst]; simpa using ws3, by omega, fun b hb h => by rw [x3.blk b (by have := ws.lo_; omega), f1 b hb h]⟩, rfl⟩
        by_cases g_t : c.t ≤ tm
        · simp [cell_of hcb, rd_of hcb, g_t, hadd]
        · by_cases g_h : c.has p = true
          · have hoth := oth_ok hcok g_h
            have hcalc := oth_calc (by omega) hcok g_h
            have hin : AM.and .i64 (shr .i64 seen (c.oth p)) 1 = 1 := by
              have : goes c p tm seen = false := by simpa using hg
              simpa [goes, g_t, g_h, inP] using this
            simp [cell_of hcb, rd_of hcb, g_t, g_h, hcalc, nn_ge hoth.1, hin, hadd]
          · simp [cell_of hcb, rd_of hcb, g_t, g_h, hadd])
  refine ⟨g', wv', D', x104 (k := 30) ?_ rfl, wsN, n', f'⟩
  have hlb : ∀ o, g.cell lb o = [iv n, sl][o]? := fun o => cell_of ws.hlb.2.2
  simp [f104, hlb, ws.hsl.len, lp_eq hl]

theorem grow (cb : Cb fv lo O okw Inv stp) (hO : ∀ b, O b → b < lo) (hv : validP n l = true) : ∀ (f : Nat) (tm : Int), 31 - tm ≤ f → GrowOk fv sl lo O okw Inv stp n t l lb wb tb fb gb (f + 1) tm := by
  intro f
  induction f with
  | zero => intro tm htm; exact grow_body cb hO hv 0 tm (fun tm' h1 h2 => by omega)
  | succ f ih => intro tm htm; exact grow_body cb hO hv (f + 1) tm (fun tm' h1 h2 => ih tm' (by omega))

end
end Go.AM

end

section

/- The first way for which a number is least. -/
namespace Go.AM
open Go.Proofs
variable {R : Type}
attribute [local simp] nx_eq nx_new nx_set blk_new blk_set asI_int asK_int asB_bool asP_ptr al_eq bx_eq len_slice onE_exit onE_ret onR_ret Value.cells d3 d29 d31 d56 d24 d59 d22 d25 d121 d89 d61 w3 w25 w121 cell_new cell_set rd_new rd_set off eq lt le ifB gv out eqF1 eqF2 eqF3 eqF4 eqF5 eqF6 eqF7 eqF8 ext20 ext21 k42 k72 k73 k74
theorem slR_bel {h : H} {e : TypeId} {s : Nat} {v : Value} {l : List (List Value)} (a : SlR h e s v l) {b : Nat} (hb : blkOf v = some b) : b < h.nx := by
  cases a with
  | nil => cases hb
  | at_ hb' => cases hb; exact hb'

/-- All ways from s to t. -/
def allWays (l : List Kl) (s t : Int) : List (List Int) := waysF l t 32 s 0 (shl .i64 1 s)

theorem s85 {σ : Type} {fv sl : Value} {O : Nat → Prop} {okw : List Int → Prop} {Inv : σ → List Nat → H → Prop} {stp : σ → List Int → σ} {n s t : Int} {l : List Kl} {σ0 : σ} {g : H}
    (cb : Cb fv g.nx O okw Inv stp) (hO : ∀ b, O b → b < g.nx) (hv : validP n l = true) (hs : 0 ≤ s ∧ s < n) (hsl : SlR g 56 3 sl (l.map Kl.cells)) (hslo : ∀ b, blkOf sl = some b → ¬ O b) (hi : Inv σ0 [] g) (hfs : scal fv = true) (hfc : fv.cells = #[fv])
    (hok : ∀ w ∈ allWays l s t, okw w) :
    ∃ g' D', rn 85 #[.agg #[iv n, sl], iv s, iv t, fv] g = some (undef, g') ∧ Inv ((allWays l s t).foldl stp σ0) D' g' ∧ g.nx ≤ g'.nx ∧ ∀ b, b < g.nx → ¬ O b → g'.blk b = g.blk b := by
  let F : Value := .func (.func 104) #[] #[pt g.nx 0, pt (g.nx + 3) 0, pt (g.nx + 1) 0, pt (g.nx + 2) 0, pt (g.nx + 4) 0]
  let g6 : H := (((((g.new (.row [iv n, sl] 31 true)).new (.row [iv t] 3 true)).new (.row [fv] 89 true)).new (.row [.slice none 0 0] 25 true)).new (.row [.nilFunc] 121 true)).set (g.nx + 4) (.row [F] 121 true)
  have n6 : g6.nx = g.nx + 5 := rfl
  have x6 : Ext g g6 := ((((((Ext.refl g).new' _).new' _).new' _).new' _).new' _).set (by omega) _
  have bl : ∀ q, g6.blk q = if q = g.nx + 4 then some (.row [F] 121 true) else if q = g.nx + 3 then some (.row [.slice none 0 0] 25 true) else if q = g.nx + 2 then some (.row [fv] 89 true) else if q = g.nx + 1 then some (.row [iv t] 3 true) else if q = g.nx then some (.row [iv n, sl] 31 true) else g.blk q := by
    intro q
    by_cases h4 : q = g.nx + 4
    · rw [if_pos h4, h4]; exact blk_set_self _ _ _
    · rw [if_neg h4]
      simp only [g6]
      rw [blk_set_ne _ _ _ h4, blk_new_ne _ _ h4]
      rfl
  have e0 : g6.blk g.nx = some (.row [iv n, sl] 31 true) := by rw [bl, if_neg (by omega), if_neg (by omega), if_neg (by omega), if_neg (by omega), if_pos rfl]
  have e1 : g6.blk (g.nx + 1) = some (.row [iv t] 3 true) := by rw [bl, if_neg (by omega), if_neg (by omega), if_neg (by omega), if_pos rfl]
  have e2 : g6.blk (g.nx + 2) = some (.row [fv] 89 true) := by rw [bl, if_neg (by omega), if_neg (by omega), if_pos rfl]
  have e3 : g6.blk (g.nx + 3) = some (.row [.slice none 0 0] 25 true) := by rw [bl, if_neg (by omega), if_pos rfl]
  have e4 : g6.blk (g.nx + 4) = some (.row [F] 121 true) := by rw [bl, if_pos rfl]
  have ws : WS g.nx O Inv n sl fv l t g.nx (g.nx + 3) (g.nx + 1) (g.nx + 2) (g.nx + 4) [] (.slice none 0 0) [] σ0 g6 := by
    refine ⟨by omega, hsl.ext x6, fun b hb => ⟨slR_bel hsl hb, hslo b hb⟩, ⟨by omega, by omega, e0⟩, ⟨by omega, by omega, e1⟩, ⟨by omega, by omega, e2⟩, ⟨by omega, by omega, e4⟩, ⟨by omega, by omega, e3⟩, ⟨by omega, by omega, by omega, by omega⟩, .nil, cb.keep _ _ _ _ hi x6.nx x6.blk (by simp), by simp [blkOf], by simp⟩
  obtain ⟨g', wv, D', e, w', n', f'⟩ := grow cb hO hv 31 0 (by omega) s (shl .i64 1 s) [] (.slice none 0 0) [] σ0 g6 hs (by simp) ws (by simpa [allWays] using hok)
  refine ⟨g', D', x85 (k := 0) ?_ rfl, by simpa [allWays] using w'.inv, by omega, fun b hb h => by rw [f' b hb h]; exact x6.blk b hb⟩
  have hst : wrc 1 (((((g.new (.row [iv n, sl] 31 true)).new (.row [iv t] 3 true)).new (.row [fv] 89 true)).new (.row [.slice none 0 0] 25 true)).new (.row [.nilFunc] 121 true)) (g.nx + 4) 0 F = some g6 := by
    exact (wrc_one (b := g.nx + 4) (v := F) (o := 0) (c := [.nilFunc]) (e := 121) (blk_new_at _ _ rfl) rfl rfl (by simp)).trans rfl
  have hgb : ∀ o, g6.cell (g.nx + 4) o = [F][o]? := fun o => cell_of e4
  have hc : ∀ (K : Value → H → Option (Value × H)), callsV rn g6 F [iv s, iv 0, iv (shl .i64 1 s)] K = K undef g' := fun K => by
    rw [callsV_eq]
    exact calls_eq (xs := [_, _, _, _, _, _, _, _]) e
  unfold f85
  rw [bx_eq, bx_eq, bx_eq, hfc]
  simp only [al_eq, nx_eq, nx_new, w121]
  have hst' : ∀ (K : H → Option (Value × H)), (wrc 1 (((((g.new (.row [iv n, sl] 31 true)).new (.row [iv t] 3 true)).new (.row [fv] 89 true)).new (.row [.slice none 0 0] 25 true)).new (.row [.nilFunc] 121 true)) (g.nx + 4) 0 F).bind K = K g6 := fun K => by rw [hst]; rfl
  refine (hst' _).trans ?_
  show ld Try.prog g6 121 (g.nx + 4) 0 _ = _
  rw [d121, hgb]
  show nn s _ = _
  rw [nn_ge hs.1]
  exact hc _

theorem s75a {v : Value} {w : List Int} {h : H} (hs : SlR h 3 1 v (cellsI w)) (hm : w.length < 2 ^ 30) (hw : w ≠ []) : ∃ v' h' b, rn 75 #[v] h = some (v', h') ∧ Ext h h' ∧ h.nx ≤ b ∧ blkOf v' = some b ∧ IA h' b v' w := by
  have hs0 := hs
  generalize hL : cellsI w = L at hs
  cases hs with
  | nil => simp at hL; exact absurd hL hw
  | @at_ b o c cs own l hb hr hk hc hl hx =>
    subst hL
    have x1 := Ext.new h (.row [] 3 true)
    have a1 : AqR h.nx (h.new (.row [] 3 true)) 3 1 (.slice (some ⟨h.nx, 0, none⟩) 0 0) [] := AqR.lit (l := []) (Nat.le_refl _) rfl (by simp) (by simp)
    obtain ⟨v', h', e, a, n, f, b'⟩ := a1.app app25 app25 (hs0.ext x1) (by rw [List.all_eq_true]; intro x hx; simp only [flat1, List.mem_map] at hx; obtain ⟨z, _, rfl⟩ := hx; rfl) (by simpa using hm) (Nat.le_succ _)
    rw [List.nil_append] at a
    obtain ⟨q, q1, q2, q3⟩ := a.ia hw
    refine ⟨v', h', q, x75 (k := 0) ?_ (a.slR.notR), ⟨Nat.le_trans x1.nx n, fun i hi => by rw [f i (by rw [nx_new]; omega) (by intro e; cases e; omega)]; exact x1.blk i hi⟩, q1, q2, q3⟩
    unfold f75 eqv
    rw [some25]
    simp only []
    rw [show ifB false = fun (x y : Option (Value × H)) => y from rfl]
    simp only []
    rw [bls_some (bls25e h)]
    exact e _

/-- The better of two ways. -/
def betterP (ofP : List Int → Int) (σ : Option (List Int)) (w : List Int) : Option (List Int) :=
  match σ with
  | none => some w
  | some b => if ofP w < ofP b then some w else some b

/-- What the search for the best holds. -/
def BestI (g6 : H) (ob : Nat) (σ : Option (List Int)) (D : List Nat) (g : H) : Prop :=
  g6.nx ≤ g.nx ∧ (∀ b, b < g6.nx → b ≠ ob → g.blk b = g6.blk b) ∧ ∃ ov, g.blk ob = some (.row [ov] 25 true) ∧
    match σ with
    | none => ov = .slice none 0 0 ∧ D = []
    | some w => w ≠ [] ∧ ∃ q, D = [q] ∧ g6.nx ≤ q ∧ blkOf ov = some q ∧ IA g q ov w

theorem nilv25 {v : Value} {b : Nat} (hb : blkOf v = some b) : binOp Try.prog .eql 25 v (.slice none 0 0) = some (.bool false) := by
  unfold blkOf at hb
  split at hb
  · exact some25 _ _ _ _
  · cases hb

theorem best_cb {g6 : H} {ob ofb : Nat} {ofv : Value} {ofP : List Int → Int} {okw : List Int → Prop} (hob : ob < g6.nx) (hofb : ofb < g6.nx) (hne : ofb ≠ ob) (hof : g6.blk ofb = some (.row [ofv] 61 true)) (hokw : ∀ w, okw w → w ≠ [] ∧ w.length < 1000)
    (hcall : ∀ (g : H) (wv : Value) (w : List Int), g6.nx ≤ g.nx → (∀ b, b < g6.nx → b ≠ ob → g.blk b = g6.blk b) → SlR g 3 1 wv (cellsI w) → okw w → callV rn ofv #[wv] g = some (iv (ofP w), g)) :
    Cb (.func (.func 97) #[] #[pt ob 0, pt ofb 0]) g6.nx (fun b => b = ob) okw (fun σ D g => BestI g6 ob σ D g ∧ ∀ w, σ = some w → okw w) (betterP ofP) := by
  refine ⟨?_, ?_, ?_⟩
  · rintro σ D g g' ⟨⟨h1, h2, ov, h3, h4⟩, h5⟩ hn hlo hD
    refine ⟨⟨by omega, fun b hb hb' => (hlo b hb).trans (h2 b hb hb'), ov, (hlo ob hob).trans h3, ?_⟩, h5⟩
    cases σ with
    | none => exact h4
    | some w =>
      obtain ⟨a1, q, a2, a3, a4, a5⟩ := h4
      exact ⟨a1, q, a2, a3, a4, a5.keep hn (hD q (by rw [a2]; simp))⟩
  · rintro σ D g ⟨⟨h1, h2, ov, h3, h4⟩, h5⟩ b hb
    cases σ with
    | none => rw [h4.2] at hb; simp at hb
    | some w =>
      obtain ⟨a1, q, a2, a3, a4, a5⟩ := h4
      rw [a2] at hb
      simp at hb
      subst hb
      exact ⟨a3, a5.lt⟩
  · rintro σ D g wv w ⟨⟨h1, h2, ov, h3, h4⟩, h5⟩ hn hwv hw hdis hlow
    obtain ⟨hw0, hwl⟩ := hokw w hw
    obtain ⟨v', h', q, e, x, q1, q2, q3⟩ := s75a hwv (by omega) hw0
    have hob' : h'.blk ob = some (.row [ov] 25 true) := (x.blk ob (by omega)).trans h3
    obtain ⟨cv, hcv, _⟩ := q3.val
    have hst : wrc 1 h' ob 0 v' = some (h'.set ob (.row [v'] 25 true)) := by rw [wrc_one hob' (by rw [hcv]; rfl) (by rw [hcv]; rfl) (by simp)]; rfl
    have hcl : ∀ (K : Value → H → Option (Value × H)), calls rn g 75 [wv] K = K v' h' := fun K => calls_eq (xs := [_]) e
    have hoc : ∀ o, g.cell ob o = [ov][o]? := fun o => cell_of h3
    have hofc : ∀ o, g.cell ofb o = [ofv][o]? := fun o => cell_of ((h2 ofb hofb hne).trans hof)
    have took : BestI g6 ob (some w) [q] (h'.set ob (.row [v'] 25 true)) ∧ (∀ w', some w = some w' → okw w') := by
      refine ⟨⟨by rw [nx_set]; have := x.nx; omega, fun b hb hb' => by rw [blk_set_ne _ _ _ hb', x.blk b (by omega)]; exact h2 b hb hb', v', blk_set_self _ _ _, hw0, q, rfl, by omega, q2, q3.keep (Nat.le_refl _) (blk_set_ne _ _ _ (by omega))⟩, fun w' hw' => by cases hw'; exact hw⟩
    have fr : ∀ b, b < g.nx → ¬ b = ob → b ∉ D → (h'.set ob (.row [v'] 25 true)).blk b = g.blk b := fun b h1 h2 _ => by rw [blk_set_ne _ _ _ h2]; exact x.blk b h1
    cases σ with
    | none =>
      obtain ⟨rfl, rfl⟩ := h4
      refine ⟨h'.set ob (.row [v'] 25 true), [q], ?_, took, by rw [nx_set]; exact x.nx, fr, fun b hb => by simp at hb; omega⟩
      show rn 97 _ g = _
      refine x97 (k := 0) ?_ rfl
      simp [f97, hoc, eqv, nil25, hcl, hst]
    | some b0 =>
      obtain ⟨a1, q0, rfl, a3, a4, a5⟩ := h4
      have hok0 := h5 b0 rfl
      have hc1 : ∀ (K : Value → H → Option (Value × H)), callsV rn g ofv [wv] K = K (iv (ofP w)) g := fun K => callsV_some (xs := [wv]) (hcall g wv w h1 h2 hwv hw)
      have hc2 : ∀ (K : Value → H → Option (Value × H)), callsV rn g ofv [ov] K = K (iv (ofP b0)) g := fun K => callsV_some (xs := [ov]) (hcall g ov b0 h1 h2 a5.slR hok0)
      have hck : ∀ b, b < g6.nx → freq b g.nx (same g g) = true := fun b hb => by simp [freq, same]; omega
      have hcalc : f97 rn 0 wv (pt ob 0) (pt ofb 0) g = if ofP w < ofP b0 then some (undef, h'.set ob (.row [v'] 25 true)) else some (undef, g) := by
        simp [f97, hoc, hofc, eqv, nilv25 a4, hc1, hc2, hck ob hob, hck ofb hofb, ck, hcl, hst]
      by_cases hlt : ofP w < ofP b0
      · rw [if_pos hlt] at hcalc
        refine ⟨h'.set ob (.row [v'] 25 true), [q], x97 (k := 0) hcalc rfl, ?_, by rw [nx_set]; exact x.nx, fr, fun b hb => by simp at hb; omega⟩
        simp only [betterP, hlt, if_true]
        exact took
      · rw [if_neg hlt] at hcalc
        refine ⟨g, [q0], x97 (k := 0) hcalc rfl, ?_, Nat.le_refl _, fun _ _ _ _ => rfl, fun b hb => .inl hb⟩
        simp only [betterP, hlt, if_false]
        exact ⟨⟨h1, h2, ov, h3, a1, q0, rfl, a3, a4, a5⟩, h5⟩

/-- Ways that a log can have: not empty, calls of the log. -/
def okW (l : List Kl) (w : List Int) : Prop := w ≠ [] ∧ w.length < 1000 ∧ ∀ x ∈ w, 0 ≤ x ∧ x < l.length

theorem waysF_ok {n : Int} {l : List Kl} {t : Int} : ∀ (f : Nat) (p tm seen : Int), ∀ w ∈ waysF l t f p tm seen, w ≠ [] ∧ w.length ≤ f ∧ ∀ x ∈ w, 0 ≤ x ∧ x < l.length := by
  intro f
  induction f with
  | zero => intro p tm seen w hw; simp [waysF] at hw
  | succ f ih =>
    intro p tm seen w hw
    simp only [waysF] at hw
    rw [mem_app] at hw
    rcases hw with hw | ⟨j, c, hc, hw⟩
    · simp at hw
    · have hj := (List.getElem?_eq_some_iff.1 hc).1
      rw [Nat.zero_add] at hw
      unfold wayStep at hw
      split at hw
      · split at hw
        · simp at hw
          subst hw
          exact ⟨by simp, by simp, fun x hx => by simp at hx; omega⟩
        · simp only [List.mem_map] at hw
          obtain ⟨w', hw', rfl⟩ := hw
          obtain ⟨h1, h2, h3⟩ := ih _ _ _ w' hw'
          refine ⟨by simp, by simp; omega, fun x hx => ?_⟩
          simp only [List.mem_cons] at hx
          rcases hx with rfl | hx
          · omega
          · exact h3 x hx
      · simp at hw

theorem allWays_ok {l : List Kl} {s t : Int} : ∀ w ∈ allWays l s t, okW l w := fun w hw => by
  obtain ⟨h1, h2, h3⟩ := waysF_ok (n := 0) 32 _ _ _ w hw
  exact ⟨h1, by omega, h3⟩

/-- The best way. -/
def bestP (ofP : List Int → Int) (l : List Kl) (s t : Int) : Option (List Int) := (allWays l s t).foldl (betterP ofP) none

/-- What is answered for the best way. -/
def BestR (o : Option (List Int)) (v : Value) (e : Int) (h : H) : Prop :=
  match o with
  | none => v = .slice none 0 0 ∧ e = 4
  | some w => SlR h 3 1 v (cellsI w) ∧ e = 0 ∧ w ≠ []

theorem s65_bad {n s t : Int} {sl ofv : Value} {l : List Kl} {h : H} (hs : SlR h 56 3 sl (l.map Kl.cells)) (hfc : ofv.cells = #[ofv]) (hp : pairP n l s t = false) : ∃ h', rn 65 #[.agg #[iv n, sl], iv s, iv t, ofv] h = some (.tuple #[.slice none 0 0, iv 2], h') ∧ Ext h h' := by
  let h2 : H := (h.new (.row [iv n, sl] 31 true)).new (.row [ofv] 61 true)
  have x2 : Ext h h2 := ((Ext.refl h).new' _).new' _
  refine ⟨_, x65 (k := 0) (h1 := h2) ?_ rfl, x2⟩
  have hb2 : ∀ (m o : Nat), h2.rd h.nx o m = if o + m ≤ 2 then some (([iv n, sl].drop o).take m) else none := fun m o => rd_of ((blk_new_ne _ _ (by rw [nx_new]; omega)).trans (blk_new_self _ _))
  unfold f65
  rw [bx_eq, bx_eq, hfc]
  simp only [nx_eq, d31]
  rw [show (((h.new (.row (Value.agg #[iv n, sl]).cells.toList 31 true)).new (.row (#[ofv] : Array Value).toList 61 true))) = h2 from rfl, hb2, if_pos (by omega), Option.bind_some]
  show calls rn h2 71 [.agg #[iv n, sl]] _ = _
  rw [k71 (hs.ext x2), asB_bool]
  cases hv : validP n l with
  | false => rfl
  | true =>
    rw [Bool.not_true, ifB_false, hb2, if_pos (by omega), Option.bind_some]
    show calls rn h2 72 [.agg #[iv n, sl], iv s] _ = _
    rw [k72, asB_bool]
    by_cases hsn : 0 ≤ s ∧ s < n
    · rw [decide_eq_true hsn, Bool.not_true, ifB_false, hb2, if_pos (by omega), Option.bind_some]
      show calls rn h2 72 [.agg #[iv n, sl], iv t] _ = _
      rw [k72, asB_bool]
      by_cases htn : 0 ≤ t ∧ t < n
      · have hst : s = t := by
          simp only [pairP, hv, decide_eq_true hsn, decide_eq_true htn] at hp
          simpa using hp
        rw [decide_eq_true htn, eq_t hst]
        rfl
      · rw [decide_eq_false htn]; rfl
    · rw [decide_eq_false hsn]; rfl

theorem s65 {n s t : Int} {sl ofv : Value} {l : List Kl} {h : H} {ofP : List Int → Int} (hs : SlR h 56 3 sl (l.map Kl.cells)) (hp : pairP n l s t = true) (hfc : ofv.cells = #[ofv])
    (hcall : ∀ (g : H) (wv : Value) (w : List Int), Ext h g → SlR g 3 1 wv (cellsI w) → okW l w → callV rn ofv #[wv] g = some (iv (ofP w), g)) :
    ∃ v e h', rn 65 #[.agg #[iv n, sl], iv s, iv t, ofv] h = some (.tuple #[v, iv e], h') ∧ Ext h h' ∧ BestR (bestP ofP l s t) v e h' := by
  obtain ⟨⟨⟨hv, hsn⟩, htn⟩, hst⟩ : ((validP n l = true ∧ (0 ≤ s ∧ s < n)) ∧ (0 ≤ t ∧ t < n)) ∧ s ≠ t := by simpa [pairP] using hp
  let h2 : H := (h.new (.row [iv n, sl] 31 true)).new (.row [ofv] 61 true)
  have x2 : Ext h h2 := ((Ext.refl h).new' _).new' _
  let g6 : H := h2.new (.row [.slice none 0 0] 25 true)
  have n2 : h2.nx = h.nx + 2 := rfl
  have n6 : g6.nx = h.nx + 3 := rfl
  have x6 : Ext h g6 := x2.new' _
  have b0 : g6.blk h.nx = some (.row [iv n, sl] 31 true) := (blk_new_ne _ _ (by omega)).trans ((blk_new_ne _ _ (by rw [nx_new]; omega)).trans (blk_new_self _ _))
  have b1 : g6.blk (h.nx + 1) = some (.row [ofv] 61 true) := (blk_new_ne _ _ (by omega)).trans (blk_new_self _ _)
  have b2 : g6.blk (h.nx + 2) = some (.row [.slice none 0 0] 25 true) := blk_new_self _ _
  have cb := best_cb (g6 := g6) (ob := h.nx + 2) (ofb := h.nx + 1) (ofv := ofv) (ofP := ofP) (okw := okW l) (by omega) (by omega) (by omega) b1 (fun w hw => ⟨hw.1, hw.2.1⟩)
    (fun g wv w hg hf hwv hw => hcall g wv w ⟨by omega, fun b hb => by rw [hf b (by omega) (by omega)]; exact x6.blk b hb⟩ hwv hw)
  obtain ⟨g', D', e85, i85, n85, f85⟩ := s85 cb (fun b hb => by omega) hv hsn (hs.ext x6) (fun b hb => by have := slR_bel hs hb; omega) (σ0 := none) ⟨⟨Nat.le_refl _, fun _ _ _ => rfl, _, b2, rfl, rfl⟩, by simp⟩ rfl rfl allWays_ok
  have hb2 : ∀ (m o : Nat), h2.rd h.nx o m = if o + m ≤ 2 then some (([iv n, sl].drop o).take m) else none := fun m o => rd_of ((blk_new_ne _ _ (by rw [nx_new]; omega)).trans (blk_new_self _ _))
  have hb6 : ∀ (m o : Nat), g6.rd h.nx o m = if o + m ≤ 2 then some (([iv n, sl].drop o).take m) else none := fun m o => rd_of b0
  have hc : ∀ (K : Value → H → Option (Value × H)), calls rn g6 85 [.agg #[iv n, sl], iv s, iv t, .func (.func 97) #[] #[pt (h.nx + 2) 0, pt (h.nx + 1) 0]] K = K undef g' := fun K => calls_eq (xs := [_, _, _, _]) e85
  obtain ⟨⟨hn', hf', ov, ho, hm⟩, _⟩ := i85
  have hoc : ∀ o, g'.cell (h.nx + 2) o = [ov][o]? := fun o => cell_of ho
  have xx : Ext h g' := ⟨by omega, fun b hb => by rw [f85 b (by omega) (by omega)]; exact x6.blk b hb⟩
  have head : f65 rn 0 (.agg #[iv n, sl]) s t ofv h = eqv Try.prog 25 ov (.slice none 0 0) fun q3 => ifB q3 (some ((.tuple #[(.slice none 0 0), (.int .i64 4)]), g')) (some ((.tuple #[ov, (.int .i64 0)]), g')) := by
    unfold f65
    rw [bx_eq, bx_eq, hfc]
    show _ = _
    simp only [nx_eq, d31]
    rw [show (((h.new (.row (Value.agg #[iv n, sl]).cells.toList 31 true)).new (.row (#[ofv] : Array Value).toList 61 true))) = h2 from rfl, hb2, if_pos (by omega), Option.bind_some]
    show calls rn h2 71 [.agg #[iv n, sl]] _ = _
    rw [k71 (hs.ext x2), asB_bool, hv, Bool.not_true, ifB_false, hb2, if_pos (by omega), Option.bind_some]
    show calls rn h2 72 [.agg #[iv n, sl], iv s] _ = _
    rw [k72, asB_bool, decide_eq_true hsn, Bool.not_true, ifB_false, hb2, if_pos (by omega), Option.bind_some]
    show calls rn h2 72 [.agg #[iv n, sl], iv t] _ = _
    rw [k72, asB_bool, decide_eq_true htn, Bool.not_true, ifB_false, eq_f hst, ifB_false, al_eq]
    show (g6.rd h.nx 0 2).bind _ = _
    rw [hb6, if_pos (by omega), Option.bind_some]
    refine (hc _).trans ?_
    have hld : ∀ (K : Value → Option (Value × H)), ld Try.prog g' 25 h2.nx 0 K = K ov := fun K => by
      rw [d25, show h2.nx = h.nx + 2 from rfl, hoc]; rfl
    simp only [hld]
  unfold bestP
  generalize (allWays l s t).foldl (betterP ofP) none = o at *
  cases o with
  | none =>
    obtain ⟨rfl, _⟩ := hm
    refine ⟨.slice none 0 0, 4, g', x65 (k := 0) ?_ rfl, xx, rfl, rfl⟩
    rw [head]
    simp [eqv, nil25]
  | some w =>
    obtain ⟨hw0, q, _, hq, hqb, hia⟩ := hm
    refine ⟨ov, 0, g', x65 (k := 0) ?_ hia.slR.notR2, xx, hia.slR, rfl, hw0⟩
    rw [head]
    simp [eqv, nilv25 hqb]

end Go.AM

end

section

/- Foremost, Fewest and Fastest; the ways as the document tells them. -/
namespace Go.AM
open Go.Proofs
variable {R : Type}
attribute [local simp] nx_eq nx_new nx_set blk_new blk_set asI_int asK_int asB_bool asP_ptr al_eq bx_eq len_slice onE_exit onE_ret onR_ret Value.cells d3 d29 d31 d56 d24 d59 d22 d25 d121 d89 d61 w3 w25 w121 cell_new cell_set rd_new rd_set off eq lt le ifB gv out eqF1 eqF2 eqF3 eqF4 eqF5 eqF6 eqF7 eqF8 ext20 ext21 k42 k72 k73 k74
/-- The time of a call. -/
def timeP (l : List Kl) (i : Int) : Int := ((l[i.toNat]?).map (·.t)).getD 0

def arrP (l : List Kl) (w : List Int) : Int := timeP l (w.getLastD 0)

def leaveP (l : List Kl) (w : List Int) : Int := timeP l (w.headD 0)

def ofK (l : List Kl) : Nat → List Int → Int
  | 0, w => arrP l w
  | 1, w => w.length
  | _, w => sub .i64 (arrP l w) (leaveP l w)

theorem okW_last {l : List Kl} {w : List Int} (h : okW l w) : ∃ x c, w[w.length - 1]? = some x ∧ 0 ≤ x ∧ l[x.toNat]? = some c ∧ arrP l w = c.t ∧ 0 < w.length := by
  obtain ⟨h0, _, h1⟩ := h
  have hp : 0 < w.length := List.length_pos_iff.2 h0
  have hx : w[w.length - 1]? = some w[w.length - 1] := List.getElem?_eq_getElem (by omega)
  obtain ⟨a, b⟩ := h1 _ (List.getElem_mem (show w.length - 1 < w.length by omega))
  refine ⟨_, l[(w[w.length - 1]).toNat]'(by omega), hx, a, List.getElem?_eq_getElem _, ?_, hp⟩
  unfold arrP timeP
  rw [List.getLastD_eq_getLast?, List.getLast?_eq_getElem?, hx, Option.getD_some, List.getElem?_eq_getElem (by omega)]
  rfl

theorem okW_head {l : List Kl} {w : List Int} (h : okW l w) : ∃ x c, w[0]? = some x ∧ 0 ≤ x ∧ l[x.toNat]? = some c ∧ leaveP l w = c.t := by
  obtain ⟨h0, _, h1⟩ := h
  cases w with
  | nil => exact absurd rfl h0
  | cons x w =>
    obtain ⟨a, b⟩ := h1 x (by simp)
    refine ⟨x, l[x.toNat]'(by omega), rfl, a, List.getElem?_eq_getElem _, ?_⟩
    unfold leaveP timeP
    simp [show x.toNat < l.length by omega]

theorem s66 {n : Int} {sl wv : Value} {l : List Kl} {w : List Int} {g : H} (hs : SlR g 56 3 sl (l.map Kl.cells)) (hw : SlR g 3 1 wv (cellsI w)) (hok : okW l w) : rn 66 #[.agg #[iv n, sl], wv] g = some (iv (arrP l w), g) := by
  obtain ⟨x, c, h1, h2, h3, h4, h5⟩ := okW_last hok
  have hl := hok.2.1
  have x1 : Ext g (g.new (.row [iv n, sl] 31 true)) := .new _ _
  have b1 : (g.new (.row [iv n, sl] 31 true)).blk g.nx = some (.row [iv n, sl] 31 true) := blk_new_self _ _
  have hw1 := hw.ext x1
  have hs1 := hs.ext x1
  refine p66 (k := 0) (h1 := g.new (.row [iv n, sl] 31 true)) ?_ rfl x1
  rw [h4]
  generalize hG : g.new (.row [iv n, sl] 31 true) = g1 at *
  have e1 : ∀ (K : Value → Option (Value × H)), (six wv (sub .i64 (w.length : Int) 1) 1 fun b o => (g1.cell b o).bind K) = K (iv x) := fun K => by
    rw [sub64 (by omega) (by omega)]
    exact hw1.c0 (by omega) (x := [iv x]) (by rw [show ((w.length : Int) - 1).toNat = w.length - 1 by omega]; simp [h1]) rfl K
  have e2 : ∀ (K : Value → Option (Value × H)), (six sl x 3 fun b o => (g1.cell b (o + 2)).bind K) = K (iv c.t) := fun K => hs1.cF h2 (x := c.cells) (by simp [h3]) rfl K
  simp [f66, hG, cell_of b1, hw1.len, e1, e2]

theorem s69 {n : Int} {sl wv : Value} {l : List Kl} {w : List Int} {g : H} (hs : SlR g 56 3 sl (l.map Kl.cells)) (hw : SlR g 3 1 wv (cellsI w)) (hok : okW l w) : rn 69 #[.agg #[iv n, sl], wv] g = some (iv (leaveP l w), g) := by
  obtain ⟨x, c, h1, h2, h3, h4⟩ := okW_head hok
  have x1 : Ext g (g.new (.row [iv n, sl] 31 true)) := .new _ _
  have b1 : (g.new (.row [iv n, sl] 31 true)).blk g.nx = some (.row [iv n, sl] 31 true) := blk_new_self _ _
  have hw1 := hw.ext x1
  have hs1 := hs.ext x1
  refine p69 (k := 0) (h1 := g.new (.row [iv n, sl] 31 true)) ?_ rfl x1
  rw [h4]
  generalize hG : g.new (.row [iv n, sl] 31 true) = g1 at *
  have e1 : ∀ (K : Value → Option (Value × H)), (six wv 0 1 fun b o => (g1.cell b o).bind K) = K (iv x) := fun K => hw1.c0 (by omega) (x := [iv x]) (by simp [h1]) rfl K
  have e2 : ∀ (K : Value → Option (Value × H)), (six sl x 3 fun b o => (g1.cell b (o + 2)).bind K) = K (iv c.t) := fun K => hs1.cF h2 (x := c.cells) (by simp [h3]) rfl K
  simp [f69, hG, cell_of b1, e1, e2]

theorem s67 {wv : Value} {w : List Int} {g : H} (hw : SlR g 3 1 wv (cellsI w)) : rn 67 #[wv] g = some (iv w.length, g) := by
  refine p67 (k := 0) (h1 := g) ?_ rfl (.refl _)
  simp [f67, hw.len]

theorem s68 {n : Int} {sl wv : Value} {l : List Kl} {w : List Int} {g : H} {b : Nat} (hb : g.blk b = some (.row [iv n, sl] 31 true)) (hbn : b < g.nx) (hs : SlR g 56 3 sl (l.map Kl.cells)) (hw : SlR g 3 1 wv (cellsI w)) (hok : okW l w) :
    rn 68 #[wv, pt b 0] g = some (iv (sub .i64 (arrP l w) (leaveP l w)), g) := by
  refine p68 (k := 0) (h1 := g) ?_ rfl (.refl _)
  have c1 : ∀ (K : Value → H → Option (Value × H)), calls rn g 66 [.agg #[iv n, sl], wv] K = K (iv (arrP l w)) g := fun K => calls_eq (xs := [_, _]) (s66 hs hw hok)
  have c2 : ∀ (K : Value → H → Option (Value × H)), calls rn g 69 [.agg #[iv n, sl], wv] K = K (iv (leaveP l w)) g := fun K => calls_eq (xs := [_, _]) (s69 hs hw hok)
  simp [f68, rd_of hb, c1, c2, ck, freq, same, hbn]

/-- Foremost, Fewest, Fastest: 17, 19, 20. -/
theorem s17_bad {n s t : Int} {sl : Value} {l : List Kl} {h : H} (hs : SlR h 56 3 sl (l.map Kl.cells)) (hp : pairP n l s t = false) : ∃ h', rn 17 #[.agg #[iv n, sl], iv s, iv t] h = some (.tuple #[.slice none 0 0, iv 2], h') ∧ Ext h h' := by
  have x1 : Ext h (h.new (.row [iv n, sl] 31 true)) := .new _ _
  obtain ⟨h', e, x⟩ := s65_bad (ofv := .func (.func 66) #[.agg #[iv n, sl]] #[]) (hs.ext x1) rfl hp
  have hc := fun (K : Value → H → Option (Value × H)) => calls_eq (K := K) (xs := [_, _, _, _]) e
  exact ⟨h', x17 (k := 0) (by simp [f17, hc]) rfl, x1.trans x⟩

theorem s19_bad {n s t : Int} {sl : Value} {l : List Kl} {h : H} (hs : SlR h 56 3 sl (l.map Kl.cells)) (hp : pairP n l s t = false) : ∃ h', rn 19 #[.agg #[iv n, sl], iv s, iv t] h = some (.tuple #[.slice none 0 0, iv 2], h') ∧ Ext h h' := by
  have x1 : Ext h (h.new (.row [iv n, sl] 31 true)) := .new _ _
  obtain ⟨h', e, x⟩ := s65_bad (ofv := .func (.func 67) #[] #[]) (hs.ext x1) rfl hp
  have hc := fun (K : Value → H → Option (Value × H)) => calls_eq (K := K) (xs := [_, _, _, _]) e
  exact ⟨h', x19 (k := 0) (by simp [f19, hc]) rfl, x1.trans x⟩

theorem s20_bad {n s t : Int} {sl : Value} {l : List Kl} {h : H} (hs : SlR h 56 3 sl (l.map Kl.cells)) (hp : pairP n l s t = false) : ∃ h', rn 20 #[.agg #[iv n, sl], iv s, iv t] h = some (.tuple #[.slice none 0 0, iv 2], h') ∧ Ext h h' := by
  have x1 : Ext h (h.new (.row [iv n, sl] 31 true)) := .new _ _
  obtain ⟨h', e, x⟩ := s65_bad (ofv := .func (.func 68) #[] #[pt h.nx 0]) (hs.ext x1) rfl hp
  have hc := fun (K : Value → H → Option (Value × H)) => calls_eq (K := K) (xs := [_, _, _, _]) e
  exact ⟨h', x20 (k := 0) (by simp [f20, hc]) rfl, x1.trans x⟩

theorem BestR.plain {o : Option (List Int)} {v w : Value} {e : Int} {h : H} (b : BestR o v e h) : plainO (.tuple #[v, w]) = false := by
  cases o with
  | none => obtain ⟨rfl, _⟩ := b; rfl
  | some w' => exact b.1.notR2

theorem s17 {n s t : Int} {sl : Value} {l : List Kl} {h : H} (hs : SlR h 56 3 sl (l.map Kl.cells)) (hp : pairP n l s t = true) :
    ∃ v e h', rn 17 #[.agg #[iv n, sl], iv s, iv t] h = some (.tuple #[v, iv e], h') ∧ Ext h h' ∧ BestR (bestP (ofK l 0) l s t) v e h' := by
  have x1 : Ext h (h.new (.row [iv n, sl] 31 true)) := .new _ _
  obtain ⟨v, e, h', e1, x, b⟩ := s65 (ofv := .func (.func 66) #[.agg #[iv n, sl]] #[]) (ofP := ofK l 0) (hs.ext x1) hp rfl (fun g wv w xg hw hok => s66 (hs.ext (x1.trans xg)) hw hok)
  have hc := fun (K : Value → H → Option (Value × H)) => calls_eq (K := K) (xs := [_, _, _, _]) e1
  exact ⟨v, e, h', x17 (k := 0) (by simp [f17, hc]) b.plain, x1.trans x, b⟩

theorem s19 {n s t : Int} {sl : Value} {l : List Kl} {h : H} (hs : SlR h 56 3 sl (l.map Kl.cells)) (hp : pairP n l s t = true) :
    ∃ v e h', rn 19 #[.agg #[iv n, sl], iv s, iv t] h = some (.tuple #[v, iv e], h') ∧ Ext h h' ∧ BestR (bestP (ofK l 1) l s t) v e h' := by
  have x1 : Ext h (h.new (.row [iv n, sl] 31 true)) := .new _ _
  obtain ⟨v, e, h', e1, x, b⟩ := s65 (ofv := .func (.func 67) #[] #[]) (ofP := ofK l 1) (hs.ext x1) hp rfl (fun g wv w xg hw hok => s67 hw)
  have hc := fun (K : Value → H → Option (Value × H)) => calls_eq (K := K) (xs := [_, _, _, _]) e1
  exact ⟨v, e, h', x19 (k := 0) (by simp [f19, hc]) b.plain, x1.trans x, b⟩

theorem s20 {n s t : Int} {sl : Value} {l : List Kl} {h : H} (hs : SlR h 56 3 sl (l.map Kl.cells)) (hp : pairP n l s t = true) :
    ∃ v e h', rn 20 #[.agg #[iv n, sl], iv s, iv t] h = some (.tuple #[v, iv e], h') ∧ Ext h h' ∧ BestR (bestP (ofK l 2) l s t) v e h' := by
  have x1 : Ext h (h.new (.row [iv n, sl] 31 true)) := .new _ _
  obtain ⟨v, e, h', e1, x, b⟩ := s65 (ofv := .func (.func 68) #[] #[pt h.nx 0]) (ofP := ofK l 2) (hs.ext x1) hp rfl (fun g wv w xg hw hok => s68 ((xg.blk _ (Nat.lt_succ_self _)).trans (blk_new_self _ _)) (Nat.lt_of_lt_of_le (Nat.lt_succ_self _) xg.nx) (hs.ext (x1.trans xg)) hw hok)
  have hc := fun (K : Value → H → Option (Value × H)) => calls_eq (K := K) (xs := [_, _, _, _]) e1
  exact ⟨v, e, h', x20 (k := 0) (by simp [f20, hc]) b.plain, x1.trans x, b⟩

end Go.AM

end
