/- Copies of slices; slices that are equal; the valid logs as the document tells them. -/
import Derived.Test.YthmfjfblndophaaCb
namespace Go.AM
open Go.Proofs

variable {k : Nat} {R : Type}

attribute [local simp] nx_eq nx_new nx_set blk_new blk_set asI_int asK_int asB_bool asP_ptr al_eq bx_eq len_slice onE_exit onE_ret onR_ret Value.cells d3 d29 d31 d56 d24 d59 d22 cell_new cell_set rd_new rd_set off eq lt le ifB gv out eqF1 eqF2 eqF3 eqF4 eqF5 eqF6 eqF7 eqF8
attribute [local simp] k73 k74 k72 k42 lt_ne lt_ne1

abbrev cellsI (l : List Int) : List (List Value) := l.map fun z => [iv z]

theorem under25 : Try.prog.underlying 25 = some (.slice 3) := by kernel_rfl
theorem bls25e (h : H) : buildSlice Try.prog 25 0 [] h = some (.slice (some ⟨h.nx, 0, none⟩) 0 0, h.new (.row [] 3 true)) := by kernel_rfl
theorem nil25 : binOp Try.prog .eql 25 (.slice none 0 0) (.slice none 0 0) = some (.bool true) := by kernel_rfl
theorem some25 (b o n c : Nat) : binOp Try.prog .eql 25 (.slice (some ⟨b, o, none⟩) n c) (.slice none 0 0) = some (.bool false) := by kernel_rfl

theorem s75 {v : Value} {l : List (List Value)} {h : H} (hs : SlR h 3 1 v l) (hm : l.length < 2 ^ 30) : ∃ v' h', rn 75 #[v] h = some (v', h') ∧ Ext h h' ∧ SlR h' 3 1 v' l ∧ ∃ a n c, v' = .slice a n c := by
  have hs0 := hs
  have key : ∃ v' h', f75 rn 0 v h = some (v', h') ∧ Ext h h' ∧ SlR h' 3 1 v' l := by
    cases hs with
    | nil =>
      refine ⟨.slice none 0 0, h, ?_, .refl _, .nil⟩
      unfold f75 eqv
      rw [nil25]
      rfl
    | @at_ b o c cs own l hb hr hk hc hl hx =>
      unfold f75 eqv
      rw [some25]
      simp only []
      rw [show ifB false = fun (x y : Option (Value × H)) => y from rfl]
      simp only []
      rw [bls_some (bls25e h)]
      have x1 := Ext.new h (.row [] 3 true)
      obtain ⟨v', h', e, x, s⟩ := app_all (b := h.nx) app25 app25 (Nat.lt_succ_self _) (blk_new_self _ _) (hs0.ext x1) hm
      exact ⟨v', h', e _, x1.trans x, s⟩
  obtain ⟨v', h', e, x, s⟩ := key
  have hv : ∃ a n c, v' = .slice a n c := by cases s <;> exact ⟨_, _, _, rfl⟩
  obtain ⟨a, n, c, rfl⟩ := hv
  exact ⟨_, h', x75 e rfl, x, s, a, n, c, rfl⟩

theorem s28 {v : Value} {l : List (List Value)} {h : H} (hs : SlR h 3 1 v l) : ∃ v' h', rn 28 #[v] h = some (v', h') ∧ Ext h h' ∧ SlR h' 3 1 v' (l.take 26) := by
  have e1 : imin (l.length : Int) 26 = ((min l.length 26 : Nat) : Int) := by
    unfold imin
    split <;> omega
  obtain ⟨v1, s1, e2⟩ := hs.take (i := ((min l.length 26 : Nat) : Int)) under25 sz3 (by omega) (by omega)
  have e3 : l.take ((min l.length 26 : Nat) : Int).toNat = l.take 26 := by
    rw [Int.toNat_natCast]
    rcases Nat.le_total l.length 26 with h1 | h1
    · rw [Nat.min_eq_left h1, List.take_of_length_le (Nat.le_refl _), List.take_of_length_le h1]
    · rw [Nat.min_eq_right h1]
  rw [e3] at s1
  obtain ⟨v', h', e4, x, s, a, n, c, rfl⟩ := s75 s1 (by rw [List.length_take]; omega)
  refine ⟨_, h', x28 (k := 0) ?_ rfl, x, s⟩
  unfold f28
  rw [hs.len, e1, e2, calls_eq e4]

/-- Are two slices of numbers equal? -/
theorem s26 {v0 v1 : Value} {a b : List Int} {h : H} (ha : SlR h 3 1 v0 (cellsI a)) (hb : SlR h 3 1 v1 (cellsI b)) : rn 26 #[v0, v1] h = some (.bool (decide (a = b)), h) := by
  have hl := ha.lt62
  rw [List.length_map] at hl
  refine p26 (k := a.length + 1) (h1 := h) ?_ rfl (.refl _)
  by_cases hlen : a.length = b.length
  · have hl := lp_same (F := f26_l1 rn (a.length + 1) v0 v1 a.length) (k := a.length + 1) (l := a) (h := h) (fun i (_ : Unit) => [.bool false, iv i])
      (fun i x s => if decide (b[i]? = some x) = true then .inl s else .inr i) (fun _ _ => True) (fun _ => .ret) (fun i => [.bool false, iv i]) 0 (fun _ => [.bool false, iv a.length]) (ws := [.bool false, iv 0]) (s0 := ()) rfl trivial (by omega) (by simp)
      (fun _ _ => by simp [f26_l1])
      (by
        intro i x _ hx _
        have hi := (List.getElem?_eq_some_iff.1 hx).1
        refine ⟨fun _ _ => trivial, ?_⟩
        have hbi : b[i]? = some b[i] := List.getElem?_eq_getElem (by omega)
        have g1 : ∀ (K : Value → Option (Ex × List Value × H)), (six v0 (i : Int) 1 fun b o => (h.cell b o).bind K) = K (iv x) := fun K => ha.c0 (by omega) (x := [iv x]) (by simp [hx]) rfl K
        have g2 : ∀ (K : Value → Option (Ex × List Value × H)), (six v1 (i : Int) 1 fun b o => (h.cell b o).bind K) = K (iv b[i]) := fun K => hb.c0 (by omega) (x := [iv b[i]]) (by simp [hbi]) rfl K
        simp [f26_l1, show i < a.length by omega, g1, g2, hbi, rnd]
        rw [add64 (by omega) (by omega)]
        by_cases hxb : x = b[i]
        · simp [hxb]
        · simp [hxb, Ne.symm hxb])
    have hiff : a = b ↔ ∀ (j : Nat) (x : Int), a[j]? = some x → b[j]? = some x := by
      constructor
      · rintro rfl j x h; exact h
      · intro hh
        apply List.ext_getElem hlen
        intro j h1 h2
        have := hh j a[j] (List.getElem?_eq_getElem h1)
        rw [List.getElem?_eq_getElem h2] at this
        exact (Option.some.inj this).symm
    unfold f26
    simp only [ha.len, hb.len, List.length_map]
    rw [eq_t (by omega)]
    simp
    rcases itL_all (ok := fun i x => decide (b[i]? = some x)) (g := fun i _ => i) (s0 := ()) a 0 with ⟨⟨r, h1⟩, j, x, hx, h2⟩ | ⟨h1, h2⟩
    · rw [h1] at hl
      rw [lp_eq hl]
      simp
      rw [hiff]
      intro hh
      have := hh j x hx
      simp [this] at h2
    · rw [h1] at hl
      rw [lp_eq hl.1]
      simp
      rw [hiff]
      intro j x hx
      simpa using h2 j x hx
  · unfold f26
    simp only [ha.len, hb.len, List.length_map]
    rw [eq_f (by omega)]
    simp
    intro hab
    exact hlen (by rw [hab])

/-- Does a call ahead of c stand against it? -/
def against (c d : Cl) : Bool := decide (c.t < d.t) || clash c d

def rowR (n : Int) (l : List Cl) (i : Nat) (c : Cl) : Bool := okC n c && !(l.take i).any (against c)

def validR (n : Int) (l : List Cl) : Bool := !decide (n < 1) && !decide (7 < n) && !decide (24 < (l.length : Int)) && (List.range l.length).all fun i => (l[i]?).all (rowR n l i)

theorem under22 : Try.prog.underlying 22 = some (.slice 59) := by kernel_rfl

theorem f35_in {c : Cl} {sl : Value} {l : List Cl} {h2 h3 : H} {x0 : Value} (hs : SlR h3 59 3 sl (l.map Cl.cells)) (hk : l.length < k) (hn : h2.nx < h3.nx) (hc : h3.blk h2.nx = some (.row c.cells 59 true)) :
    ∃ h', Ext h3 h' ∧ ((l.any (against c) = false ∧ lpGo (f35_l2 rn k h2 sl l.length) k [x0, iv 0] h3 = some (.exit 2, [x0, iv l.length], h')) ∨
      (l.any (against c) = true ∧ ∃ i : Nat, lpGo (f35_l2 rn k h2 sl l.length) k [x0, iv 0] h3 = some (.ret, [.bool false, iv i], h'))) := by
  have hlen := hs.lt62
  rw [List.length_map] at hlen
  obtain ⟨h', x', hl⟩ := lp_list (F := f35_l2 rn k h2 sl l.length) (k := k) (l := l) (h1 := h3) (fun i (_ : Unit) => [x0, iv i])
    (fun i d s => if (!against c d) = true then .inl s else .inr i) (fun _ _ => True) (fun _ => .ret) (fun i => [.bool false, iv i]) 2 (fun _ => [x0, iv l.length]) (ws := [x0, iv 0]) (s0 := ()) rfl trivial hk (by simp)
    (fun _ g _ _ => by simp [f35_l2])
    (by
      intro i y _ h4 hy _ x4
      have hi := (List.getElem?_eq_some_iff.1 hy).1
      have x5 := (Ext.refl h4).fresh 59 [iv 0, iv 0, iv 0] y.cells
      have hyb := blk_fresh h4 59 [iv 0, iv 0, iv 0] y.cells
      refine ⟨fun _ _ => trivial, h4.fresh 59 [iv 0, iv 0, iv 0] y.cells, x5, ?_⟩
      have hcb := ((x4.trans x5).blk _ hn).trans hc
      unfold f35_l2
      rw [show gv [x0, iv i] 1 = iv i from rfl, show gv [x0, iv i] 0 = x0 from rfl, asI_int, lt_t (by omega), ifB_true, asK_int, (hs.ext x4).ldA ag59 sz59 (by omega) (x := y.cells) (by simp [hy])]
      rw [al_st (zs := [iv 0, iv 0, iv 0]) (xs := y.cells) sz59 rfl rfl]
      generalize h4.fresh 59 [iv 0, iv 0, iv 0] y.cells = h5 at *
      simp only [Cl.cells] at hcb hyb
      simp [cell_of hcb, cell_of hyb, rnd]
      rw [add64 (by omega) (by omega)]
      grind [against, clash, Cl.has])
  refine ⟨h', x', ?_⟩
  rcases itL_all (ok := fun _ d => !against c d) (g := fun i _ => i) (s0 := ()) l 0 with ⟨⟨r, h1⟩, j, x, hx, h2⟩ | ⟨h1, h2⟩
  · rw [h1] at hl
    exact .inr ⟨by rw [List.any_eq_true]; exact ⟨x, List.mem_of_getElem? hx, by simpa using h2⟩, r, hl⟩
  · rw [h1] at hl
    refine .inl ⟨?_, hl.1⟩
    rw [List.any_eq_false]
    intro x hx
    obtain ⟨j, hj, rfl⟩ := List.getElem_of_mem hx
    simpa using h2 j _ (List.getElem?_eq_getElem hj)

theorem s35' {n : Int} {sl : Value} {l : List Cl} {h : H} (hs : SlR h 59 3 sl (l.map Cl.cells)) : rn 35 #[.agg #[iv n, sl]] h = some (.bool (validR n l), h) := by
  have hlen := hs.lt62
  rw [List.length_map] at hlen
  have x1 : Ext h (h.new (.row [iv n, sl] 24 true)) := .new _ _
  have hb1 : (h.new (.row [iv n, sl] 24 true)).blk h.nx = some (.row [iv n, sl] 24 true) := blk_new_self _ _
  have hn1 : h.nx < (h.new (.row [iv n, sl] 24 true)).nx := Nat.lt_succ_self _
  have hs1 := hs.ext x1
  obtain ⟨h', x', hl⟩ := lp_list (F := f35_l1 rn (l.length + 1) h sl l.length) (k := l.length + 1) (l := l) (h1 := h.new (.row [iv n, sl] 24 true)) (fun i (_ : Unit) => [.bool false, iv i])
    (fun i c s => if rowR n l i c = true then .inl s else .inr i) (fun _ _ => True) (fun _ => .ret) (fun i => [.bool false, iv i]) 0 (fun _ => [.bool false, iv l.length]) (ws := [.bool false, iv 0]) (s0 := ()) rfl trivial (by omega) (by simp)
    (fun _ h2 _ _ => by simp [f35_l1])
    (by
      intro i c _ h2 hc _ x2
      have hi := (List.getElem?_eq_some_iff.1 hc).1
      have hb2 := (x2.blk _ hn1).trans hb1
      have hn2 := Nat.lt_of_lt_of_le hn1 x2.nx
      have hs2 := hs1.ext x2
      have x3 := (Ext.refl h2).fresh 59 [iv 0, iv 0, iv 0] c.cells
      have hb3 := (x3.blk _ hn2).trans hb2
      have hcb := blk_fresh h2 59 [iv 0, iv 0, iv 0] c.cells
      have hn3 : h2.nx < (h2.fresh 59 [iv 0, iv 0, iv 0] c.cells).nx := Nat.lt_succ_self _
      have hs3 := hs2.ext x3
      obtain ⟨v', hv', hsli⟩ := hs3.take (i := (i : Int)) under22 sz59 (by omega) (by simp; omega)
      rw [Int.toNat_natCast, ← List.map_take] at hv'
      obtain ⟨h5, x5, hin⟩ := f35_in (k := l.length + 1) (x0 := .bool false) hv' (by rw [List.length_take]; omega) hn3 hcb
      have hlt : ((l.take i).length : Int) = i := by rw [List.length_take]; omega
      rw [hlt] at hin
      refine ⟨fun _ _ => trivial, ?_⟩
      have hF : ∃ h', Ext h2 h' ∧ f35_l1 rn (l.length + 1) h sl l.length [.bool false, iv i] h2 = if rowR n l i c = true then some (.normal, [.bool false, iv ((i : Int) + 1)], h') else some (.ret, [.bool false, iv i], h') := by
        unfold f35_l1
        rw [show gv [.bool false, iv i] 1 = iv i from rfl, show gv [.bool false, iv i] 0 = .bool false from rfl, asI_int, lt_t (by omega), ifB_true, asK_int, hs2.ldA ag59 sz59 (by omega) (x := c.cells) (by simp [hc])]
        rw [al_st (zs := [iv 0, iv 0, iv 0]) (xs := c.cells) sz59 rfl rfl]
        generalize h2.fresh 59 [iv 0, iv 0, iv 0] c.cells = h3 at *
        simp only [Cl.cells] at hcb
        by_cases hok : okC n c = true
        · refine ⟨h5, x3.trans x5, ?_⟩
          have hlv : ∀ (K : Int → Option (Ex × List Value × H)), len v' K = K i := fun K => by rw [hv'.len, List.length_map, hlt]
          rcases hin with ⟨ha, hlp⟩ | ⟨ha, r, hlp⟩
          · simp [cell_of hb3, cell_of hcb, hsli, hlv, lp_eq hlp, rowR, ha, hok]
            rw [add64 (by omega) (by omega)]
            grind [okC]
          · simp [cell_of hb3, cell_of hcb, hsli, hlv, lp_eq hlp, rowR, ha, hok]
            grind [okC]
        · refine ⟨h3, x3, ?_⟩
          simp [cell_of hb3, cell_of hcb, hsli, rowR, hok]
          grind [okC]
      obtain ⟨h', x', e⟩ := hF
      refine ⟨h', x', ?_⟩
      rw [e]
      split <;> simp [rnd])
  have hall : (∃ r, itL (σ := Unit) (ρ := Nat) (fun i c s => if rowR n l i c = true then .inl s else .inr i) l 0 () = .inr r) ∧ ((List.range l.length).all fun i => (l[i]?).all (rowR n l i)) = false ∨
      itL (σ := Unit) (ρ := Nat) (fun i c s => if rowR n l i c = true then .inl s else .inr i) l 0 () = .inl () ∧ ((List.range l.length).all fun i => (l[i]?).all (rowR n l i)) = true := by
    rcases itL_all (ok := fun i c => rowR n l i c) (g := fun i _ => i) (s0 := ()) l 0 with ⟨h1, j, x, hx, h2⟩ | ⟨h1, h2⟩
    · refine .inl ⟨h1, ?_⟩
      rw [List.all_eq_false]
      exact ⟨j, List.mem_range.2 (List.getElem?_eq_some_iff.1 hx).1, by simpa [hx] using h2⟩
    · refine .inr ⟨h1, ?_⟩
      rw [List.all_eq_true]
      intro j hj
      have hj := List.mem_range.1 hj
      have := h2 j _ (List.getElem?_eq_getElem hj)
      simpa [hj] using this
  have hF : ∃ h1, Ext h h1 ∧ f35 rn (l.length + 1) (.agg #[iv n, sl]) h = some (.bool (validR n l), h1) := by
    by_cases c : n < 1 ∨ 7 < n ∨ 24 < (l.length : Int)
    · refine ⟨_, x1, ?_⟩
      simp [f35, cell_of hb1, hs.len, validR]
      grind
    · refine ⟨h', x1.trans x', ?_⟩
      rcases hall with ⟨⟨r, h1⟩, h2⟩ | ⟨h1, h2⟩ <;> rw [h1] at hl
      · simp [f35, cell_of hb1, hs.len, validR, h2, lp_eq hl]
        grind
      · simp [f35, cell_of hb1, hs.len, validR, h2, lp_eq hl.1]
        grind
  obtain ⟨h1, e1, e2⟩ := hF
  exact p35 e2 rfl e1

end Go.AM
