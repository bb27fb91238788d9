/- What the small functions of calls answer. -/
import Derived.Test.YthmfjfblndophaaF1
import Derived.Test.YthmfjfblndophaaF2
namespace Go.AM
open Go.Proofs

/-- A call. -/
structure Cl where
  a : Int
  b : Int
  t : Int
deriving DecidableEq

def Cl.cells (c : Cl) : List Value := [iv c.a, iv c.b, iv c.t]
abbrev Cl.val (c : Cl) : Value := .agg c.cells.toArray
def Cl.has (c : Cl) (p : Int) : Bool := c.a == p || c.b == p

variable {k : Nat}

attribute [local simp] nx_eq nx_new nx_set blk_new blk_set asI_int asK_int asB_bool asP_ptr al_eq bx_eq len_slice onE_exit onE_ret onR_ret Value.cells d3 d29 d31 d56 d24 d59 d22 cell_new cell_set rd_new rd_set off eq lt le ifB

theorem s73 (c : Cl) (p : Int) (h : H) : rn 73 #[c.val, iv p] h = some (.bool (c.has p), h) :=
  p73 (k := 0) (h1 := h.new (.row c.cells 56 true)) (by simp [f73, Cl.val, Cl.cells, Cl.has]; by_cases h1 : c.a = p <;> simp [h1]) rfl (.new _ _)

theorem s74 (c : Cl) (p : Int) (h : H) : rn 74 #[c.val, iv p] h = some (iv (sub .i64 (add .i64 c.a c.b) p), h) :=
  p74 (k := 0) (h1 := h.new (.row c.cells 56 true)) (by simp [f74, Cl.val, Cl.cells]) rfl (.new _ _)

theorem s72 (n p : Int) (s : Value) (h : H) : rn 72 #[.agg #[iv n, s], iv p] h = some (.bool (decide (0 ≤ p ∧ p < n)), h) :=
  p72 (k := 0) (h1 := h.new (.row [iv n, s] 31 true)) (by simp [f72]; by_cases h1 : 0 ≤ p <;> simp [h1]) rfl (.new _ _)

theorem s42 (n p : Int) (s : Value) (h : H) : rn 42 #[.agg #[iv n, s], iv p] h = some (.bool (decide (0 ≤ p ∧ p < n)), h) :=
  p42 (k := 0) (h1 := h.new (.row [iv n, s] 24 true)) (by simp [f42]; by_cases h1 : 0 ≤ p <;> simp [h1]) rfl (.new _ _)

/-- Calls, as they stand in the staged forms. -/
theorem k73 {R : Type} (c : Cl) (p : Int) (h : H) (K : Value → H → Option R) : calls rn h 73 [.agg #[iv c.a, iv c.b, iv c.t], iv p] K = K (.bool (c.has p)) h := calls_eq (s73 c p h)
theorem k74 {R : Type} (c : Cl) (p : Int) (h : H) (K : Value → H → Option R) : calls rn h 74 [.agg #[iv c.a, iv c.b, iv c.t], iv p] K = K (iv (sub .i64 (add .i64 c.a c.b) p)) h := calls_eq (s74 c p h)
theorem k72 {R : Type} (n p : Int) (s : Value) (h : H) (K : Value → H → Option R) : calls rn h 72 [.agg #[iv n, s], iv p] K = K (.bool (decide (0 ≤ p ∧ p < n))) h := calls_eq (s72 n p s h)
theorem k42 {R : Type} (n p : Int) (s : Value) (h : H) (K : Value → H → Option R) : calls rn h 42 [.agg #[iv n, s], iv p] K = K (.bool (decide (0 ≤ p ∧ p < n))) h := calls_eq (s42 n p s h)

/-- Two calls that cannot be: at one time, with a person in common. -/
def clash (c x : Cl) : Bool := x.t == c.t && (x.has c.a || x.has c.b)

attribute [local simp] k73 k74 k72 k42 lt_ne lt_ne1

theorem s99 {h : H} {c x : Cl} {b : Nat} (hb : b < h.nx) (hc : h.blk b = some (.row c.cells 56 true)) : rn 99 #[x.val, pt b 0] h = some (.bool (clash c x), h) := by
  refine p99 (k := 0) (h1 := h.new (.row x.cells 56 true)) ?_ rfl (.new _ _)
  simp only [Cl.cells] at hc
  simp [f99, Cl.cells, clash, hb, cell_of hc]
  by_cases h1 : x.t = c.t <;> simp [h1]
  by_cases h2 : x.has c.a = true <;> simp [h2]

/-- The first element for which a function says yes. -/
theorem s105 {v0 v1 : Value} {h : H} {l : List Cl} (hs : SlR h 56 3 v0 (l.map Cl.cells)) {p : Cl → Bool} (hp : ∀ x ∈ l, callV rn v1 #[x.val] h = some (.bool (p x), h)) :
    ∃ r, rn 105 #[v0, v1] h = some (iv r, h) ∧ (le 0 r = l.any p) := by
  have hlen := hs.lt62
  rw [List.length_map] at hlen
  have hl := lp_same (F := f105_l1 rn (l.length + 1) v0 v1 l.length) (k := l.length + 1) (l := l) (h := h) (fun i (_ : Unit) => [iv 0, iv i])
    (fun i x s => if (!p x) = true then .inl s else .inr i) (fun _ _ => True) (fun _ => .ret) (fun i => [iv i, iv i]) 0 (fun _ => [iv 0, iv l.length]) (ws := [iv 0, iv 0]) (s0 := ()) rfl trivial (by omega) (by simp)
    (fun _ _ => by simp [f105_l1, gv, out])
    (by
      intro i c _ hc _
      have hi := (List.getElem?_eq_some_iff.1 hc).1
      refine ⟨fun _ _ => trivial, ?_⟩
      unfold f105_l1
      rw [show gv [iv 0, iv i] 1 = iv i from rfl, asI_int, lt_t (by omega), ifB_true, asK_int, hs.ldA ag56 sz56 (by omega) (x := c.cells) (by simp [hc]), callsV_some (hp c (List.mem_of_getElem? hc))]
      rw [asB_bool, asI_int, add64 (by omega) (by omega)]
      cases hpc : p c <;> simp [out, rnd, gv])
  rcases itL_all (ok := fun _ x => !p x) (g := fun i _ => i) (s0 := ()) l 0 with ⟨⟨r, h1⟩, j, x, hx, h2⟩ | ⟨h1, h2⟩
  · rw [h1] at hl
    refine ⟨r, p105 (k := l.length + 1) ?_ rfl (.refl _), ?_⟩
    · unfold f105
      rw [hs.len, List.length_map, lp_eq hl]
      rfl
    · rw [le_t (by omega)]
      symm
      rw [List.any_eq_true]
      exact ⟨x, List.mem_of_getElem? hx, by simpa using h2⟩
  · rw [h1] at hl
    refine ⟨-1, p105 (k := l.length + 1) ?_ rfl (.refl _), ?_⟩
    · unfold f105
      rw [hs.len, List.length_map, lp_eq hl.1]
      rfl
    · symm
      show _ = false
      rw [List.any_eq_false]
      intro x hx
      obtain ⟨j, hj, rfl⟩ := List.getElem_of_mem hx
      simpa using h2 j _ (List.getElem?_eq_getElem hj)

theorem s89 {v0 v1 : Value} {h : H} {l : List Cl} (hs : SlR h 56 3 v0 (l.map Cl.cells)) {p : Cl → Bool} (hp : ∀ x ∈ l, callV rn v1 #[x.val] h = some (.bool (p x), h)) :
    rn 89 #[v0, v1] h = some (.bool (l.any p), h) := by
  obtain ⟨r, e, hr⟩ := s105 hs hp
  refine p89 (k := 0) ?_ rfl (.refl _)
  unfold f89
  rw [calls_eq e, asI_int, hr]

/-- A call of a log of n people. -/
def okC (n : Int) (c : Cl) : Bool := decide (0 ≤ c.a ∧ c.a < n) && decide (0 ≤ c.b ∧ c.b < n) && !(c.a == c.b) && !decide (c.t < 1) && !decide (30 < c.t)

/-- May the call at place i follow those ahead of it? -/
def rowOk (n : Int) (l : List Cl) (i : Nat) : Bool :=
  match l[i]? with
  | none => true
  | some c => okC n c && !(decide (0 < i) && ((l[i - 1]?).any fun d => decide (c.t < d.t))) && !(l.take i).any (clash c)

def validP (n : Int) (l : List Cl) : Bool := !decide (n < 1) && !decide (7 < n) && !decide (24 < (l.length : Int)) && (List.range l.length).all (rowOk n l)

theorem under29 : Try.prog.underlying 29 = some (.slice 56) := by kernel_rfl

theorem s71 {n : Int} {sl : Value} {l : List Cl} {h : H} (hs : SlR h 56 3 sl (l.map Cl.cells)) : rn 71 #[.agg #[iv n, sl]] h = some (.bool (validP n l), h) := by
  have hlen := hs.lt62
  rw [List.length_map] at hlen
  have x1 : Ext h (h.new (.row [iv n, sl] 31 true)) := .new _ _
  have hb1 : (h.new (.row [iv n, sl] 31 true)).blk h.nx = some (.row [iv n, sl] 31 true) := blk_new_self _ _
  have hn1 : h.nx < (h.new (.row [iv n, sl] 31 true)).nx := Nat.lt_succ_self _
  have hs1 := hs.ext x1
  have hl : ∃ h', Ext (h.new (.row [iv n, sl] 31 true)) h' ∧ _ := lp_list (F := f71_l1 rn (l.length + 1) h sl l.length) (k := l.length + 1) (l := l) (h1 := h.new (.row [iv n, sl] 31 true)) (fun i (_ : Unit) => [.bool false, iv i])
    (fun i _ s => if rowOk n l i = true then .inl s else .inr i) (fun _ _ => True) (fun _ => .ret) (fun i => [.bool false, iv i]) 0 (fun _ => [.bool false, iv l.length]) (ws := [.bool false, iv 0]) (s0 := ()) rfl trivial (by omega) (by simp)
    (fun _ h2 _ _ => by simp [f71_l1, gv, out])
    (by
      intro i c _ h2 hc _ x2
      have hi := (List.getElem?_eq_some_iff.1 hc).1
      have hb2 := (x2.blk _ hn1).trans hb1
      have hn2 := Nat.lt_of_lt_of_le hn1 x2.nx
      have hs2 := hs1.ext x2
      have x3 := (Ext.refl h2).fresh 56 [iv 0, iv 0, iv 0] c.cells
      have hb3 := (x3.blk _ hn2).trans hb2
      have hcb := blk_fresh h2 56 [iv 0, iv 0, iv 0] c.cells
      have hn3 : h2.nx < (h2.fresh 56 [iv 0, iv 0, iv 0] c.cells).nx := Nat.lt_succ_self _
      have hs3 := hs2.ext x3
      obtain ⟨v', hv', hsli⟩ := hs3.take (i := (i : Int)) under29 sz56 (by omega) (by simp; omega)
      rw [Int.toNat_natCast, ← List.map_take] at hv'
      have h89 := s89 (v1 := .func (.func 99) #[] #[pt h2.nx 0]) (p := clash c) hv' (fun x _ => s99 hn3 hcb)
      refine ⟨fun _ _ => trivial, h2.fresh 56 [iv 0, iv 0, iv 0] c.cells, x3, ?_⟩
      unfold f71_l1
      rw [show gv [.bool false, iv i] 1 = iv i from rfl, show gv [.bool false, iv i] 0 = .bool false from rfl, asI_int, lt_t (by omega), ifB_true, asK_int, hs2.ldA ag56 sz56 (by omega) (x := c.cells) (by simp [hc])]
      rw [al_st (zs := [iv 0, iv 0, iv 0]) (xs := c.cells) sz56 rfl rfl]
      generalize h2.fresh 56 [iv 0, iv 0, iv 0] c.cells = h3 at *
      simp only [Cl.cells] at hcb
      have hprev : ∀ (K : Value → Option (Ex × List Value × H)), 0 < i → (AM.six sl (sub .i64 (i : Int) 1) 3 fun b2 b3 => (h3.cell b2 (b3 + 2)).bind K) = K (iv ((l[i - 1]?).getD c).t) := by
        intro K h0
        have h1 : i - 1 < l.length := by omega
        rw [sub64 (by omega) (by omega)]
        rw [hs3.cF (by omega) (x := (l[i-1]).cells) (by rw [show ((i : Int) - 1).toNat = i - 1 by omega]; simp [h1]) (y := iv (l[i-1]).t) rfl]
        simp [h1]
      have hcall : ∀ (K : Value → H → Option (Ex × List Value × H)), calls rn h3 89 [v', Value.func (Fn.func 99) #[] #[pt h2.nx 0]] K = K (.bool ((l.take i).any (clash c))) h3 := fun K => calls_eq h89
      by_cases h0 : 0 < i
      · simp [cell_of hb3, rd_of hb3, cell_of hcb, rd_of hcb, out, hsli, hcall, hprev, h0, hc, rnd]
        rw [add64 (by omega) (by omega)]
        have : l[i-1]? = some l[i-1] := List.getElem?_eq_getElem (by omega)
        grind [rowOk, okC]
      · simp [cell_of hb3, rd_of hb3, cell_of hcb, rd_of hcb, out, hsli, hcall, h0, hc, rnd]
        rw [add64 (by omega) (by omega)]
        grind [rowOk, okC])
  obtain ⟨h', x', hl⟩ := hl
  have hall : (∃ r, itL (σ := Unit) (ρ := Nat) (fun i (_ : Cl) s => if rowOk n l i = true then .inl s else .inr i) l 0 () = .inr r) ∧ (List.range l.length).all (rowOk n l) = false ∨
      itL (σ := Unit) (ρ := Nat) (fun i (_ : Cl) s => if rowOk n l i = true then .inl s else .inr i) l 0 () = .inl () ∧ (List.range l.length).all (rowOk n l) = true := by
    rcases itL_all (ok := fun i _ => rowOk n l i) (g := fun i _ => i) (s0 := ()) l 0 with ⟨h1, j, x, hx, h2⟩ | ⟨h1, h2⟩
    · exact .inl ⟨h1, by rw [List.all_eq_false]; exact ⟨j, List.mem_range.2 (List.getElem?_eq_some_iff.1 hx).1, by simpa using h2⟩⟩
    · refine .inr ⟨h1, ?_⟩
      rw [List.all_eq_true]
      intro j hj
      simpa using h2 j _ (List.getElem?_eq_getElem (List.mem_range.1 hj))
  have hF : ∃ h1, Ext h h1 ∧ f71 rn (l.length + 1) (.agg #[iv n, sl]) h = some (.bool (validP n l), h1) := by
    rcases hall with ⟨⟨r, h1⟩, h2⟩ | ⟨h1, h2⟩ <;> rw [h1] at hl
    · by_cases c : n < 1 ∨ 7 < n ∨ 24 < (l.length : Int)
      · refine ⟨_, x1, ?_⟩
        simp [f71, cell_of hb1, hs.len, validP]
        grind
      · refine ⟨h', x1.trans x', ?_⟩
        simp [f71, cell_of hb1, hs.len, validP, h2, lp_eq hl, gv]
        grind
    · by_cases c : n < 1 ∨ 7 < n ∨ 24 < (l.length : Int)
      · refine ⟨_, x1, ?_⟩
        simp [f71, cell_of hb1, hs.len, validP]
        grind
      · refine ⟨h', x1.trans x', ?_⟩
        simp [f71, cell_of hb1, hs.len, validP, h2, lp_eq hl.1, gv]
        grind
  obtain ⟨h1, e1, e2⟩ := hF
  exact p71 e2 rfl e1

end Go.AM
