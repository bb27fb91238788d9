/- Rounds that keep tasks: the walks. -/
import Derived.Test.YtnhmgokjijlhbaaSc
import Derived.Test.YtnhmgokjijlhbaaF5
namespace Go.AM
open Go.Proofs Go.Lives

variable {R : Type}

attribute [local simp] nx_eq nx_new nx_set blk_new blk_set asI_int asK_int asB_bool asP_ptr al_eq bx_eq len_slice onE_exit onE_ret onR_ret Value.cells d3 d22 d31 d60 d69 d70 w70 w60 w3 w22 cell_new cell_set rd_new rd_set off eq lt le ifB gv out eqF1 eqF2 eqF3 eqF4 eqF5 eqF6 eqF7 eqF8 ext20 ext21

/-! ### Gaps -/

theorem day_get {v : Value} {r : List Nat} {h : H} (hs : SlR h 3 1 v (cellsI (nI r))) {j : Nat} (hj : j < r.length) {T : Type} (K : Value → Option T) : (six v (j : Int) 1 fun b o => (h.cell b o).bind K) = K (iv (dayT r j)) :=
  nI_get hs (dayT_get hj) K

theorem s69 {v : Value} {r : List Nat} {i : Nat} {h : H} (hs : SlR h 3 1 v (cellsI (nI r))) (hr : r.length ≤ 20100) : rn 69 #[v, iv i] h = some (iv (seqP (dayT r) i (2 * r.length)).1, h) := by
  have hn : ∀ {T : Type} (K : Int → Option T), len v K = K (r.length : Int) := fun K => by rw [hs.len]; simp
  have hmul : mul .i64 2 (r.length : Int) = ((2 * r.length : Nat) : Int) := by rw [mul64 (by omega) (by omega)]; simp
  refine p69 (k := 200010) (h1 := h) ?_ rfl (.refl _)
  have hlp := lp_same (ρ := Empty) (F := f69_l1 rn 200010 v i r.length) (k := 200010) (l := r ++ r) (h := h) (fun j (s : Int × Int) => [iv s.1, iv s.2, iv j])
    (fun j x s => .inl (stepP i j x s)) (fun j s => 0 ≤ s.1 ∧ s.1 ≤ j + 1 ∧ -1 ≤ s.2 ∧ s.2 < j) (fun _ => .ret) (fun _ => []) 0 (fun s => [iv s.1, iv s.2, iv (r ++ r).length]) (ws := [iv 0, iv (-1), iv 0]) (s0 := ((0 : Int), (-1 : Int))) rfl (by decide) (by simp; omega) (by simp)
    (fun s _ => by
      have : ¬ (((r ++ r).length : Nat) : Int) < ((2 * r.length : Nat) : Int) := by simp; omega
      simp only [f69_l1, AM.gv, List.getD_cons_succ, List.getD_cons_zero, asI_int, hmul, AM.lt, decide_eq_false this, ifB_false, AM.out])
    (by
      rintro j x ⟨o, la⟩ hx ⟨i1, i2, i3, i4⟩
      have hj := (List.getElem?_eq_some_iff.1 hx).1
      rw [List.length_append] at hj
      have hm : 0 < r.length := by omega
      simp only at i1 i2 i3 i4
      have hxd : x = dayT r j := by
        rw [← dbl, List.getElem?_map, List.getElem?_range (by omega)] at hx
        exact (Option.some.inj hx).symm
      have hmax : ∀ y : Int, 0 ≤ y → y ≤ j + 1 → 0 ≤ imax o y ∧ imax o y ≤ j + 1 := fun y _ _ => by unfold imax; split <;> omega
      refine ⟨fun s' hs' => ?_, ?_⟩
      · cases hs'
        unfold stepP
        simp only
        split
        · split
          · have := hmax ((j : Int) - la) (by omega) (by omega)
            simp only; omega
          · simp only; omega
        · simp only; omega
      · have hlt : (j : Int) < ((2 * r.length : Nat) : Int) := by omega
        have hrem : rem .i64 (j : Int) (r.length : Int) = ((j % r.length : Nat) : Int) := rem_nat _ _
        have hadd : add .i64 (j : Int) 1 = (j : Int) + 1 := add64 (by omega) (by omega)
        have hsub : sub .i64 (j : Int) la = (j : Int) - la := sub64 (by omega) (by omega)
        have hmod : j % r.length < r.length := Nat.mod_lt _ hm
        have e1 : ∀ (K : Value → Option (Ex × List Value × H)), (six v ((j % r.length : Nat) : Int) 1 fun b o => (h.cell b o).bind K) = K (iv x) := fun K => by
          rw [day_get hs hmod, dayT_mod, ← hxd]
        have hnz : ∀ (y : Option (Ex × List Value × H)), nz (r.length : Int) y = y := fun y => nz_ne (by omega) y
        unfold stepP
        simp only [f69_l1, AM.gv, List.getD_cons_succ, List.getD_cons_zero, asI_int, hmul, lt_t hlt, ifB_true, hn, hnz, hrem, d3, e1]
        by_cases hxi : x = i
        · rw [if_pos hxi]
          have hxi' : AM.eq (x : Int) (i : Int) = true := by simp [hxi]
          by_cases hla : 0 ≤ la
          · rw [if_pos hla]
            simp [hxi', hla, hsub, hadd, rnd, hxi]
          · rw [if_neg hla]
            simp [hxi', hla, hadd, rnd, hxi]
        · rw [if_neg hxi]
          have : ¬ ((x : Int) = (i : Int)) := by omega
          simp [this, hadd, rnd, hxi])
  rw [itL_inl (stepP i)] at hlp
  have hf := seqP_fold r i (2 * r.length) (Nat.le_refl _)
  rw [List.take_of_length_le (by simp; omega)] at hf
  rw [hf] at hlp
  unfold f69
  rw [hn]
  refine (lp_eq hlp.1).trans ?_
  simp

theorem stepR_bnd {r : List Nat} {i : Nat} : ∀ (l : List Nat) (s : Int × Int × Bool), 0 ≤ s.1 → 0 ≤ s.2.1 → 0 ≤ (l.foldl (stepR i) s).1 ∧ (l.foldl (stepR i) s).1 ≤ s.1 + l.length ∧ 0 ≤ (l.foldl (stepR i) s).2.1 := by
  intro l
  induction l with
  | nil => intro s h1 h2; exact ⟨h1, by simp, h2⟩
  | cons x l ih =>
    intro s h1 h2
    rw [List.foldl_cons]
    have hb : 0 ≤ (stepR i s x).1 ∧ (stepR i s x).1 ≤ s.1 + 1 ∧ 0 ≤ (stepR i s x).2.1 := by
      unfold stepR imax
      split
      · simp only; split <;> omega
      · simp only; omega
    obtain ⟨g1, g2, g3⟩ := ih _ hb.1 hb.2.2
    refine ⟨g1, ?_, g3⟩
    rw [List.length_cons]
    omega

theorem gap_inner {v : Value} {r : List Nat} {i : Nat} {h : H} (hs : SlR h 3 1 v (cellsI (nI r))) (hr : r.length ≤ 20100) (s0 : Int × Int × Bool) (h0 : 0 ≤ s0.1 ∧ s0.1 ≤ 30000) :
    lpGo (f70_l2 rn 200010 v i r.length) 200010 [iv s0.1, iv s0.2.1, .bool s0.2.2, iv 0] h = some (.exit 2, [iv (r.foldl (stepR i) s0).1, iv (r.foldl (stepR i) s0).2.1, .bool (r.foldl (stepR i) s0).2.2, iv r.length], h) := by
  have hlp := lp_same (ρ := Empty) (F := f70_l2 rn 200010 v i r.length) (k := 200010) (l := r) (h := h) (fun j (s : Int × Int × Bool) => [iv s.1, iv s.2.1, .bool s.2.2, iv j])
    (fun _ x s => .inl (stepR i s x)) (fun j s => 0 ≤ s.1 ∧ s.1 ≤ 30000 + j) (fun _ => .ret) (fun _ => []) 2 (fun s => [iv s.1, iv s.2.1, .bool s.2.2, iv r.length]) (ws := [iv s0.1, iv s0.2.1, .bool s0.2.2, iv 0]) (s0 := s0) rfl (by simpa using h0) (by omega) (by simp)
    (fun s _ => by simp [f70_l2])
    (by
      rintro j x ⟨si, mo, dn⟩ hx ⟨i1, i2⟩
      have hj := (List.getElem?_eq_some_iff.1 hx).1
      simp only at i1 i2
      refine ⟨fun s' hs' => ?_, ?_⟩
      · cases hs'
        unfold stepR
        split <;> simp only <;> omega
      · have e1 := fun (K : Value → Option (Ex × List Value × H)) => nI_get hs hx K
        have hadd : add .i64 (j : Int) 1 = (j : Int) + 1 := add64 (by omega) (by omega)
        have hadds : add .i64 si 1 = si + 1 := add64 (by omega) (by omega)
        unfold stepR
        by_cases hxi : x = i
        · simp [f70_l2, hj, e1, hxi, hadds, hadd, rnd]
        · have : ¬ ((x : Int) = (i : Int)) := by omega
          simp [f70_l2, hj, e1, this, hxi, hadds, hadd, rnd])
  rw [itL_inl (fun _ x s => stepR i s x), foldI_l (fun s x => stepR i s x)] at hlp
  exact hlp.1

def gapZ (r : List Nat) (i : Nat) : Int := if (seqR (dayT r) i (2 * r.length)).2.2 then (seqR (dayT r) i (2 * r.length)).2.1 else 1073741824

theorem s70 {v : Value} {r : List Nat} {i : Nat} {h : H} (hs : SlR h 3 1 v (cellsI (nI r))) (hr : r.length ≤ 20100) : rn 70 #[v, iv i] h = some (iv (gapZ r i), h) := by
  have hn : ∀ {T : Type} (K : Int → Option T), len v K = K (r.length : Int) := fun K => by rw [hs.len]; simp
  refine p70 (k := 200010) (h1 := h) ?_ rfl (.refl _)
  let s1 := r.foldl (stepR i) (0, 0, false)
  let s2 := r.foldl (stepR i) s1
  have hb1 := stepR_bnd (r := r) (i := i) r (0, 0, false) (Int.le_refl _) (Int.le_refl _)
  have i1 := gap_inner (i := i) hs hr (0, 0, false) ⟨by decide, by decide⟩
  have i2 := gap_inner (i := i) hs hr s1 ⟨hb1.1, by have := hb1.2.1; simp only at this; show (r.foldl (stepR i) (0, 0, false)).1 ≤ 30000; omega⟩
  have t0 : f70_l1 rn 200010 v i [iv 0, iv 0, .bool false, iv 0] h = some (.normal, [iv s1.1, iv s1.2.1, .bool s1.2.2, iv 1], h) := by
    have hadd : add .i64 0 1 = 1 := by decide
    simp only [f70_l1, AM.gv, List.getD_cons_succ, List.getD_cons_zero, asI_int, lt_t (show (0 : Int) < 2 by decide), ifB_true, hn]
    refine (lp_eq i1).trans ?_
    simp [hadd, s1]
  have t1 : f70_l1 rn 200010 v i [iv s1.1, iv s1.2.1, .bool s1.2.2, iv 1] h = some (.normal, [iv s2.1, iv s2.2.1, .bool s2.2.2, iv 2], h) := by
    have hadd : add .i64 1 1 = 2 := by decide
    simp only [f70_l1, AM.gv, List.getD_cons_succ, List.getD_cons_zero, asI_int, lt_t (show (1 : Int) < 2 by decide), ifB_true, hn]
    refine (lp_eq i2).trans ?_
    simp [hadd, s2]
  have t2 : f70_l1 rn 200010 v i [iv s2.1, iv s2.2.1, .bool s2.2.2, iv 2] h = some (.exit 0, [iv s2.1, iv s2.2.1, .bool s2.2.2, iv 2], h) := by
    simp [f70_l1]
  have hlp : lpGo (f70_l1 rn 200010 v i) 200010 [iv 0, iv 0, .bool false, iv 0] h = some (.exit 0, [iv s2.1, iv s2.2.1, .bool s2.2.2, iv 2], h) := by
    rw [show (200010 : Nat) = 200007 + 1 + 1 + 1 from rfl, lpGo_next t0, lpGo_next t1, lpGo_exit t2]
  unfold f70
  refine (lp_eq hlp).trans ?_
  have hs2 : seqR (dayT r) i (2 * r.length) = s2 := seqR_dbl r i
  unfold gapZ
  rw [hs2]
  cases h9 : s2.2.2 <;> simp [h9]

/-! ### Rounds -/

def minL : List Int → Int
  | [] => 0
  | x :: l => l.foldl imin x

theorem s78 {v : Value} {x0 : Int} {l : List Int} {h : H} (hs : SlR h 3 1 v (cellsI (x0 :: l))) (hlen : l.length < 100000) : rn 78 #[v] h = some (iv (minP (x0 :: l)), h) := by
  refine p78 (k := 200010) (h1 := h) ?_ rfl (.refl _)
  have hn : ∀ {T : Type} (K : Int → Option T), len v K = K ((l.length + 1 : Nat) : Int) := fun K => by rw [hs.len, List.length_map, List.length_cons]
  have hl := lp_same (ρ := Empty) (F := f78_l1 rn 200010 v) (k := 200010) (l := l) (h := h) (fun i st => [iv st, iv ((i : Int) + 1)])
    (fun _ x st => .inl (imin st x)) (fun _ _ => True) (fun _ => .ret) (fun _ => []) 0 (fun st => [iv st, iv ((l.length : Int) + 1)]) (ws := [iv x0, iv 1]) (s0 := x0) rfl trivial (by omega) (by simp)
    (fun _ _ => by simp [f78_l1, hn])
    (by
      intro i x st hx _
      have hi := (List.getElem?_eq_some_iff.1 hx).1
      refine ⟨fun _ _ => trivial, ?_⟩
      have g1 : ∀ (K : Value → Option (Ex × List Value × H)), (six v ((i : Int) + 1) 1 fun b o => (h.cell b o).bind K) = K (iv x) := fun K => hs.c0 (by omega) (x := [iv x]) (by rw [show ((i : Int) + 1).toNat = i + 1 by omega]; simp [hx]) rfl K
      have hadd : add .i64 ((i : Int) + 1) 1 = (i : Int) + 1 + 1 := add64 (by omega) (by omega)
      simp [f78_l1, hn, show i < l.length by omega, g1, rnd, hadd])
  rw [itL_inl (fun _ x st => imin st x), foldI_l (fun st x => imin st x)] at hl
  have g0 : ∀ (K : Value → Option (Value × H)), (six v 0 1 fun b o => (h.cell b o).bind K) = K (iv x0) := fun K => hs.c0 (by omega) (x := [iv x0]) rfl rfl K
  simp [f78, hn, g0, lp_eq hl.1, minP, show ¬ ((l.length : Int) + 1 < 1) by omega]

theorem s79 {v : Value} {x0 : Int} {l : List Int} {h : H} (hs : SlR h 3 1 v (cellsI (x0 :: l))) (hlen : l.length < 100000) : rn 79 #[v] h = some (iv (maxP (x0 :: l)), h) := by
  refine p79 (k := 200010) (h1 := h) ?_ rfl (.refl _)
  have hn : ∀ {T : Type} (K : Int → Option T), len v K = K ((l.length + 1 : Nat) : Int) := fun K => by rw [hs.len, List.length_map, List.length_cons]
  have hl := lp_same (ρ := Empty) (F := f79_l1 rn 200010 v) (k := 200010) (l := l) (h := h) (fun i st => [iv st, iv ((i : Int) + 1)])
    (fun _ x st => .inl (imax st x)) (fun _ _ => True) (fun _ => .ret) (fun _ => []) 0 (fun st => [iv st, iv ((l.length : Int) + 1)]) (ws := [iv x0, iv 1]) (s0 := x0) rfl trivial (by omega) (by simp)
    (fun _ _ => by simp [f79_l1, hn])
    (by
      intro i x st hx _
      have hi := (List.getElem?_eq_some_iff.1 hx).1
      refine ⟨fun _ _ => trivial, ?_⟩
      have g1 : ∀ (K : Value → Option (Ex × List Value × H)), (six v ((i : Int) + 1) 1 fun b o => (h.cell b o).bind K) = K (iv x) := fun K => hs.c0 (by omega) (x := [iv x]) (by rw [show ((i : Int) + 1).toNat = i + 1 by omega]; simp [hx]) rfl K
      have hadd : add .i64 ((i : Int) + 1) 1 = (i : Int) + 1 + 1 := add64 (by omega) (by omega)
      simp [f79_l1, hn, show i < l.length by omega, g1, rnd, hadd])
  rw [itL_inl (fun _ x st => imax st x), foldI_l (fun st x => imax st x)] at hl
  have g0 : ∀ (K : Value → Option (Value × H)), (six v 0 1 fun b o => (h.cell b o).bind K) = K (iv x0) := fun K => hs.c0 (by omega) (x := [iv x0]) rfl rfl K
  simp [f79, hn, g0, lp_eq hl.1, maxP, show ¬ ((l.length : Int) + 1 < 1) by omega]

/-- Is a slice a round of n tasks? -/
def isRoundP (n most : Nat) (l : List Int) : Bool := decide (1 ≤ l.length ∧ l.length ≤ most) && l.all fun x => decide (0 ≤ x ∧ x < n)

theorem isRound_nI {n most : Nat} {l : List Int} (h : isRoundP n most l = true) : ∃ r : List Nat, l = nI r ∧ r ≠ [] ∧ r.length ≤ most ∧ ∀ x ∈ r, x < n := by
  simp only [isRoundP, Bool.and_eq_true, decide_eq_true_eq, List.all_eq_true] at h
  obtain ⟨⟨h1, h2⟩, h3⟩ := h
  have hl : l = nI (l.map Int.toNat) := by
    show l = List.map _ (List.map _ l)
    rw [List.map_map]
    conv => lhs; rw [← List.map_id l]
    apply List.map_congr_left
    intro x hx
    have := h3 x hx
    simp
    omega
  refine ⟨l.map Int.toNat, hl, fun e => ?_, by simpa using h2, fun x hx => ?_⟩
  · have := congrArg List.length e
    simp only [List.length_map, List.length_nil] at this
    omega
  · obtain ⟨y, hy, rfl⟩ := List.mem_map.1 hx
    have := h3 y hy
    omega

theorem s68 {v : Value} {l : List Int} {n most : Nat} {h : H} (hs : SlR h 3 1 v (cellsI l)) (hm : most ≤ 20000) : rn 68 #[v, iv n, iv most] h = some (.bool (isRoundP n most l), h) := by
  refine p68 (k := 0) (h1 := h) ?_ rfl (.refl _)
  have hn : ∀ {T : Type} (K : Int → Option T), len v K = K (l.length : Int) := fun K => by rw [hs.len, List.length_map]
  cases l with
  | nil => simp [f68, hn, isRoundP]
  | cons x0 l =>
    have h1 : (1 : Int) ≤ ((x0 :: l).length : Nat) := by simp only [List.length_cons]; omega
    by_cases h5 : (x0 :: l).length ≤ most
    · have hll : l.length < 100000 := by simp only [List.length_cons] at h5; omega
      have c1 := fun (K : Value → H → Option (Value × H)) => calls_eq (K := K) (xs := [_]) (s78 hs hll)
      have c2 := fun (K : Value → H → Option (Value × H)) => calls_eq (K := K) (xs := [_]) (s79 hs hll)
      have hne : x0 :: l ≠ [] := by simp
      have h5' : (((x0 :: l).length : Nat) : Int) ≤ (most : Int) := by omega
      have h1' : 1 ≤ (x0 :: l).length := by omega
      generalize x0 :: l = L at *
      have hall : L.all (fun x => decide (0 ≤ x ∧ x < (n : Int))) = (decide (0 ≤ minP L) && decide (maxP L < n)) := by
        rw [Bool.eq_iff_iff, List.all_eq_true, Bool.and_eq_true, decide_eq_true_iff, decide_eq_true_iff]
        have g1 := min_iff hne (k := 0)
        have g2 := max_iff hne (k := (n : Int) - 1)
        constructor
        · intro h
          refine ⟨g1.2 fun y hy => ?_, ?_⟩
          · have := h y hy
            simp at this
            omega
          · have := g2.2 fun y hy => by
              have := h y hy
              simp at this
              omega
            omega
        · rintro ⟨h2, h3⟩ y hy
          have := g1.1 h2 y hy
          have := g2.1 (by omega) y hy
          simp
          omega
      have hL1 : decide (1 ≤ L.length ∧ L.length ≤ most) = true := by simp; omega
      unfold isRoundP
      rw [hall, hL1]
      by_cases q1 : 0 ≤ minP L
      · simp [f68, hn, h1, h5', c1, c2, q1, h1', h5]
      · simp [f68, hn, h1, h5', c1, q1, h1', h5]
    · have h5' : ¬ (((x0 :: l).length : Nat) : Int) ≤ (most : Int) := by omega
      have hL1 : decide (1 ≤ (x0 :: l).length ∧ (x0 :: l).length ≤ most) = false := by
        rw [decide_eq_false_iff_not]; omega
      unfold isRoundP
      rw [hL1]
      generalize x0 :: l = L at *
      simp [f68, hn, h1, h5', h5]

end Go.AM
