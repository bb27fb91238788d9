/- States of tasks: their numbers, and the states that come. -/
import Derived.Test.YtnhmgokjijlhbaaRb
import Derived.Test.YtnhmgokjijlhbaaF2
namespace Go.AM
open Go.Proofs

variable {k : Nat} {R : Type}

attribute [local simp] nx_eq nx_new nx_set blk_new blk_set asI_int asK_int asB_bool asP_ptr al_eq bx_eq len_slice onE_exit onE_ret onR_ret Value.cells d3 d22 d31 w3 cell_new cell_set rd_new rd_set off eq lt le ifB gv out eqF1 eqF2 eqF3 eqF4 eqF5 eqF6 eqF7 eqF8 ext20 ext21

/-- Tasks: at most five numbers up to 40, with at most 20000 states. -/
structure TaskI (l : List Int) : Prop where
  len : 1 ≤ l.length ∧ l.length ≤ 5
  rng : ∀ x ∈ l, 1 ≤ x ∧ x ≤ 40
  cnt : prodP l ≤ 20000

theorem tasks_I {l : List Int} (h : tasksP l = true) : TaskI l := by
  simp only [tasksP, Bool.and_eq_true, decide_eq_true_eq, okN_all] at h
  exact ⟨h.1.1, fun x hx => by have := h.1.2 x hx; omega, by have := h.2; omega⟩

/-- A state of tasks. -/
def stOk (l s : List Int) : Bool := decide (s.length = l.length) && (l.zip s).all fun p => decide (1 ≤ p.2 ∧ p.2 ≤ p.1)

theorem stOk_iff {l s : List Int} : stOk l s = true ↔ s.length = l.length ∧ ∀ p ∈ l.zip s, 1 ≤ p.2 ∧ p.2 ≤ p.1 := by
  simp [stOk, List.all_eq_true]

def codeP (l s : List Int) : Int := (l.zip s).foldl (fun n p => n * p.1 + p.2 - 1) 0

theorem foldI_l {α σ : Type} (g : σ → α → σ) : ∀ (l : List α) (i : Nat) (s : σ), foldI (fun _ x st => g st x) l i s = l.foldl g s := by
  intro l
  induction l with
  | nil => intro i s; rfl
  | cons x l ih => intro i s; exact ih _ _

theorem zip_get {l s : List Int} {i : Nat} {p : Int × Int} (h : (l.zip s)[i]? = some p) : l[i]? = some p.1 ∧ s[i]? = some p.2 := by
  rw [List.getElem?_zip_eq_some] at h
  exact h

theorem code_step {n x y : Int} {i : Nat} (hi : i ≤ 4) (h0 : 0 ≤ n) (h1 : n + 1 ≤ 40 ^ i) (hx : x ≤ 40) (hy : 1 ≤ y ∧ y ≤ x) :
    0 ≤ n * x + y - 1 ∧ n * x + y - 1 + 1 ≤ 40 ^ (i + 1) ∧ 0 ≤ n * x ∧ n * x ≤ 40 ^ 5 ∧ (40 : Int) ^ (i + 1) ≤ 40 ^ 5 := by
  have h12 : (0 : Int) < 40 ^ i := Int.pow_pos (by decide)
  have h2 : (n + 1) * x ≤ 40 ^ i * 40 := Int.mul_le_mul h1 hx (by omega) (by omega)
  have h3 : (40 : Int) ^ (i + 1) ≤ 40 ^ 5 := by
    have : (40 : Nat) ^ (i + 1) ≤ 40 ^ 5 := Nat.pow_le_pow_right (by omega) (by omega)
    exact_mod_cast this
  have h4 : 0 ≤ n * x := Int.mul_nonneg h0 (by omega)
  have h5 : (n + 1) * x = n * x + x := by rw [Int.add_mul, Int.one_mul]
  rw [Int.pow_succ] at h3 ⊢
  refine ⟨by omega, by omega, h4, by omega, h3⟩

/-- The number of a state. -/
theorem s66 {v0 v1 : Value} {l s : List Int} {h : H} (hl : SlR h 3 1 v0 (cellsI l)) (hs : SlR h 3 1 v1 (cellsI s)) (ht : TaskI l) (hst : stOk l s = true) : rn 66 #[v0, v1] h = some (iv (codeP l s), h) := by
  obtain ⟨hlen, hp⟩ := stOk_iff.1 hst
  have h5 := ht.len.2
  refine p66 (k := l.length + 1) (h1 := h) ?_ rfl (.refl _)
  have hz : (l.zip s).length = l.length := by rw [List.length_zip]; omega
  have hn : ∀ {T : Type} (K : Int → Option T), len v0 K = K (l.length : Int) := fun K => by rw [hl.len, List.length_map]
  have hlp := lp_same (ρ := Empty) (F := f66_l1 rn (l.length + 1) v0 v1 l.length) (k := l.length + 1) (l := l.zip s) (h := h) (fun i n => [iv n, iv i])
    (fun _ p n => .inl (n * p.1 + p.2 - 1)) (fun i n => 0 ≤ n ∧ n + 1 ≤ 40 ^ i) (fun _ => .ret) (fun _ => []) 0 (fun n => [iv n, iv l.length]) (ws := [iv 0, iv 0]) (s0 := (0 : Int)) rfl (by decide) (by omega) (by simp)
    (fun _ _ => by simp [f66_l1, hz])
    (by
      rintro i ⟨x, y⟩ n hx hI
      have hi := (List.getElem?_eq_some_iff.1 hx).1
      obtain ⟨g1, g2⟩ := zip_get hx
      have hpy := hp _ (List.mem_of_getElem? hx)
      have hxx := ht.rng x (List.mem_of_getElem? g1)
      simp only at g1 g2 hpy
      obtain ⟨c1, c2, c3, c4, c5⟩ := code_step (i := i) (by omega) hI.1 hI.2 hxx.2 hpy
      refine ⟨fun s' hs' => by cases hs'; exact ⟨c1, c2⟩, ?_⟩
      have e1 : ∀ (K : Value → Option (Ex × List Value × H)), (six v0 (i : Int) 1 fun b o => (h.cell b o).bind K) = K (iv x) := fun K => hl.c0 (by omega) (x := [iv x]) (by simp [g1]) rfl K
      have e2 : ∀ (K : Value → Option (Ex × List Value × H)), (six v1 (i : Int) 1 fun b o => (h.cell b o).bind K) = K (iv y) := fun K => hs.c0 (by omega) (x := [iv y]) (by simp [g2]) rfl K
      have hadd : add .i64 (i : Int) 1 = (i : Int) + 1 := add64 (by omega) (by omega)
      have m1 : mul .i64 n x = n * x := mul64 (by omega) (by omega)
      have m2 : add .i64 (n * x) y = n * x + y := add64 (by omega) (by omega)
      have m3 : sub .i64 (n * x + y) 1 = n * x + y - 1 := sub64 (by omega) (by omega)
      simp [f66_l1, show i < l.length by omega, e1, e2, rnd, hadd, m1, m2, m3])
  rw [itL_inl (fun (_ : Nat) (p : Int × Int) (n : Int) => n * p.1 + p.2 - 1), foldI_l (fun (n : Int) (p : Int × Int) => n * p.1 + p.2 - 1)] at hlp
  simp [f66, hn, lp_eq hlp.1, codeP]

theorem s63 {v0 v1 : Value} {l s : List Int} {h : H} (hl : SlR h 3 1 v0 (cellsI l)) (hs : SlR h 3 1 v1 (cellsI s)) (ht : TaskI l) (hst : stOk l s = true) : rn 63 #[v0, v1] h = some (iv (codeP l s), h) := by
  obtain ⟨hlen, hp⟩ := stOk_iff.1 hst
  have h5 := ht.len.2
  refine p63 (k := l.length + 1) (h1 := h) ?_ rfl (.refl _)
  have hz : (l.zip s).length = l.length := by rw [List.length_zip]; omega
  have hn : ∀ {T : Type} (K : Int → Option T), len v1 K = K (l.length : Int) := fun K => by rw [hs.len, List.length_map, hlen]
  have hlp := lp_same (ρ := Empty) (F := f63_l1 rn (l.length + 1) v0 v1 l.length) (k := l.length + 1) (l := l.zip s) (h := h) (fun i n => [iv n, iv i])
    (fun _ p n => .inl (n * p.1 + p.2 - 1)) (fun i n => 0 ≤ n ∧ n + 1 ≤ 40 ^ i) (fun _ => .ret) (fun _ => []) 0 (fun n => [iv n, iv l.length]) (ws := [iv 0, iv 0]) (s0 := (0 : Int)) rfl (by decide) (by omega) (by simp)
    (fun _ _ => by simp [f63_l1, hz])
    (by
      rintro i ⟨x, y⟩ n hx hI
      have hi := (List.getElem?_eq_some_iff.1 hx).1
      obtain ⟨g1, g2⟩ := zip_get hx
      have hpy := hp _ (List.mem_of_getElem? hx)
      have hxx := ht.rng x (List.mem_of_getElem? g1)
      simp only at g1 g2 hpy
      obtain ⟨c1, c2, c3, c4, c5⟩ := code_step (i := i) (by omega) hI.1 hI.2 hxx.2 hpy
      refine ⟨fun s' hs' => by cases hs'; exact ⟨c1, c2⟩, ?_⟩
      have e1 : ∀ (K : Value → Option (Ex × List Value × H)), (six v0 (i : Int) 1 fun b o => (h.cell b o).bind K) = K (iv x) := fun K => hl.c0 (by omega) (x := [iv x]) (by simp [g1]) rfl K
      have e2 : ∀ (K : Value → Option (Ex × List Value × H)), (six v1 (i : Int) 1 fun b o => (h.cell b o).bind K) = K (iv y) := fun K => hs.c0 (by omega) (x := [iv y]) (by simp [g2]) rfl K
      have hadd : add .i64 (i : Int) 1 = (i : Int) + 1 := add64 (by omega) (by omega)
      have m1 : mul .i64 n x = n * x := mul64 (by omega) (by omega)
      have m2 : add .i64 (n * x) y = n * x + y := add64 (by omega) (by omega)
      have m3 : sub .i64 (n * x + y) 1 = n * x + y - 1 := sub64 (by omega) (by omega)
      simp [f63_l1, show i < l.length by omega, e1, e2, rnd, hadd, m1, m2, m3])
  rw [itL_inl (fun (_ : Nat) (p : Int × Int) (n : Int) => n * p.1 + p.2 - 1), foldI_l (fun (n : Int) (p : Int × Int) => n * p.1 + p.2 - 1)] at hlp
  simp [f63, hn, lp_eq hlp.1, codeP]

/-- Is it a state? (65: the program's; 33: the reference's.) -/
theorem s65 {v0 v1 : Value} {l s : List Int} {h : H} (hl : SlR h 3 1 v0 (cellsI l)) (hs : SlR h 3 1 v1 (cellsI s)) : rn 65 #[v0, v1] h = some (.bool (stOk l s), h) := by
  have hln := hl.lt62
  rw [List.length_map] at hln
  refine p65 (k := l.length + 1) (h1 := h) ?_ rfl (.refl _)
  have hn0 : ∀ {T : Type} (K : Int → Option T), len v0 K = K (l.length : Int) := fun K => by rw [hl.len, List.length_map]
  have hn1 : ∀ {T : Type} (K : Int → Option T), len v1 K = K (s.length : Int) := fun K => by rw [hs.len, List.length_map]
  by_cases hlen : s.length = l.length
  · have hz : (l.zip s).length = l.length := by rw [List.length_zip]; omega
    have hlp := lp_same (F := f65_l1 rn (l.length + 1) v0 v1 l.length) (k := l.length + 1) (l := l.zip s) (h := h) (fun i (_ : Unit) => [.bool false, iv i])
      (fun i p s => if decide (1 ≤ p.2 ∧ p.2 ≤ p.1) = true then .inl s else .inr i) (fun _ _ => True) (fun _ => .ret) (fun i => [.bool false, iv i]) 0 (fun _ => [.bool false, iv l.length]) (ws := [.bool false, iv 0]) (s0 := ()) rfl trivial (by omega) (by simp)
      (fun _ _ => by simp [f65_l1, hz])
      (by
        rintro i ⟨x, y⟩ _ hx _
        have hi := (List.getElem?_eq_some_iff.1 hx).1
        obtain ⟨g1, g2⟩ := zip_get hx
        simp only at g1 g2
        refine ⟨fun _ _ => trivial, ?_⟩
        have e1 : ∀ (K : Value → Option (Ex × List Value × H)), (six v0 (i : Int) 1 fun b o => (h.cell b o).bind K) = K (iv x) := fun K => hl.c0 (by omega) (x := [iv x]) (by simp [g1]) rfl K
        have e2 : ∀ (K : Value → Option (Ex × List Value × H)), (six v1 (i : Int) 1 fun b o => (h.cell b o).bind K) = K (iv y) := fun K => hs.c0 (by omega) (x := [iv y]) (by simp [g2]) rfl K
        have hadd : add .i64 (i : Int) 1 = (i : Int) + 1 := add64 (by omega) (by omega)
        by_cases q1 : y < 1
        · simp [f65_l1, show i < l.length by omega, e1, e2, rnd, q1, show ¬ 1 ≤ y by omega]
        · by_cases q2 : x < y
          · simp [f65_l1, show i < l.length by omega, e1, e2, rnd, q1, q2, show ¬ y ≤ x by omega]
          · simp [f65_l1, show i < l.length by omega, e1, e2, rnd, q1, q2, show y ≤ x by omega, show 1 ≤ y by omega, hadd])
    have hk := itL_all (σ := Unit) (ok := fun _ p => decide (1 ≤ p.2 ∧ p.2 ≤ p.1)) (g := fun i _ => i) (s0 := ()) (l.zip s) 0
    rcases hk with ⟨⟨r, hr⟩, j, p, hj, hpj⟩ | ⟨hr, hall⟩
    · rw [hr] at hlp
      have hf : stOk l s = false := by
        cases hc : stOk l s with
        | false => rfl
        | true => exact absurd ((stOk_iff.1 hc).2 p (List.mem_of_getElem? hj)) (of_decide_eq_false hpj)
      simp [f65, hn0, hn1, hlen, lp_eq hlp, hf]
    · rw [hr] at hlp
      have hf : stOk l s = true := stOk_iff.2 ⟨hlen, fun p hp => by
        obtain ⟨j, hj⟩ := List.getElem?_of_mem hp
        exact of_decide_eq_true (hall j p hj)⟩
      simp [f65, hn0, hn1, hlen, lp_eq hlp.1, hf]
  · have hf : stOk l s = false := by simp [stOk, hlen]
    simp [f65, hn0, hn1, show ¬ ((s.length : Int) = l.length) by omega, hf]

theorem s33 {v0 v1 : Value} {l s : List Int} {h : H} (hl : SlR h 3 1 v0 (cellsI l)) (hs : SlR h 3 1 v1 (cellsI s)) : rn 33 #[v0, v1] h = some (.bool (stOk l s), h) := by
  have hln := hl.lt62
  have hsn := hs.lt62
  rw [List.length_map] at hln hsn
  refine p33 (k := s.length + 1) (h1 := h) ?_ rfl (.refl _)
  have hn0 : ∀ {T : Type} (K : Int → Option T), len v0 K = K (l.length : Int) := fun K => by rw [hl.len, List.length_map]
  have hn1 : ∀ {T : Type} (K : Int → Option T), len v1 K = K (s.length : Int) := fun K => by rw [hs.len, List.length_map]
  have hlp := lp_same (F := f33_l1 rn (s.length + 1) v0 v1 s.length) (k := s.length + 1) (l := s) (h := h) (fun i (_ : Unit) => [.bool false, iv i])
      (fun i y s => if decide (i < l.length ∧ 1 ≤ y ∧ y ≤ l.getD i 0) = true then .inl s else .inr i) (fun _ _ => True) (fun _ => .ret) (fun i => [.bool false, iv i]) 0 (fun _ => [.bool false, iv s.length]) (ws := [.bool false, iv 0]) (s0 := ()) rfl trivial (by omega) (by simp)
      (fun _ _ => by simp [f33_l1])
      (by
        rintro i y _ g2 _
        have hi := (List.getElem?_eq_some_iff.1 g2).1
        refine ⟨fun _ _ => trivial, ?_⟩
        have e2 : ∀ (K : Value → Option (Ex × List Value × H)), (six v1 (i : Int) 1 fun b o => (h.cell b o).bind K) = K (iv y) := fun K => hs.c0 (by omega) (x := [iv y]) (by simp [g2]) rfl K
        have hadd : add .i64 (i : Int) 1 = (i : Int) + 1 := add64 (by omega) (by omega)
        by_cases q0 : i < l.length
        · have g1 : l[i]? = some (l.getD i 0) := by
            have h0 := List.getElem?_eq_getElem q0
            rw [List.getD_eq_getElem?_getD, h0]
            rfl
          generalize l.getD i 0 = x at *
          have e1 : ∀ (K : Value → Option (Ex × List Value × H)), (six v0 (i : Int) 1 fun b o => (h.cell b o).bind K) = K (iv x) := fun K => hl.c0 (by omega) (x := [iv x]) (by simp [g1]) rfl K
          have q0' : ¬ (l.length : Int) ≤ i := by omega
          by_cases q1 : y < 1
          · simp [f33_l1, hn0, hi, e2, rnd, q0, q1, show ¬ 1 ≤ y by omega, show ¬ l.length ≤ i by omega]
          · by_cases q2 : x < y
            · simp [f33_l1, hn0, hi, e1, e2, rnd, q0, q1, q2, show ¬ y ≤ x by omega, show ¬ l.length ≤ i by omega]
            · simp [f33_l1, hn0, hi, e1, e2, rnd, q0, q1, q2, show y ≤ x by omega, show 1 ≤ y by omega, hadd, show ¬ l.length ≤ i by omega]
        · simp [f33_l1, hn0, hi, e2, rnd, q0, show l.length ≤ i by omega])
  have hk := itL_all (σ := Unit) (ok := fun i (y : Int) => decide (i < l.length ∧ 1 ≤ y ∧ y ≤ l.getD i 0)) (g := fun i _ => i) (s0 := ()) s 0
  have hget : ∀ {j : Nat} {y : Int}, s[j]? = some y → j < l.length → (l.zip s)[j]? = some (l.getD j 0, y) := fun {j y} hy hj => by
    rw [List.getElem?_zip_eq_some]
    have h0 := List.getElem?_eq_getElem hj
    refine ⟨?_, hy⟩
    rw [List.getD_eq_getElem?_getD, h0]
    rfl
  rcases hk with ⟨⟨r, hr⟩, j, y, hj, hpj⟩ | ⟨hr, hall⟩
  · rw [hr] at hlp
    have hf : stOk l s = false := by
      cases hc : stOk l s with
      | false => rfl
      | true =>
        obtain ⟨c1, c2⟩ := stOk_iff.1 hc
        have hjl := (List.getElem?_eq_some_iff.1 hj).1
        have := c2 _ (List.mem_of_getElem? (hget hj (by omega)))
        have h9 := of_decide_eq_false hpj
        rw [Nat.zero_add] at h9
        exact absurd ⟨by omega, this⟩ h9
    simp [f33, hn1, lp_eq hlp, hf]
  · rw [hr] at hlp
    simp only [Nat.zero_add, decide_eq_true_eq] at hall
    by_cases hlen : s.length = l.length
    · have hf : stOk l s = true := stOk_iff.2 ⟨hlen, fun p hp => by
        obtain ⟨j, hj⟩ := List.getElem?_of_mem hp
        obtain ⟨g1, g2⟩ := zip_get hj
        obtain ⟨h1, h2, h3⟩ := hall j p.2 g2
        have e : l.getD j 0 = p.1 := by rw [List.getD_eq_getElem?_getD, g1]; rfl
        rw [e] at h3
        exact ⟨h2, h3⟩⟩
      unfold f33
      rw [hn1, lp_eq hlp.1, onE_exit, if_pos rfl]
      simp [hn0, hn1, hf, hlen]
    · have hf : stOk l s = false := by simp [stOk, hlen]
      simp [f33, hn0, hn1, lp_eq hlp.1, hf, show ¬ ((s.length : Int) = l.length) by omega]

end Go.AM
