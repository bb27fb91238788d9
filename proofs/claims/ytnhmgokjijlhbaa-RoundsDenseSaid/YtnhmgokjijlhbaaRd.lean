/- RoundsDensity, on the abstract machine: the program's density, and the law. -/
import Derived.Test.YtnhmgokjijlhbaaRc
namespace Go.AM
open Go.Proofs

variable {k : Nat} {R : Type}

attribute [local simp] nx_eq nx_new nx_set blk_new blk_set asI_int asK_int asB_bool asP_ptr al_eq bx_eq len_slice onE_exit onE_ret onR_ret Value.cells d3 d22 d31 w31 cell_new cell_set rd_new rd_set off eq lt le ifB gv out eqF1 eqF2 eqF3 eqF4 eqF5 eqF6 eqF7 eqF8 ext20 ext21 kbld31 kbld31e

theorem prod_nI (ln : List Nat) : prodP (nI ln) = (prodN ln : Nat) := by
  induction ln with
  | nil => rfl
  | cons x l ih =>
    rw [show nI (x :: l) = (x : Int) :: nI l from rfl, prod_cons, ih]
    simp [prodN]

theorem tasks_nI {l : List Int} (h : tasksP l = true) : ∃ ln : List Nat, l = nI ln ∧ ln.length ≤ 5 ∧ 1 ≤ ln.length ∧ (∀ x ∈ ln, 1 ≤ x ∧ x ≤ 12) ∧ prodN ln ≤ 4000 := by
  simp only [tasksP, Bool.and_eq_true, decide_eq_true_eq] at h
  obtain ⟨⟨h1, h2⟩, h3⟩ := h
  have hall := okN_all.1 h2
  have e : l = nI (l.map Int.toNat) := by
    unfold nI
    rw [List.map_map]
    conv => lhs; rw [← List.map_id l]
    apply List.map_congr_left
    intro x hx
    have := hall x hx
    simp only [id_eq, Function.comp_apply]
    omega
  refine ⟨l.map Int.toNat, e, by simpa using h1.2, by simpa using h1.1, fun x hx => ?_, ?_⟩
  · obtain ⟨y, hy, rfl⟩ := List.mem_map.1 hx
    have := hall y hy
    omega
  · rw [e, prod_nI] at h3
    omega

/-- The program's density. -/
theorem s20 {v : Value} {ln : List Nat} {h : H} (hs : SlR h 3 1 v (cellsI (nI ln))) (ht : tasksP (nI ln) = true) (h5 : ln.length ≤ 5) (hok : ∀ x ∈ ln, 1 ≤ x ∧ x ≤ 12) (h4000 : prodN ln ≤ 4000) :
    rn 20 #[v] h = some (.tuple #[.agg #[iv (densP ln).1, iv (densP ln).2], iv 0], h) := by
  have hn : ∀ {T : Type} (K : Int → Option T), len v K = K (ln.length : Int) := fun K => by rw [hs.len]; simp
  have x1 : Ext h (h.new (.row [iv 0, iv 0] 31 true)) := .new _ _
  have hs1 := hs.ext x1
  have hb1 : (h.new (.row [iv 0, iv 0] 31 true)).blk h.nx = some (.row [iv 0, iv 0] 31 true) := blk_new_self _ _
  have n1 : (h.new (.row [iv 0, iv 0] 31 true)).nx = h.nx + 1 := rfl
  have hD : 0 < prodN ln := prodN_pos fun x hx => (hok x hx).1
  have hb := (sumN_le hok).1
  have p12 : 12 ^ ln.length ≤ 12 ^ 5 := Nat.pow_le_pow_right (by omega) h5
  have hb' : ln.length * 12 ^ ln.length ≤ 5 * 12 ^ 5 := Nat.mul_le_mul h5 p12
  have hsum := sum_fold ln 1 0 fun x hx => (hok x hx).1
  simp only [Nat.one_mul, Nat.zero_add] at hsum
  have hok' : ∀ x ∈ nI ln, 1 ≤ x ∧ x ≤ 12 := fun x hx => by
    obtain ⟨y, hy, rfl⟩ := List.mem_map.1 hx
    have := hok y hy
    omega
  have c53 := fun (K : Value → H → Option (Value × H)) => calls_eq (K := K) (xs := [_]) (s53 hs1)
  have c57 := fun (K : Value → H → Option (Value × H)) => calls_eq (K := K) (xs := [_]) (s57 hs1 (by simpa using h5) fun x hx => by have := hok' x hx; omega)
  rw [prod_nI] at c57
  have hw1 := fun p q => wrc31 (x := p) (y := q) hb1
  suffices hh : ∃ h1, f20 rn 4010 v h = some (.tuple #[.agg #[iv (densP ln).1, iv (densP ln).2], iv 0], h1) ∧ Ext h h1 by
    obtain ⟨h1, e, x⟩ := hh
    exact p20 e rfl x
  unfold f20
  rw [al_eq]
  generalize h.new (.row [.int .i64 0, .int .i64 0] 31 true) = h1 at *
  unfold densP red
  generalize hDn : prodN ln = D at *
  have hl := lp_same (ρ := Empty) (F := f20_l1 rn 4010 v D ln.length) (k := 4010) (l := ln) (h := h1) (fun i (st : Nat) => [iv st, iv i])
    (fun _ x st => .inl (st + D / x)) (fun i st => st ≤ i * D) (fun _ => .ret) (fun _ => []) 0 (fun st => [iv st, iv ln.length]) (ws := [iv 0, iv 0]) (s0 := (0 : Nat)) rfl (by omega) (by omega) (by simp)
    (fun _ _ => by simp [f20_l1])
    (by
      intro i x st hx hI
      have hi := (List.getElem?_eq_some_iff.1 hx).1
      have hxx := hok x (List.mem_of_getElem? hx)
      have hdx : D / x ≤ D := Nat.div_le_self _ _
      have hiD : i * D ≤ 5 * 4000 := Nat.mul_le_mul (by omega) h4000
      have e1 := fun (K : Value → Option (Ex × List Value × H)) => nI_get hs1 hx K
      have hadd : add .i64 (i : Int) 1 = (i : Int) + 1 := add64 (by omega) (by omega)
      have hq : quo .i64 (D : Int) (x : Int) = ((D / x : Nat) : Int) := quo_nat (by omega)
      have hst : st + D / x ≤ (i + 1) * D := by rw [Nat.add_mul, Nat.one_mul]; omega
      generalize D / x = q at *
      have hadd2 : add .i64 (st : Int) (q : Int) = ((st + q : Nat) : Int) := by rw [add64 (by omega) (by omega)]; simp
      generalize st + q = sq at *
      refine ⟨fun s' hs' => by cases hs'; exact hst, ?_⟩
      simp [f20_l1, show i < ln.length by omega, e1, rnd, hadd, hq, hadd2, nz_ne (show (x : Int) ≠ 0 by omega)])
  rw [itL_inl (fun _ x st => st + D / x)] at hl
  have hf : ∀ (l : List Nat) (i : Nat) (s : Nat), foldI (fun _ x st => st + D / x) l i s = l.foldl (fun s x => s + D / x) s := by
    intro l
    induction l with
    | nil => intro i s; rfl
    | cons x l ih => intro i s; exact ih _ _
  rw [hf, hsum] at hl
  have hl2 := euclid (F := f20_l2 rn 4010) (oj := 2) (h := h1) (fun a b => by
    by_cases hb : b = 0
    · subst hb; simp [f20_l2]
    · simp [f20_l2, hb, nz_ne, rem_nat, show ((b : Int) = 0) = False from eq_false (by omega)]) D (sumN ln) 4010 (by omega)
  have hG : 0 < Nat.gcd (sumN ln) D := Nat.gcd_pos_of_pos_right _ hD
  have hS : sumN ln ≤ 5 * 12 ^ 5 := by omega
  generalize sumN ln = S at *
  generalize Nat.gcd S D = G at *
  have q1 : quo .i64 (S : Int) (G : Int) = ((S / G : Nat) : Int) := quo_nat (by omega)
  have q2 : quo .i64 (D : Int) (G : Int) = ((D / G : Nat) : Int) := quo_nat (by omega)
  generalize S / G = A at *
  generalize D / G = B at *
  refine ⟨h1.set h.nx (.row [iv A, iv B] 31 true), ?_, x1.set (Nat.le_refl _) _⟩
  simp [c53, ht, c57, hn, lp_eq hl.1, lp_eq hl2, nz_ne (show ((G : Nat) : Int) ≠ 0 by omega), q1, q2, hw1]

theorem s20_bad {v : Value} {l : List Int} {h : H} (hs : SlR h 3 1 v (cellsI l)) (ht : tasksP l = false) : rn 20 #[v] h = some (.tuple #[.agg #[iv 0, iv 0], iv 2], h) := by
  have x1 : Ext h (h.new (.row [iv 0, iv 0] 31 true)) := .new _ _
  have hb1 : (h.new (.row [iv 0, iv 0] 31 true)).blk h.nx = some (.row [iv 0, iv 0] 31 true) := blk_new_self _ _
  have c53 := fun (K : Value → H → Option (Value × H)) => calls_eq (K := K) (xs := [_]) (s53 (hs.ext x1))
  have hw1 := fun p q => wrc31 (x := p) (y := q) hb1
  refine p20 (k := 0) (h1 := (h.new (.row [iv 0, iv 0] 31 true)).set h.nx (.row [iv 0, iv 0] 31 true)) ?_ rfl (x1.set (Nat.le_refl _) _)
  unfold f20
  rw [al_eq]
  generalize h.new (.row [.int .i64 0, .int .i64 0] 31 true) = h1 at *
  simp [c53, ht, hw1]

theorem s4 {v : Value} {l : List Int} {h : H} (hs : SlR h 3 1 v (cellsI l)) : ∃ h', rn 4 #[v] h = some (.bool true, h') := by
  obtain ⟨v1, h1, e1, x1, s1⟩ := s18 hs
  have hs1 := hs.ext x1
  have hal : ∀ (a b : Int) (K : H → Option (Value × H)), (al h1 31 [.int .i64 0, .int .i64 0] fun h3 => st Try.prog h3 31 (AM.nx h1) 0 (.agg #[.int .i64 a, .int .i64 b]) K) = K (h1.fresh 31 [iv 0, iv 0] [iv a, iv b]) := fun a b K => al_st (zs := [iv 0, iv 0]) (xs := [iv a, iv b]) sz31 rfl rfl
  have hx : ∀ a b, Ext h1 (h1.fresh 31 [iv 0, iv 0] [iv a, iv b]) := fun a b => (Ext.refl _).fresh _ _ _
  have hb : ∀ a b, (h1.fresh 31 [iv 0, iv 0] [iv a, iv b]).blk h1.nx = some (.row [iv a, iv b] 31 true) := fun a b => blk_fresh _ _ _ _
  have hnx : ∀ a b, h1.nx < (h1.fresh 31 [iv 0, iv 0] [iv a, iv b]).nx := fun a b => Nat.lt_succ_self _
  suffices hh : ∃ h', f4 rn 0 v h = some (.bool true, h') by
    obtain ⟨h', e⟩ := hh
    exact ⟨_, t4 e⟩
  unfold f4
  rw [calls_eq (xs := [_]) e1]
  cases ht : tasksP l with
  | false =>
    have e2 := s20_bad s1 (by rw [tasks_take]; exact ht)
    rw [calls_eq (xs := [_]) e2, ext20, ext21, asI_int, hal]
    have hx0 := hx 0 0
    have hb0 := hb 0 0
    generalize h1.fresh 31 [iv 0, iv 0] [iv 0, iv 0] = h4 at *
    rw [calls_eq (xs := [_]) (s21 (hs1.ext hx0)), ht]
    exact ⟨h4, by simp [rd_of hb0, keqv31, k19]⟩
  | true =>
    obtain ⟨ln, rfl, hl5, hl1, hok, h4000⟩ := tasks_nI ht
    have htk : (nI ln).take 14 = nI ln := List.take_of_length_le (by rw [List.length_map]; omega)
    rw [htk] at s1
    have e2 := s20 s1 ht hl5 hok h4000
    rw [calls_eq (xs := [_]) e2, ext20, ext21, asI_int, hal]
    have hx0 := hx (densP ln).1 (densP ln).2
    have hb0 := hb (densP ln).1 (densP ln).2
    have hn0 := hnx (densP ln).1 (densP ln).2
    generalize h1.fresh 31 [iv 0, iv 0] [iv (densP ln).1, iv (densP ln).2] = h4 at *
    have e3 := s22 (hs1.ext hx0) hl5 hok
    have c3 := fun (K : Value → H → Option (Value × H)) => calls_eq (K := K) (xs := [_]) e3
    rw [calls_eq (xs := [_]) (s21 (hs1.ext hx0)), ht]
    exact ⟨h4, by simp [rd_of hb0, keqv31, k19, c3, freq, same, hn0, ck_true]⟩

end Go.AM
