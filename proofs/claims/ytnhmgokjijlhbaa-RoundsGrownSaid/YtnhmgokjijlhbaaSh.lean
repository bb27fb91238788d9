/- Densities: the statement. -/
import Derived.Test.YtnhmgokjijlhbaaSg
namespace Go.AM
open Go.Proofs Go.Lives

variable {R : Type}

attribute [local simp] nx_eq nx_new nx_set blk_new blk_set asI_int asK_int asB_bool asP_ptr al_eq bx_eq len_slice onE_exit onE_ret onR_ret Value.cells d3 d22 d31 d60 d69 d70 w70 w60 w3 w22 cell_new cell_set rd_new rd_set off eq lt le ifB gv out eqF1 eqF2 eqF3 eqF4 eqF5 eqF6 eqF7 eqF8 ext20 ext21

theorem dens_mul {ln : List Nat} (hok : ∀ x ∈ ln, 1 ≤ x) : ∃ g, 0 < g ∧ (densP ln).1 * g = sumN ln ∧ (densP ln).2 * g = prodN ln := by
  have hp := prodN_pos hok
  refine ⟨Nat.gcd (sumN ln) (prodN ln), Nat.gcd_pos_of_pos_right _ hp, ?_, ?_⟩
  · exact Nat.div_mul_cancel (Nat.gcd_dvd_left _ _)
  · exact Nat.div_mul_cancel (Nat.gcd_dvd_right _ _)

theorem most_iff {ln : List Nat} (hok : ∀ x ∈ ln, 1 ≤ x) (a b : Nat) : (densP ln).1 * b ≤ (densP ln).2 * a ↔ sumN ln * b ≤ prodN ln * a := by
  obtain ⟨g, hg, h1, h2⟩ := dens_mul hok
  rw [← h1, ← h2]
  have e1 : (densP ln).1 * g * b = g * ((densP ln).1 * b) := by rw [Nat.mul_right_comm, Nat.mul_comm]
  have e2 : (densP ln).2 * g * a = g * ((densP ln).2 * a) := by rw [Nat.mul_right_comm, Nat.mul_comm]
  rw [e1, e2]
  exact ⟨fun h => Nat.mul_le_mul_left g h, fun h => Nat.le_of_mul_le_mul_left h hg⟩

theorem s23 {B : Nat} {N D a b : Nat} {h : H} (hb : h.blk B = some (.row [iv N, iv D] 31 true)) (hN : N ≤ 1048576) (hD : D ≤ 1048576) (ha : a ≤ 10) (hb' : b ≤ 10) : rn 23 #[iv a, iv b, pt B 0] h = some (.bool (decide (N * b ≤ D * a)), h) := by
  have e1 : ∀ (K : Value → Option (Value × H)), (h.cell B 0).bind K = K (iv N) := fun K => by rw [cell_of hb]; rfl
  have e2 : ∀ (K : Value → Option (Value × H)), (h.cell B 1).bind K = K (iv D) := fun K => by rw [cell_of hb]; rfl
  have h1 := Nat.mul_le_mul hN hb'
  have h2 := Nat.mul_le_mul hD ha
  have m1 : mul .i64 (N : Int) (b : Int) = ((N * b : Nat) : Int) := by rw [mul64 (by rw [← Int.natCast_mul]; omega) (by rw [← Int.natCast_mul]; omega)]; simp
  have m2 : mul .i64 (D : Int) (a : Int) = ((D * a : Nat) : Int) := by rw [mul64 (by rw [← Int.natCast_mul]; omega) (by rw [← Int.natCast_mul]; omega)]; simp
  have hle : decide (((N * b : Nat) : Int) ≤ ((D * a : Nat) : Int)) = decide (N * b ≤ D * a) := by rw [Bool.eq_iff_iff, decide_eq_true_iff, decide_eq_true_iff]; omega
  refine p23 (k := 0) (h1 := h) ?_ rfl (.refl _)
  simp only [f23, asP_ptr, d3, AM.off, Nat.zero_add, e1, e2, asI_int, m1, m2, AM.le, hle]

theorem len_two {α : Type} {l : List α} (h : l.length = 2) : ∃ a b, l = [a, b] := by
  match l, h with
  | [a, b], _ => exact ⟨a, b, rfl⟩

theorem len_three {α : Type} {l : List α} (h : l.length = 3) : ∃ a b c, l = [a, b, c] := by
  match l, h with
  | [a, b, c], _ => exact ⟨a, b, c, rfl⟩

theorem s5 {v0 : Value} {l : List Int} {h : H} (hl : SlR h 3 1 v0 (cellsI l)) : ∃ h', rn 5 #[v0] h = some (.bool true, h') := by
  suffices hh : ∃ h', f5 rn 0 v0 h = some (.bool true, h') by
    obtain ⟨h', e⟩ := hh
    exact ⟨_, t5 e⟩
  obtain ⟨a1, h1, q1, x1, z1⟩ := s18 hl
  have c1 := fun (K : Value → H → Option (Value × H)) => calls_eq (K := K) (xs := [_]) q1
  have hal : ∀ (a b : Int) (K : H → Option (Value × H)), (al h1 31 [.int .i64 0, .int .i64 0] fun h3 => st Try.prog h3 31 (AM.nx h1) 0 (.agg #[.int .i64 a, .int .i64 b]) K) = K (h1.fresh 31 [iv 0, iv 0] [iv a, iv b]) := fun a b K => al_st (zs := [iv 0, iv 0]) (xs := [iv a, iv b]) sz31 rfl rfl
  have hx : ∀ a b, Ext h1 (h1.fresh 31 [iv 0, iv 0] [iv a, iv b]) := fun a b => (Ext.refl _).fresh _ _ _
  have hb : ∀ a b, (h1.fresh 31 [iv 0, iv 0] [iv a, iv b]).blk h1.nx = some (.row [iv a, iv b] 31 true) := fun a b => blk_fresh _ _ _ _
  have hnx : ∀ a b, h1.nx < (h1.fresh 31 [iv 0, iv 0] [iv a, iv b]).nx := fun a b => Nat.lt_succ_self _
  unfold f5
  rw [c1]
  cases ht : tasksP l with
  | false =>
    have ht14 : tasksP (l.take 14) = false := by rw [tasks_take]; exact ht
    have c2 := fun (K : Value → H → Option (Value × H)) => calls_eq (K := K) (xs := [_]) (s20_bad z1 ht14)
    rw [c2, ext20, ext21, asI_int, hal]
    have hx0 := hx 0 0
    generalize h1.fresh 31 [iv 0, iv 0] [iv 0, iv 0] = h4 at *
    obtain ⟨a2, h5, q3, x3, z3⟩ := s18 (hl.ext (x1.trans hx0))
    have c3 := fun (K : Value → H → Option (Value × H)) => calls_eq (K := K) (xs := [_]) q3
    have c4 := fun (K : Value → H → Option (Value × H)) => calls_eq (K := K) (xs := [_]) (s17_bad z3 ht14)
    exact ⟨h5, by simp [c3, c4, k19]⟩
  | true =>
    have htI := tasks_I ht
    obtain ⟨ln, rfl, hl5, hl1, hok, h4000⟩ := tasks_nI ht
    have hok1 : ∀ x ∈ ln, 1 ≤ x := fun x hx => (hok x hx).1
    have htk : (nI ln).take 14 = nI ln := List.take_of_length_le (by rw [List.length_map]; omega)
    rw [htk] at z1
    have c2 := fun (K : Value → H → Option (Value × H)) => calls_eq (K := K) (xs := [_]) (s20 z1 ht hl5 hok h4000)
    rw [c2, ext20, ext21, asI_int, hal]
    -- the fraction
    obtain ⟨g, hg, hN, hD⟩ := dens_mul hok1
    have hpp := prodN_pos hok1
    have hmost := most_iff hok1
    have hD1 : 1 ≤ (densP ln).2 := by
      refine Classical.byContradiction fun hc => ?_
      have : (densP ln).2 = 0 := by omega
      rw [this] at hD
      omega
    have hD2 : (densP ln).2 ≤ 4000 := by
      have := Nat.le_mul_of_pos_right (densP ln).2 hg
      omega
    have hne : ln ≠ [] := fun e => by rw [e] at hl1; simp at hl1
    have hN1 : 1 ≤ (densP ln).1 := by
      refine Classical.byContradiction fun hc => ?_
      have h0 : (densP ln).1 = 0 := by omega
      rw [h0, Nat.zero_mul] at hN
      obtain ⟨x, hx⟩ := List.exists_mem_of_ne_nil ln hne
      have := sum_ge hok1 hx
      rw [← hN, Nat.mul_zero] at this
      omega
    have hN2 : (densP ln).1 ≤ 1048576 := by
      have h9 := Nat.le_mul_of_pos_right (densP ln).1 hg
      have hs : ∀ l : List Nat, (∀ x ∈ l, 1 ≤ x) → sumN l ≤ l.length * prodN l := by
        intro l
        induction l with
        | nil => intro _; simp [sumN]
        | cons x l ih =>
          intro hl
          have i1 := ih fun y hy => hl y (by simp [hy])
          have i2 := hl x (by simp)
          simp only [sumN, prodN, List.length_cons]
          have i3 := Nat.mul_le_mul_left x i1
          have i4 : prodN l ≤ x * prodN l := Nat.le_mul_of_pos_left _ i2
          rw [Nat.add_mul, Nat.one_mul]
          have i5 : l.length * (x * prodN l) = x * (l.length * prodN l) := Nat.mul_left_comm _ _ _
          omega
      have h10 := hs ln hok1
      have h11 := Nat.mul_le_mul hl5 h4000
      omega
    have hxf := hx (densP ln).1 (densP ln).2
    have hbf := hb (densP ln).1 (densP ln).2
    have hnf := hnx (densP ln).1 (densP ln).2
    generalize h1.fresh 31 [iv 0, iv 0] [iv ((densP ln).1 : Nat), iv ((densP ln).2 : Nat)] = h4 at *
    have hmp : ∀ a b : Nat, decide ((densP ln).1 * b ≤ (densP ln).2 * a) = decide (sumN ln * b ≤ prodN ln * a) := fun a b => by rw [Bool.eq_iff_iff, decide_eq_true_iff, decide_eq_true_iff]; exact hmost a b
    generalize (densP ln).1 = N at *
    generalize (densP ln).2 = D at *
    obtain ⟨a2, h5, q3, x3, z3⟩ := s18 (hl.ext (x1.trans hxf))
    rw [htk] at z3
    have c3 := fun (K : Value → H → Option (Value × H)) => calls_eq (K := K) (xs := [_]) q3
    obtain ⟨v6, e6, h6, q4, x4, hR⟩ := s17 z3 ht
    have c4 := fun (K : Value → H → Option (Value × H)) => calls_eq (K := K) (xs := [_]) q4
    have hb6 : h6.blk h1.nx = some (.row [iv N, iv D] 31 true) := ((x3.trans x4).blk _ hnf).trans hbf
    have r0 : ∀ (K : Value → Option (Value × H)), (h6.cell h1.nx 0).bind K = K (iv N) := fun K => by rw [cell_of hb6]; rfl
    have r1 : ∀ (K : Value → Option (Value × H)), (h6.cell h1.nx 1).bind K = K (iv D) := fun K => by rw [cell_of hb6]; rfl
    have s11 := s23 (a := 1) (b := 1) hb6 hN2 (by omega) (by omega) (by omega)
    have s12 := s23 (a := 1) (b := 2) hb6 hN2 (by omega) (by omega) (by omega)
    have s56 := s23 (a := 5) (b := 6) hb6 hN2 (by omega) (by omega) (by omega)
    rw [hmp] at s11 s12 s56
    have d11 : ∀ (K : Value → H → Option (Value × H)), calls rn h6 23 [.int .i64 1, .int .i64 1, pt h1.nx 0] K = K (.bool (decide (sumN ln * 1 ≤ prodN ln * 1))) h6 := fun K => calls_eq s11
    have d12 : ∀ (K : Value → H → Option (Value × H)), calls rn h6 23 [.int .i64 1, .int .i64 2, pt h1.nx 0] K = K (.bool (decide (sumN ln * 2 ≤ prodN ln * 1))) h6 := fun K => calls_eq s12
    have d56 : ∀ (K : Value → H → Option (Value × H)), calls rn h6 23 [.int .i64 5, .int .i64 6, pt h1.nx 0] K = K (.bool (decide (sumN ln * 6 ≤ prodN ln * 5))) h6 := fun K => calls_eq s56
    have n0 : ∀ {T : Type} (K : Int → Option T), len v0 K = K (ln.length : Int) := fun K => by rw [hl.len]; simp
    have t1 : ¬ (D : Int) < 1 := by omega
    have t2 : ¬ (N : Int) < 1 := by omega
    have t3 : ¬ (1048576 : Int) < (D : Int) := by omega
    have t4 : ¬ (1048576 : Int) < (N : Int) := by omega
    refine ⟨h6, ?_⟩
    rcases hR with ⟨h0, rfl, rfl⟩ | ⟨hneg, rfl, r, hsr, hkr, hrl⟩
    · have no : ∀ r, ¬ KeepsR ln r := fun r hk => by have := keeps_life hok1 hk; omega
      have u12 : ¬ sumN ln * 2 ≤ prodN ln * 1 := fun hc => by
        obtain ⟨r, hr⟩ := dense_half hne hok hl5 (by omega)
        exact no r hr
      have hlen1 : ln.length ≠ 1 := fun e => by
        obtain ⟨a, rfl⟩ := List.length_eq_one_iff.1 e
        obtain ⟨r, hr⟩ := dense_one (hok1 a (by simp))
        exact no r hr
      have u11 : ln.length = 2 → ¬ sumN ln * 1 ≤ prodN ln * 1 := fun e hc => by
        obtain ⟨a, b, rfl⟩ := len_two e
        obtain ⟨r, hr⟩ := dense_two (hok1 a (by simp)) (hok1 b (by simp)) (by omega)
        exact no r hr
      have u56 : ln.length ≤ 3 → ¬ sumN ln * 6 ≤ prodN ln * 5 := fun e hc => by
        by_cases h2 : ln.length = 2
        · exact u11 h2 (by omega)
        · have h3 : ln.length = 3 := by omega
          obtain ⟨a, b, c, rfl⟩ := len_three h3
          obtain ⟨r, hr⟩ := dense_three (hok a (by simp)) (hok b (by simp)) (hok c (by simp)) hc
          exact no r hr
      have l1 : ¬ ((ln.length : Int) = 1) := by omega
      simp only [decide_eq_false u12] at d12
      by_cases h3 : 3 < ln.length
      · have l3 : (3 : Int) < (ln.length : Int) := by omega
        have l2 : ¬ ((ln.length : Int) = 2) := by omega
        simp [c3, c4, r0, r1, t1, t2, t3, t4, d12, n0, l3, l2, l1, hlen1, h3, show ¬ ln.length = 2 by omega, k19]
      · have l3 : ¬ (3 : Int) < (ln.length : Int) := by omega
        simp only [decide_eq_false (u56 (by omega))] at d56
        by_cases h2 : ln.length = 2
        · simp only [decide_eq_false (u11 h2)] at d11
          simp [c3, c4, r0, r1, t1, t2, t3, t4, d12, n0, l3, h3, d56, h2, d11, k19]
        · have l2 : ¬ ((ln.length : Int) = 2) := by omega
          simp [c3, c4, r0, r1, t1, t2, t3, t4, d12, n0, l3, h3, d56, l2, l1, h2, hlen1, k19]
    · have hsp := keeps_dens hok1 hkr
      simp only [decide_eq_true (show sumN ln * 1 ≤ prodN ln * 1 by omega)] at d11
      simp [c3, c4, r0, r1, t1, t2, t3, t4, d11, k19]

end Go.AM
