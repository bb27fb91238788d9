/- Lives: the statement. -/
import Derived.Test.YtnhmgokjijlhbaaRt
namespace Go.AM
open Go.Proofs Go.Lives

variable {R : Type}

attribute [local simp] nx_eq nx_new nx_set blk_new blk_set asI_int asK_int asB_bool asP_ptr al_eq bx_eq len_slice onE_exit onE_ret onR_ret Value.cells d3 d22 d31 d60 w60 w3 w22 cell_new cell_set rd_new rd_set off eq lt le ifB gv out eqF1 eqF2 eqF3 eqF4 eqF5 eqF6 eqF7 eqF8 ext20 ext21

theorem tasks_ln {l : List Int} (h : tasksP l = true) : ∃ ln, l = nI ln ∧ l.take 14 = l := by
  obtain ⟨ln, rfl, h5, _⟩ := tasks_nI h
  exact ⟨ln, rfl, List.take_of_length_le (by rw [List.length_map]; omega)⟩

theorem s9 {v0 v1 : Value} {l s : List Int} {task : Int} {h : H} (hl : SlR h 3 1 v0 (cellsI l)) (hs : SlR h 3 1 v1 (cellsI s)) : ∃ h', rn 9 #[v0, v1, iv task] h = some (.bool true, h') := by
  suffices hh : ∃ h', f9 rn 0 v0 v1 task h = some (.bool true, h') by
    obtain ⟨h', e⟩ := hh
    exact ⟨_, t9 e⟩
  obtain ⟨a1, h1, q1, x1, z1⟩ := s18 hl
  obtain ⟨a2, h2, q2, x2, z2⟩ := s18 (hs.ext x1)
  have x12 := x1.trans x2
  obtain ⟨a3, h4, q3, x3, z3⟩ := s18 (hl.ext x12)
  have x13 := x12.trans x3
  obtain ⟨a4, h5, q4, x4, z4⟩ := s18 (hs.ext x13)
  have x14 := x13.trans x4
  have c1 := fun (K : Value → H → Option (Value × H)) => calls_eq (K := K) (xs := [_]) q1
  have c2 := fun (K : Value → H → Option (Value × H)) => calls_eq (K := K) (xs := [_]) q2
  have c3 := fun (K : Value → H → Option (Value × H)) => calls_eq (K := K) (xs := [_]) q3
  have c4 := fun (K : Value → H → Option (Value × H)) => calls_eq (K := K) (xs := [_]) q4
  have n0 : ∀ {T : Type} (K : Int → Option T), len v0 K = K (l.length : Int) := fun K => by rw [hl.len]; simp
  cases ht : tasksP l with
  | false =>
    have b1 : (tasksP (l.take 14) && stOk (l.take 14) (s.take 14)) = false := by rw [tasks_take, ht]; rfl
    have b2 : (tasksP (l.take 14) && stOk (l.take 14) (s.take 14) && decide (0 ≤ task ∧ task < (l.take 14).length)) = false := by rw [b1]; rfl
    have c5 := fun (K : Value → H → Option (Value × H)) => calls_eq (K := K) (xs := [_, _]) (s27_bad (z1.ext x2) z2 b1)
    have c6 := fun (K : Value → H → Option (Value × H)) => calls_eq (K := K) (xs := [_, _, _]) (s28_bad (task := task) (z3.ext x4) z4 b2)
    have c7 := fun (K : Value → H → Option (Value × H)) => calls_eq (K := K) (xs := [_]) (s21 (hl.ext x14))
    exact ⟨h5, by simp [f9, c1, c2, c3, c4, c5, c6, c7, ht, k19]⟩
  | true =>
    have htI := tasks_I ht
    have hl5 := htI.len.2
    obtain ⟨ln, rfl, htk⟩ := tasks_ln ht
    rw [htk] at z1 z3
    cases hst : stOk (nI ln) s with
    | false =>
      have b1 : (tasksP (nI ln) && stOk (nI ln) (s.take 14)) = false := by rw [st_take _ _ hl5, hst, Bool.and_false]
      have b2 : (tasksP (nI ln) && stOk (nI ln) (s.take 14) && decide (0 ≤ task ∧ task < (nI ln).length)) = false := by rw [b1]; rfl
      have c5 := fun (K : Value → H → Option (Value × H)) => calls_eq (K := K) (xs := [_, _]) (s27_bad (z1.ext x2) z2 b1)
      have c6 := fun (K : Value → H → Option (Value × H)) => calls_eq (K := K) (xs := [_, _, _]) (s28_bad (task := task) (z3.ext x4) z4 b2)
      have c7 := fun (K : Value → H → Option (Value × H)) => calls_eq (K := K) (xs := [_]) (s21 (hl.ext x14))
      have c8 := fun (K : Value → H → Option (Value × H)) => calls_eq (K := K) (xs := [_, _]) (s33 (hl.ext x14) (hs.ext x14))
      exact ⟨h5, by simp [f9, c1, c2, c3, c4, c5, c6, c7, c8, ht, hst, k19]⟩
    | true =>
      obtain ⟨c, hc, hcode, rfl⟩ := st_num hst
      have hsl : (nI (stateP ln c)).take 14 = nI (stateP ln c) := List.take_of_length_le (by have := (stOk_iff.1 hst).1; omega)
      rw [hsl] at z2 z4
      have c5 := fun (K : Value → H → Option (Value × H)) => calls_eq (K := K) (xs := [_, _]) (s27 (z1.ext x2) z2 ht hc)
      by_cases hr : 0 ≤ task ∧ task < (nI ln).length
      · obtain ⟨v10, h6, q6, x6, z6⟩ := s28 (task := task) (z3.ext x4) z4 ht hst hr.1 hr.2
        have x16 := x14.trans x6
        have c6 := fun (K : Value → H → Option (Value × H)) => calls_eq (K := K) (xs := [_, _, _]) q6
        have c7 := fun (K : Value → H → Option (Value × H)) => calls_eq (K := K) (xs := [_]) (s21 (hl.ext x16))
        have c8 := fun (K : Value → H → Option (Value × H)) => calls_eq (K := K) (xs := [_, _]) (s33 (hl.ext x16) (hs.ext x16))
        have c9 := fun (K : Value → H → Option (Value × H)) => calls_eq (K := K) (xs := [_, _]) (s34 (hl.ext x16) (hs.ext x16) htI hc)
        obtain ⟨v19, h13, q7, x7, z7⟩ := s35 (task := task) (hl.ext x16) (hs.ext x16) htI hst
        have c10 := fun (K : Value → H → Option (Value × H)) => calls_eq (K := K) (xs := [_, _, _]) q7
        have c11 := fun (K : Value → H → Option (Value × H)) => calls_eq (K := K) (xs := [_, _]) (s26 (z6.ext x7) z7)
        have hr0 : ¬ task < 0 := by omega
        have hr1 : ¬ ((nI ln).length : Int) ≤ task := by omega
        exact ⟨h13, by simp only [List.length_map] at hr1 n0; simp [f9, c1, c2, c3, c4, c5, c6, c7, c8, c9, c10, c11, ht, hst, k19, hr0, hr1, n0]⟩
      · have b2 : (tasksP (nI ln) && stOk (nI ln) (nI (stateP ln c)) && decide (0 ≤ task ∧ task < (nI ln).length)) = false := by rw [decide_eq_false hr, Bool.and_false]
        have c6 := fun (K : Value → H → Option (Value × H)) => calls_eq (K := K) (xs := [_, _, _]) (s28_bad (task := task) (z3.ext x4) z4 b2)
        have c7 := fun (K : Value → H → Option (Value × H)) => calls_eq (K := K) (xs := [_]) (s21 (hl.ext x14))
        have c8 := fun (K : Value → H → Option (Value × H)) => calls_eq (K := K) (xs := [_, _]) (s33 (hl.ext x14) (hs.ext x14))
        have c9 := fun (K : Value → H → Option (Value × H)) => calls_eq (K := K) (xs := [_, _]) (s34 (hl.ext x14) (hs.ext x14) htI hc)
        refine ⟨h5, ?_⟩
        simp only [List.length_map] at hr n0
        by_cases h0 : task < 0
        · simp [f9, c1, c2, c3, c4, c5, c6, c7, c8, c9, ht, hst, k19, h0]
        · have h1 : ((ln.length : Nat) : Int) ≤ task := by omega
          simp [f9, c1, c2, c3, c4, c5, c6, c7, c8, c9, ht, hst, k19, h0, h1, n0]

end Go.AM
