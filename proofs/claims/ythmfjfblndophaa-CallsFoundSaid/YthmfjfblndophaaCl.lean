/- CallsNews, on the abstract machine. -/
import Derived.Test.YthmfjfblndophaaCk
namespace Go.AM
open Go.Proofs

variable {k : Nat} {R : Type}

attribute [local simp] nx_eq nx_new nx_set blk_new blk_set asI_int asK_int asB_bool asP_ptr al_eq bx_eq len_slice onE_exit onE_ret onR_ret Value.cells d3 d29 d31 d56 d24 d59 d22 d25 w3 cell_new cell_set rd_new rd_set off eq lt le ifB gv out eqF1 eqF2 eqF3 eqF4 eqF5 eqF6 eqF7 eqF8 ext20 ext21 k42

theorem s22 (h : H) : rn 22 #[] h = some (.bool true, h) := by
  have e : call Try.prog E0 60 22 #[] h = some (.bool true, h) := by kernel_rfl
  exact run_iso rfl e

theorem k22 (h : H) (K : Value → H → Option R) : calls rn h 22 [] K = K (.bool true) h := calls_eq (s22 h)

theorem k35 {n : Int} {sl : Value} {l : List Cl} {h : H} (hs : SlR h 59 3 sl (l.map Cl.cells)) (K : Value → H → Option R) : calls rn h 35 [.agg #[iv n, sl]] K = K (.bool (validP n l)) h := calls_eq (s35 hs)

theorem k26 {v0 v1 : Value} {a b : List Int} {h : H} (ha : SlR h 3 1 v0 (cellsI a)) (hb : SlR h 3 1 v1 (cellsI b)) (K : Value → H → Option R) : calls rn h 26 [v0, v1] K = K (.bool (decide (a = b))) h := calls_eq (s26 ha hb)

theorem s6 {n s : Int} {sl : Value} {l : List Cl} {h : H} (hs : SlR h 59 3 sl (l.map Cl.cells)) : ∃ h', rn 6 #[.agg #[iv n, sl], iv s] h = some (.bool true, h') := by
  have x1 : Ext h (h.new (.row [iv n, sl] 24 true)) := .new _ _
  have b1 : (h.new (.row [iv n, sl] 24 true)).blk h.nx = some (.row [iv n, sl] 24 true) := blk_new_self _ _
  have n1 : h.nx < (h.new (.row [iv n, sl] 24 true)).nx := Nat.lt_succ_self _
  have start : ∃ h1, Ext h h1 ∧ f6 rn 0 (.agg #[iv n, sl]) s h = some (.bool true, h1) := by
    unfold f6
    rw [bx_eq, nx_eq, show (Value.agg #[iv n, sl]).cells.toList = [iv n, sl] from rfl]
    generalize h.new (.row [iv n, sl] 24 true) = h1 at *
    have ld1 : ∀ (g : H), Ext h1 g → ∀ (K : Value → Option (Value × H)), ld Try.prog g 24 h.nx 0 K = K (.agg #[iv n, sl]) := fun g x K => by
      rw [d24, rd_all (n := 2) ((x.blk _ n1).trans b1) rfl]; rfl
    obtain ⟨la, h2, e2, x2, s2⟩ := s18 (n := n) (hs.ext x1)
    rw [ld1 _ (.refl _), calls_eq (xs := [_]) e2]
    by_cases hv : validP n l = true
    · have hv' : validP n (l.take 26) = true := by rw [validP_take]; exact hv
      have hl : l.take 26 = l := List.take_of_length_le (by have := (validP_ok hv).2.2.1; omega)
      rw [hl] at s2
      obtain ⟨va, h3, e3, x3, sa⟩ := s37 s2 hv
      rw [calls_eq (xs := [_]) e3, ext20, ext21, asI_int]
      have x13 := x2.trans x3
      rw [ld1 _ x13]
      obtain ⟨lb, h4, e4, x4, s4⟩ := s18 (n := n) (hs.ext (x1.trans x13))
      rw [calls_eq (xs := [_]) e4]
      rw [hl] at s4
      have x14 := x13.trans x4
      obtain ⟨b5, h5, n5, e5, x5, s5⟩ : ∃ v h5 e, rn 38 #[.agg #[iv n, lb], iv s] h4 = some (.tuple #[v, iv e], h5) ∧ Ext h4 h5 ∧ (if 0 ≤ s ∧ s < n then e = 0 ∧ SlR h5 3 1 v (cellsI (spreadP l s)) else e = 2 ∧ v = .slice none 0 0) := by
        by_cases hp : 0 ≤ s ∧ s < n
        · obtain ⟨v, h5, q1, q2, q3⟩ := s38 s4 hv hp
          exact ⟨v, h5, 0, q1, q2, by rw [if_pos hp]; exact ⟨rfl, q3⟩⟩
        · obtain ⟨h5, q1, q2⟩ := s38_bad (n := n) (s := s) s4 (by simp [hp])
          exact ⟨_, h5, 2, q1, q2, by rw [if_neg hp]; exact ⟨rfl, rfl⟩⟩
      rw [calls_eq (xs := [_, _]) e5, ext20, ext21, asI_int]
      have x15 := x14.trans x5
      rw [ld1 _ x15]
      obtain ⟨lc, h6, e6, x6, s6⟩ := s18 (n := n) (hs.ext (x1.trans x15))
      rw [calls_eq (xs := [_]) e6]
      rw [hl] at s6
      have x16 := x15.trans x6
      obtain ⟨vc, h7, e7, x7, sc⟩ := s39 s6 hv
      rw [calls_eq (xs := [_]) e7, ext20, ext21, asI_int]
      have x17 := x16.trans x7
      rw [ld1 _ x17, k35 (hs.ext (x1.trans x17)), asB_bool, hv]
      simp only [Bool.not_true, ifB, Bool.false_eq_true, if_false]
      rw [ld1 _ x17]
      obtain ⟨v8, h8, e8, x8, s8⟩ := s40 (hs.ext (x1.trans x17)) hv
      have x18 := x17.trans x8
      rw [calls_eq (xs := [_]) e8, k26 (sa.ext (x4.trans (x5.trans (x6.trans (x7.trans x8))))) s8, asB_bool, ld1 _ x18]
      obtain ⟨v9, h9, e9, x9, s9⟩ := s41 (hs.ext (x1.trans x18)) hv
      have x19 := x18.trans x9
      rw [calls_eq (xs := [_]) e9, k26 (sc.ext (x8.trans x9)) s9, asB_bool, k22, asB_bool, ld1 _ x19]
      simp only [decide_true, Bool.not_true, eq, beq_self_eq_true, Bool.false_eq_true, if_false]
      rw [k42, asB_bool]
      by_cases hp : 0 ≤ s ∧ s < n
      · rw [if_pos hp] at s5
        obtain ⟨rfl, s5⟩ := s5
        rw [decide_eq_true hp, ld1 _ x19]
        obtain ⟨vd, h10, e10, x10, s10⟩ := s43 (s := s) (hs.ext (x1.trans x19)) hv hp.1
        obtain ⟨m, rfl⟩ := Int.eq_ofNat_of_zero_le (show 0 ≤ n by have := (validP_ok hv).1; omega)
        obtain ⟨t, rfl⟩ := Int.eq_ofNat_of_zero_le hp.1
        rw [Int.toNat_natCast, ← spread_eq hv (by omega)] at s10
        rw [calls_eq (xs := [_, _]) e10, k26 (s5.ext (x6.trans (x7.trans (x8.trans (x9.trans x10))))) s10, asB_bool]
        exact ⟨h10, x1.trans (x19.trans x10), by simp⟩
      · rw [if_neg hp] at s5
        obtain ⟨rfl, rfl⟩ := s5
        rw [decide_eq_false hp]
        exact ⟨h9, x1.trans x19, by simp⟩
    · have hv0 : validP n l = false := by simpa using hv
      have hv' : validP n (l.take 26) = false := by rw [validP_take]; exact hv0
      obtain ⟨h3, e3, x3⟩ := s37_bad s2 hv'
      rw [calls_eq (xs := [_]) e3, ext20, ext21, asI_int]
      have x13 := x2.trans x3
      rw [ld1 _ x13]
      obtain ⟨lb, h4, e4, x4, s4⟩ := s18 (n := n) (hs.ext (x1.trans x13))
      rw [calls_eq (xs := [_]) e4]
      have x14 := x13.trans x4
      obtain ⟨h5, e5, x5⟩ := s38_bad (n := n) (s := s) s4 (by simp [hv'])
      rw [calls_eq (xs := [_, _]) e5, ext20, ext21, asI_int]
      have x15 := x14.trans x5
      rw [ld1 _ x15]
      obtain ⟨lc, h6, e6, x6, s6⟩ := s18 (n := n) (hs.ext (x1.trans x15))
      rw [calls_eq (xs := [_]) e6]
      have x16 := x15.trans x6
      obtain ⟨h7, e7, x7⟩ := s39_bad s6 hv'
      rw [calls_eq (xs := [_]) e7, ext20, ext21, asI_int]
      have x17 := x16.trans x7
      rw [ld1 _ x17, k35 (hs.ext (x1.trans x17)), asB_bool, hv0]
      refine ⟨h7, x1.trans x17, ?_⟩
      have h00 : add .i64 (add .i64 0 0) 0 = 0 := by decide
      simp [k22, h00]
  obtain ⟨h1, _, e⟩ := start
  exact ⟨_, t6 e⟩

end Go.AM
