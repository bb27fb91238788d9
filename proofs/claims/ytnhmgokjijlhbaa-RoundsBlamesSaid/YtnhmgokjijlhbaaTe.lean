/- Whether a span is kept; the first timetable that keeps some spans. -/
import Derived.Test.YtnhmgokjijlhbaaTc
import Derived.Test.YtnhmgokjijlhbaaF9
namespace Go.AM
open Go.Proofs

variable {k : Nat} {R : Type}

attribute [local simp] nx_eq nx_new nx_set blk_new blk_set asI_int asK_int asB_bool asP_ptr al_eq bx_eq len_slice onE_exit onE_ret onR_ret Value.cells d3 d4 d22 d27 d45 d47 d50 d52 d67 d88 d89 w22 w27 cell_new cell_set rd_new rd_set off eq lt le ifB gv out eqF1 eqF2 eqF3 eqF4 eqF5 eqF6 eqF7 eqF8 ext20 ext21

/-- Is a span kept by two times? -/
def keepP (p : Int) (c : Sp) (x y : Int) : Bool := decide (c.lo + (y - x - c.lo) % p ≤ c.hi)

theorem s82 {p e x y : Int} {sl : Value} {c : Sp} {h : H} (hp : 1 ≤ p ∧ p ≤ 12) (hc : 0 ≤ c.lo ∧ c.lo ≤ 22) (hx : 0 ≤ x ∧ x < p) (hy : 0 ≤ y ∧ y < p) :
    rn 82 #[.agg #[iv p, iv e, sl], c.val, iv x, iv y] h = some (.bool (keepP p c x y), h) := by
  refine p82 (k := 0) (h1 := (h.new (.row [iv p, iv e, sl] 52 true)).new (.row c.cells 67 true)) ?_ rfl ((Ext.new _ _).trans (Ext.new _ _))
  have h1 := Int.emod_nonneg (y - x - c.lo) (show p ≠ 0 by omega)
  have h2 := Int.emod_lt_of_pos (y - x - c.lo) (show 0 < p by omega)
  have h3 : ((y - x - c.lo).tmod p).natAbs < p.natAbs := by
    rw [Int.natAbs_tmod]; exact Nat.mod_lt _ (by omega)
  have e1 : sub .i64 (sub .i64 y x) c.lo = y - x - c.lo := by rw [sub64 (a := y) (by omega) (by omega), sub64 (by omega) (by omega)]
  have e2 : rem .i64 (add .i64 (rem .i64 (y - x - c.lo) p) p) p = (y - x - c.lo) % p := by
    show (add .i64 ((y - x - c.lo).tmod p) p).tmod p = _
    rw [add64 (by omega) (by omega), tmod_fix (by omega)]
  have e3 : add .i64 c.lo ((y - x - c.lo) % p) = c.lo + (y - x - c.lo) % p := add64 (by omega) (by omega)
  simp [f82, Sp.cells, nz_ne (show p ≠ 0 by omega), e1, e2, e3, keepP]

theorem keep_ex {p D : Int} (hp : 1 ≤ p) {n : Nat} : (∃ i : Nat, i < n ∧ (D - i).tmod p = 0) ↔ D % p < n := by
  have h1 := Int.emod_nonneg D (show p ≠ 0 by omega)
  constructor
  · rintro ⟨i, hi, hd⟩
    have hdv := Int.dvd_of_tmod_eq_zero hd
    have h4 : D % p = (i : Int) % p := Int.emod_eq_emod_iff_emod_sub_eq_zero.2 (Int.emod_eq_zero_of_dvd hdv)
    have h5 := Int.mul_ediv_add_emod (i : Int) p
    have h6 := Int.mul_nonneg (show 0 ≤ p by omega) (Int.ediv_nonneg (show 0 ≤ (i : Int) by omega) (show 0 ≤ p by omega))
    omega
  · intro hlt
    refine ⟨(D % p).toNat, by omega, ?_⟩
    have : ((D % p).toNat : Int) = D % p := by omega
    rw [this]
    exact Int.tmod_eq_zero_of_dvd (Int.dvd_self_sub_emod)

theorem s84 {p e x y : Int} {sl : Value} {c : Sp} {h : H} (hp : 1 ≤ p ∧ p ≤ 12) (hc : 0 ≤ c.lo ∧ c.lo ≤ c.hi ∧ c.hi ≤ 22) (hx : 0 ≤ x ∧ x < p) (hy : 0 ≤ y ∧ y < p) :
    rn 84 #[.agg #[iv p, iv e, sl], c.val, iv x, iv y] h = some (.bool (keepP p c x y), h) := by
  have x2 : Ext h ((h.new (.row [iv p, iv e, sl] 47 true)).new (.row c.cells 89 true)) := (Ext.new _ _).trans (Ext.new _ _)
  have hb1 : ((h.new (.row [iv p, iv e, sl] 47 true)).new (.row c.cells 89 true)).blk h.nx = some (.row [iv p, iv e, sl] 47 true) := by simp
  have hb2 : ((h.new (.row [iv p, iv e, sl] 47 true)).new (.row c.cells 89 true)).blk (h.nx + 1) = some (.row c.cells 89 true) := by simp
  simp only [Sp.cells] at hb2
  have key : ∀ (g : H), g.blk h.nx = some (.row [iv p, iv e, sl] 47 true) → g.blk (h.nx + 1) = some (.row [iv c.a, iv c.b, iv c.lo, iv c.hi] 89 true) →
      ∃ ee ws', lpGo (f84_l1 rn 200010 x y h (h.new (.row [iv p, iv e, sl] 47 true))) 200010 [.bool false, iv c.lo] g = some (ee, ws', g) ∧
        (keepP p c x y = true ∧ ee = .ret ∧ (∃ a, ws' = [.bool true, a]) ∨ keepP p c x y = false ∧ ee = .exit 0) := by
    intro g g1 g2
    have hl := lp_same (σ := Unit) (ρ := Nat) (F := f84_l1 rn 200010 x y h (h.new (.row [iv p, iv e, sl] 47 true))) (k := 200010) (l := List.range (c.hi - c.lo + 1).toNat) (h := g) (fun i (_ : Unit) => [.bool false, iv (c.lo + i)])
      (fun i j s => if (!decide ((y - x - c.lo - j).tmod p = 0)) = true then .inl s else .inr i) (fun _ _ => True) (fun _ => .ret) (fun i => [.bool true, iv (c.lo + i)]) 0 (fun _ => [.bool false, iv (c.hi + 1)]) (ws := [.bool false, iv c.lo]) (s0 := ()) (by simp) trivial (by simp; omega) (by simp)
      (by
        intro _ _
        have : ¬ c.lo + ((c.hi - c.lo + 1).toNat : Int) ≤ c.hi := by omega
        have h2 : c.lo + ((c.hi - c.lo + 1).toNat : Int) = c.hi + 1 := by omega
        rw [List.length_range, h2]
        rw [h2] at this
        simp [f84_l1, cell_of g2]
        omega)
      (by
        intro i j _ hj _
        have hi := (List.getElem?_eq_some_iff.1 hj).1
        rw [List.length_range] at hi
        rw [List.getElem?_range hi] at hj
        cases hj
        refine ⟨fun _ _ => trivial, ?_⟩
        have hle : c.lo + (i : Int) ≤ c.hi := by omega
        have hadd : add .i64 (c.lo + (i : Int)) 1 = c.lo + ((i + 1 : Nat) : Int) := by rw [add64 (by omega) (by omega)]; omega
        have e1 : sub .i64 (sub .i64 y x) (c.lo + (i : Int)) = y - x - c.lo - i := by rw [sub64 (a := y) (by omega) (by omega), sub64 (by omega) (by omega)]; omega
        have e2 : rem .i64 (y - x - c.lo - i) p = (y - x - c.lo - i).tmod p := rfl
        have hnz : ∀ (z : Option (Ex × List Value × H)), nz p z = z := fun z => nz_ne (by omega) z
        by_cases hd : (y - x - c.lo - (i : Int)).tmod p = 0
        · simp [f84_l1, cell_of g1, cell_of g2, hle, hnz, e1, e2, hd, rnd]
        · simp [f84_l1, cell_of g1, cell_of g2, hle, hnz, e1, e2, hd, rnd, hadd])
    have hk : keepP p c x y = true ↔ ∃ i : Nat, i < (c.hi - c.lo + 1).toNat ∧ (y - x - c.lo - i).tmod p = 0 := by
      rw [keep_ex hp.1]
      unfold keepP
      rw [decide_eq_true_iff]
      omega
    rcases itL_all (ok := fun _ (j : Nat) => !decide ((y - x - c.lo - (j : Int)).tmod p = 0)) (g := fun i _ => i) (s0 := ()) (List.range (c.hi - c.lo + 1).toNat) 0 with ⟨⟨r, h1⟩, j, z, hz, h2⟩ | ⟨h1, h2⟩
    · rw [h1] at hl
      refine ⟨_, _, hl, .inl ⟨hk.2 ⟨z, List.mem_range.1 (List.mem_of_getElem? hz), by simpa using h2⟩, rfl, _, rfl⟩⟩
    · rw [h1] at hl
      refine ⟨_, _, hl.1, .inr ⟨?_, rfl⟩⟩
      rw [Bool.eq_false_iff]
      intro hc'
      obtain ⟨i, hi, hd⟩ := hk.1 hc'
      have := h2 i i (List.getElem?_range hi)
      simp [hd] at this
  obtain ⟨ee, ws', hlp, hres⟩ := key _ hb1 hb2
  refine p84 (k := 200010) (h1 := (h.new (.row [iv p, iv e, sl] 47 true)).new (.row c.cells 89 true)) ?_ rfl x2
  have hst : f84 rn 200010 (.agg #[iv p, iv e, sl]) c.val x y h = onE ee 0 (some ((.bool false), (h.new (.row [iv p, iv e, sl] 47 true)).new (.row c.cells 89 true))) (onR ee (some (AM.gv ws' 0, (h.new (.row [iv p, iv e, sl] 47 true)).new (.row c.cells 89 true)))) := by
    rw [← lp_eq (K := fun ee ws' g => onE ee 0 (some ((.bool false), g)) (onR ee (some (AM.gv ws' 0, g)))) hlp]
    simp [f84, Sp.cells]
  rw [hst]
  rcases hres with ⟨hk, rfl, a, rfl⟩ | ⟨hk, rfl⟩ <;> simp [hk]

end Go.AM
