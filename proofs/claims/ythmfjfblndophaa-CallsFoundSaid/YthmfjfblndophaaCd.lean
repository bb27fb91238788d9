/- The valid logs: what is known of them. -/
import Derived.Test.YthmfjfblndophaaCc
namespace Go.AM
open Go.Proofs

variable {k : Nat} {R : Type}

attribute [local simp] nx_eq nx_new nx_set blk_new blk_set asI_int asK_int asB_bool asP_ptr al_eq bx_eq len_slice onE_exit onE_ret onR_ret Value.cells d3 d29 d31 d56 d24 d59 d22 cell_new cell_set rd_new rd_set off eq lt le ifB gv out eqF1 eqF2 eqF3 eqF4 eqF5 eqF6 eqF7 eqF8
attribute [local simp] k73 k74 k72 k42 lt_ne lt_ne1

theorem valid_eq (n : Int) (l : List Cl) : validR n l = validP n l := by
  have key : (List.range l.length).all (fun i => (l[i]?).all (rowR n l i)) = (List.range l.length).all (rowOk n l) := by
    rw [Bool.eq_iff_iff, List.all_eq_true, List.all_eq_true]
    constructor
    · intro h i hi
      have hi' := List.mem_range.1 hi
      have := h i hi
      have hli : l[i]? = some l[i] := List.getElem?_eq_getElem hi'
      simp only [hli, Option.all_some] at this
      unfold rowR at this
      unfold rowOk
      rw [hli]
      simp only [Bool.and_eq_true, Bool.not_eq_true', List.any_eq_false] at this ⊢
      refine ⟨⟨this.1, ?_⟩, fun x hx hc => this.2 x hx (by simp [against, hc])⟩
      by_cases h0 : 0 < i
      · have hl1 : l[i - 1]? = some (l[i - 1]'(by omega)) := List.getElem?_eq_getElem (by omega)
        rw [hl1]
        have hm : l[i - 1]'(by omega) ∈ l.take i := List.mem_take_iff_getElem.2 ⟨i - 1, by omega, rfl⟩
        have h2 := this.2 _ hm
        simp only [against, Bool.or_eq_true, not_or, decide_eq_true_eq] at h2
        simp [h2.1]
      · simp [h0]
    · intro h i hi
      have hi' := List.mem_range.1 hi
      have hsort : ∀ j, j < l.length → ∀ i', i' < j → (l.getD i' ⟨0, 0, 0⟩).t ≤ (l.getD j ⟨0, 0, 0⟩).t := by
        intro j
        induction j with
        | zero => intro _ i' hi'; omega
        | succ j ih =>
          intro hj i' hi'
          have h1 := h (j + 1) (List.mem_range.2 hj)
          unfold rowOk at h1
          rw [List.getElem?_eq_getElem hj] at h1
          simp only [Bool.and_eq_true, Bool.not_eq_true'] at h1
          have h2 := h1.1.2
          rw [show j + 1 - 1 = j from rfl, List.getElem?_eq_getElem (show j < l.length by omega)] at h2
          simp only [Option.any_some, Nat.zero_lt_succ, decide_true, Bool.true_and, decide_eq_false_iff_not, Int.not_lt] at h2
          have e1 : l.getD j ⟨0, 0, 0⟩ = l[j] := by rw [List.getD_eq_getElem?_getD, List.getElem?_eq_getElem (show j < l.length by omega)]; rfl
          have e2 : l.getD (j + 1) ⟨0, 0, 0⟩ = l[j + 1] := by rw [List.getD_eq_getElem?_getD, List.getElem?_eq_getElem hj]; rfl
          rcases Nat.lt_or_ge i' j with h3 | h3
          · have := ih (by omega) i' h3
            rw [e1] at this
            rw [e2]
            omega
          · obtain rfl : i' = j := by omega
            rw [e1, e2]
            exact h2
      have := h i hi
      have hli : l[i]? = some l[i] := List.getElem?_eq_getElem hi'
      unfold rowOk at this
      simp only [hli, Option.all_some]
      unfold rowR
      rw [hli] at this
      simp only [Bool.and_eq_true, Bool.not_eq_true', List.any_eq_false] at this ⊢
      refine ⟨this.1.1, fun x hx hc => ?_⟩
      simp only [against, Bool.or_eq_true, decide_eq_true_eq] at hc
      rcases hc with hc | hc
      · obtain ⟨j, hj, rfl⟩ := List.mem_take_iff_getElem.1 hx
        have := hsort i hi' j (by omega)
        rw [List.getD_eq_getElem?_getD, List.getD_eq_getElem?_getD, hli, List.getElem?_eq_getElem (show j < l.length by omega)] at this
        simp only [Option.getD_some] at this
        omega
      · exact this.2 x hx hc
  unfold validR validP
  rw [key]

/-- The other person of a call. -/
def Cl.oth (c : Cl) (p : Int) : Int := c.a + c.b - p

theorem okC_iff {n : Int} {c : Cl} : okC n c = true ↔ (0 ≤ c.a ∧ c.a < n) ∧ (0 ≤ c.b ∧ c.b < n) ∧ c.a ≠ c.b ∧ 1 ≤ c.t ∧ c.t ≤ 30 := by
  simp only [okC, Bool.and_eq_true, decide_eq_true_eq, Bool.not_eq_true', beq_eq_false_iff_ne, decide_eq_false_iff_not, Int.not_lt, ne_eq]
  constructor
  · rintro ⟨⟨⟨⟨h1, h2⟩, h3⟩, h4⟩, h5⟩; exact ⟨h1, h2, h3, h4, h5⟩
  · rintro ⟨h1, h2, h3, h4, h5⟩; exact ⟨⟨⟨⟨h1, h2⟩, h3⟩, h4⟩, h5⟩

theorem validP_ok {n : Int} {l : List Cl} (h : validP n l = true) : 1 ≤ n ∧ n ≤ 7 ∧ l.length ≤ 24 ∧ ∀ (i : Nat) (c : Cl), l[i]? = some c → okC n c = true := by
  simp only [validP, Bool.and_eq_true, Bool.not_eq_true', decide_eq_false_iff_not, Int.not_lt, List.all_eq_true, List.mem_range] at h
  obtain ⟨⟨⟨h1, h2⟩, h3⟩, h4⟩ := h
  refine ⟨h1, h2, by omega, fun i c hc => ?_⟩
  have hi : i < l.length := (List.getElem?_eq_some_iff.1 hc).1
  have := h4 i hi
  unfold rowOk at this
  rw [hc] at this
  simp only [Bool.and_eq_true] at this
  exact this.1.1

theorem oth_ok {n : Int} {c : Cl} {p : Int} (h : okC n c = true) (hp : c.has p = true) : 0 ≤ c.oth p ∧ c.oth p < n ∧ c.oth p ≠ p := by
  obtain ⟨h1, h2, h3, _⟩ := okC_iff.1 h
  simp only [Cl.has, Bool.or_eq_true, beq_iff_eq] at hp
  unfold Cl.oth
  rcases hp with hp | hp <;> omega

theorem oth_calc {n : Int} {c : Cl} {p : Int} (hn : n ≤ 1000) (h : okC n c = true) (hp : c.has p = true) : sub .i64 (add .i64 c.a c.b) p = c.oth p := by
  obtain ⟨h1, h2, h3, _⟩ := okC_iff.1 h
  have := oth_ok h hp
  unfold Cl.oth at this ⊢
  rw [add64 (by omega) (by omega), sub64 (by omega) (by omega)]

theorem s35 {n : Int} {sl : Value} {l : List Cl} {h : H} (hs : SlR h 59 3 sl (l.map Cl.cells)) : rn 35 #[.agg #[iv n, sl]] h = some (.bool (validP n l), h) := by
  rw [s35' hs, valid_eq]


theorem validP_sorted {n : Int} {l : List Cl} (h : validP n l = true) {i j : Nat} {c d : Cl} (hij : i < j) (hd : l[i]? = some d) (hc : l[j]? = some c) : d.t ≤ c.t ∧ clash c d = false := by
  rw [← valid_eq] at h
  simp only [validR, Bool.and_eq_true, List.all_eq_true, List.mem_range] at h
  have hj : j < l.length := (List.getElem?_eq_some_iff.1 hc).1
  have := h.2 j hj
  simp only [hc, Option.all_some] at this
  unfold rowR at this
  simp only [Bool.and_eq_true, Bool.not_eq_true', List.any_eq_false] at this
  obtain ⟨hi, e⟩ := List.getElem?_eq_some_iff.1 hd
  have hm : d ∈ l.take j := List.mem_take_iff_getElem.2 ⟨i, by omega, e⟩
  have h2 := this.2 d hm
  simp only [against, Bool.or_eq_true, not_or, decide_eq_true_eq, Int.not_lt, Bool.not_eq_true] at h2
  exact h2

theorem validP_take {n : Int} {l : List Cl} : validP n (l.take 26) = validP n l := by
  by_cases hl : l.length ≤ 26
  · rw [List.take_of_length_le hl]
  · have h1 : validP n l = false := by simp [validP, show 24 < (l.length : Int) by omega]
    have h2 : validP n (l.take 26) = false := by
      simp [validP, List.length_take, show 24 < min 26 l.length by omega]
      intro _ _ h
      omega
    rw [h1, h2]

/-- Two different people of a valid log. -/
def pairP (n : Int) (l : List Cl) (s t : Int) : Bool := validP n l && decide (0 ≤ s ∧ s < n) && decide (0 ≤ t ∧ t < n) && !(s == t)

theorem pairP_take {n s t : Int} {l : List Cl} : pairP n (l.take 26) s t = pairP n l s t := by
  unfold pairP; rw [validP_take]

theorem s21 {n s t : Int} {sl : Value} {l : List Cl} {h : H} (hs : SlR h 59 3 sl (l.map Cl.cells)) : rn 21 #[.agg #[iv n, sl], iv s, iv t] h = some (.bool (pairP n l s t), h) := by
  have x1 : Ext h (h.new (.row [iv n, sl] 24 true)) := .new _ _
  have c1 := fun (K : Value → H → Option (Value × H)) => calls_eq (K := K) (xs := [_]) (s35 (n := n) (hs.ext x1))
  refine p21 (k := 0) (h1 := h.new (.row [iv n, sl] 24 true)) ?_ rfl x1
  simp [f21, c1, pairP]
  grind

end Go.AM
