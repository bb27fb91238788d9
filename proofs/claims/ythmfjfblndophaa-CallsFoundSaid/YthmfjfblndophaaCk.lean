/- Spread tells what the document tells. -/
import Derived.Test.YthmfjfblndophaaCj
namespace Go.AM
open Go.Proofs

/-- Numbers that are sets of people below a bound. -/
def NS (k : Nat) (L : List Int) (M : List Nat) : Prop := L = M.map (fun x : Nat => (x : Int)) ∧ ∀ x ∈ M, x < 2 ^ k

theorem NS.len {k : Nat} {L : List Int} {M : List Nat} (h : NS k L M) : L.length = M.length := by rw [h.1]; simp

theorem NS.get {k : Nat} {L : List Int} {M : List Nat} (h : NS k L M) {i : Nat} (hi : i < M.length) : L.getD i 0 = ((M.getD i 0 : Nat) : Int) ∧ M.getD i 0 < 2 ^ k := by
  rw [h.1]
  have h1 : M[i]? = some M[i] := List.getElem?_eq_getElem hi
  have h2 : M[i] ∈ M := List.getElem_mem hi
  simp only [List.getD_eq_getElem?_getD, List.getElem?_map, h1]
  exact ⟨rfl, h.2 _ h2⟩

theorem ownP_ns {n : Nat} (hn : n ≤ 7) : NS 7 (ownP n) ((List.range n).map fun p => 2 ^ p) := by
  refine ⟨?_, fun x hx => ?_⟩
  · unfold ownP
    rw [List.map_map]
    apply List.map_congr_left
    intro p hp
    have := List.mem_range.1 hp
    exact shl1_nat (by omega)
  · simp only [List.mem_map, List.mem_range] at hx
    obtain ⟨p, hp, rfl⟩ := hx
    exact Nat.pow_lt_pow_right (by omega) (by omega)

/-- A call is made, of sets. -/
def hearN (M : List Nat) (a b : Nat) : List Nat := (M.set a (M.getD a 0 ||| M.getD b 0)).set b (M.getD a 0 ||| M.getD b 0)

theorem hearP_ns {L : List Int} {M : List Nat} {c : Cl} (h : NS 7 L M) (ha : 0 ≤ c.a ∧ c.a < L.length) (hb : 0 ≤ c.b ∧ c.b < L.length) : NS 7 (hearP L c) (hearN M c.a.toNat c.b.toNat) := by
  have hl := h.len
  obtain ⟨a1, a2⟩ := h.get (i := c.a.toNat) (by omega)
  obtain ⟨b1, b2⟩ := h.get (i := c.b.toNat) (by omega)
  have e : AM.or .i64 (L.getD c.a.toNat 0) (L.getD c.b.toNat 0) = ((M.getD c.a.toNat 0 ||| M.getD c.b.toNat 0 : Nat) : Int) := by
    rw [a1, b1]
    exact or_nat (by omega) (by omega)
  have hlt := Nat.or_lt_two_pow a2 b2
  refine ⟨?_, fun x hx => ?_⟩
  · unfold hearP hearN
    simp only [e]
    rw [List.map_set, List.map_set, ← h.1]
  · unfold hearN at hx
    rcases List.mem_or_eq_of_mem_set hx with hx | rfl
    · rcases List.mem_or_eq_of_mem_set hx with hx | rfl
      · exact h.2 x hx
      · exact hlt
    · exact hlt

/-- Who has the news of a person, as a set. -/
def transN (s : Nat) : List Nat → Nat → Nat → Nat
  | [], _, a => a
  | x :: M, p, a => transN s M (p + 1) (a ||| (if x.testBit s then 2 ^ p else 0))

theorem transP_ns {s : Nat} (hs : s < 7) : ∀ (M : List Nat) (p a : Nat), (∀ x ∈ M, x < 2 ^ 7) → p + M.length ≤ 7 → a < 2 ^ 7 →
    foldI (transG s) (M.map fun x : Nat => (x : Int)) p (a : Int) = ((transN s M p a : Nat) : Int) ∧ transN s M p a < 2 ^ 7 ∧ ∀ q, (transN s M p a).testBit q = (a.testBit q || (decide (p ≤ q) && (M[q - p]?).any fun x => x.testBit s)) := by
  intro M
  induction M with
  | nil => intro p a _ _ ha; exact ⟨rfl, ha, fun q => by simp [transN]⟩
  | cons x M ih =>
    intro p a hM hp ha
    simp only [List.length_cons] at hp
    have hx : x < 2 ^ 7 := hM x (by simp)
    have e : transG s p (x : Int) (a : Int) = ((a ||| (if x.testBit s then 2 ^ p else 0) : Nat) : Int) := by
      unfold transG
      rw [bit_nat (by omega) (by omega)]
      cases x.testBit s with
      | true =>
        simp only [if_true]
        rw [shl1_nat (by omega)]
        exact or_nat (by omega) (Nat.pow_lt_pow_right (by omega) (by omega))
      | false =>
        simp only [Bool.false_eq_true, if_false]
        rw [show AM.shl .i64 0 (p : Int) = ((0 : Nat) : Int) by
          have := shl_nat (a := 0) (p := p) (by simp) (by omega)
          simpa using this]
        exact or_nat (by omega) (by decide)
    have hlt : (a ||| (if x.testBit s then 2 ^ p else 0)) < 2 ^ 7 := by
      refine Nat.or_lt_two_pow ha ?_
      split
      · exact Nat.pow_lt_pow_right (by omega) (by omega)
      · decide
    obtain ⟨h1, h2, h3⟩ := ih (p + 1) _ (fun y hy => hM y (List.mem_cons_of_mem _ hy)) (by omega) hlt
    refine ⟨?_, h2, fun q => ?_⟩
    · simp only [List.map_cons, foldI]
      rw [e]
      exact h1
    · simp only [transN]
      rw [h3 q, Nat.testBit_or]
      by_cases hq : p = q
      · subst hq
        have hn : ¬ p + 1 ≤ p := by omega
        cases hxs : x.testBit s <;> simp [hxs, hn, testBit_pow]
      · have hb : (if x.testBit s then 2 ^ p else 0).testBit q = false := by
          split
          · rw [testBit_pow]; exact decide_eq_false hq
          · simp
        rw [hb]
        by_cases hlt : p < q
        · have e1 : q - p = (q - (p + 1)) + 1 := by omega
          rw [e1]
          simp [show p + 1 ≤ q by omega, show p ≤ q by omega]
        · simp [show ¬ p + 1 ≤ q by omega, show ¬ p ≤ q by omega]

theorem transP_spec {s : Nat} (hs : s < 7) {L : List Int} {M : List Nat} (h : NS 7 L M) (hl : M.length ≤ 7) :
    ∃ t : Nat, transP s L = (t : Int) ∧ t < 2 ^ 7 ∧ ∀ q, t.testBit q = ((M[q]?).any fun x => x.testBit s) := by
  obtain ⟨h1, h2, h3⟩ := transP_ns hs M 0 0 h.2 (by omega) (by decide)
  refine ⟨_, ?_, h2, fun q => ?_⟩
  · unfold transP
    rw [h.1]
    exact h1
  · rw [h3 q]; simp

theorem hearN_get (M : List Nat) (a b : Nat) (ha : a < M.length) (hb : b < M.length) (s q : Nat) :
    ((hearN M a b)[q]?).any (fun x => x.testBit s) = if q = a ∨ q = b then ((M[a]?).any fun x => x.testBit s) || ((M[b]?).any fun x => x.testBit s) else (M[q]?).any fun x => x.testBit s := by
  unfold hearN
  rw [List.getElem?_set, List.getElem?_set]
  simp only [List.length_set, List.getD_eq_getElem?_getD, List.getElem?_eq_getElem ha, List.getElem?_eq_getElem hb, Option.getD_some]
  by_cases h1 : b = q
  · subst h1; simp [hb]
  · by_cases h2 : a = q
    · subst h2; simp [h1, ha]
    · simp [h1, h2, Ne.symm h1, Ne.symm h2]

/-- Who has heard after a call, and what all know then. -/
theorem now_hear {s : Nat} (hs : s < 7) {L : List Int} {M : List Nat} {c : Cl} (h : NS 7 L M) (hl : M.length ≤ 7) (ha : 0 ≤ c.a ∧ c.a < L.length) (hb : 0 ≤ c.b ∧ c.b < L.length) :
    nowP (transP s L) c = transP s (hearP L c) := by
  have hlen := h.len
  obtain ⟨t, e1, t1, t2⟩ := transP_spec hs h hl
  have hns := hearP_ns h ha hb
  obtain ⟨u, e2, u1, u2⟩ := transP_spec hs hns (by simp [hearN]; omega)
  rw [e1, e2]
  obtain ⟨a, hca⟩ := Int.eq_ofNat_of_zero_le ha.1
  obtain ⟨b, hcb⟩ := Int.eq_ofNat_of_zero_le hb.1
  rw [hca] at ha
  rw [hcb] at hb
  rw [hca, hcb] at u2
  simp only [Int.toNat_natCast] at u2
  have u3 : ∀ q, u.testBit q = if q = a ∨ q = b then t.testBit a || t.testBit b else t.testBit q := fun q => by
    rw [u2 q, hearN_get M a b (by omega) (by omega), t2 a, t2 b, t2 q]
  unfold nowP inP
  rw [hca, hcb]
  simp only [beq_iff_eq]
  simp only [bit_eq1 (a := t) (p := a) (by omega) (by omega), bit_eq1 (a := t) (p := b) (by omega) (by omega)]
  have pa : 2 ^ a < 2 ^ 7 := Nat.pow_lt_pow_right (by omega) (by omega)
  have pb : 2 ^ b < 2 ^ 7 := Nat.pow_lt_pow_right (by omega) (by omega)
  have pab := Nat.or_lt_two_pow pa pb
  rw [shl1_nat (by omega), shl1_nat (by omega), or_nat (by omega) (by omega), or_nat (by omega) (by omega)]
  split
  · rename_i hin
    congr 1
    apply Nat.eq_of_testBit_eq
    intro q
    rw [u3 q, Nat.testBit_or, Nat.testBit_or, testBit_pow, testBit_pow]
    by_cases h1 : q = a
    · subst h1; rcases hin with h2 | h2 <;> simp [h2]
    · by_cases h2 : q = b
      · subst h2; rcases hin with h3 | h3 <;> simp [h3]
      · simp [h1, h2, Ne.symm h1, Ne.symm h2]
  · rename_i hin
    congr 1
    apply Nat.eq_of_testBit_eq
    intro q
    rw [u3 q]
    simp only [not_or, Bool.not_eq_true] at hin
    by_cases h1 : q = a
    · subst h1; simp [hin.1, hin.2]
    · by_cases h2 : q = b
      · subst h2; simp [hin.1, hin.2]
      · simp [h1, h2]

theorem trans_own {n s : Nat} (hn : n ≤ 7) (hs : s < n) : transP s (ownP n) = shl .i64 1 s := by
  obtain ⟨t, e1, t1, t2⟩ := transP_spec (s := s) (by omega) (ownP_ns hn) (by simp; omega)
  rw [e1, shl1_nat (by omega)]
  congr 1
  apply Nat.eq_of_testBit_eq
  intro q
  rw [t2 q, testBit_pow]
  by_cases hq : q < n
  · simp [List.getElem?_map, hq, testBit_pow, eq_comm]
  · have : s ≠ q := by omega
    simp [List.getElem?_map, List.getElem?_range, hq, this]

theorem spread_eq {n : Nat} {l : List Cl} {s : Nat} (hv : validP n l = true) (hs : s < n) : spreadP l s = ((heardP n l).1 ++ [(heardP n l).2]).map (transP s) := by
  obtain ⟨hn1, hn7, hl24, hok⟩ := validP_ok hv
  unfold spreadP heardP
  have key : ∀ (l' : List Cl) (i : Nat) (st : Int × List Int) (hd : List (List Int) × List Int) (M : List Nat), l.drop i = l' → NS 7 hd.2 M → M.length = n → st.1 = transP s hd.2 →
      (if i = 0 ∨ (∃ c, l[i - 1]? = some c ∧ lastP l (i - 1) c = true) then st.2 = (hd.1 ++ [hd.2]).map (transP s) else st.2 = hd.1.map (transP s)) → (i = 0 ∨ i ≤ l.length) →
      (l' = [] → (i = 0 ∨ ∃ c, l[i - 1]? = some c ∧ lastP l (i - 1) c = true)) →
      (foldI (spreadG l) l' i st).2 = ((foldI (heardG l) l' i hd).1 ++ [(foldI (heardG l) l' i hd).2]).map (transP s) := by
    intro l'
    induction l' with
    | nil =>
      intro i st hd M _ _ _ _ hst _ hlast
      rw [if_pos (hlast rfl)] at hst
      exact hst
    | cons c l' ih =>
      intro i st hd M hdrop hns hM hnow hst hi _
      have hil : i < l.length := by
        rcases Nat.lt_or_ge i l.length with h | h
        · exact h
        · rw [List.drop_of_length_le h] at hdrop; cases hdrop
      have hc : l[i]? = some c := by
        have := List.getElem?_drop (xs := l) (i := i) (j := 0)
        rw [hdrop] at this
        simpa using this.symm
      have hdrop' : l.drop (i + 1) = l' := by
        have := List.drop_drop (i := 1) (j := i) (l := l)
        rw [hdrop] at this
        rw [← this]
        rfl
      obtain ⟨ha, hb⟩ := ok_range hv hc
      have hlen := hns.len
      have hns' := hearP_ns (c := c) hns (by omega) (by omega)
      have hnow' : nowP st.1 c = transP s (hearP hd.2 c) := by
        rw [hnow]
        exact now_hear (by omega) hns (by omega) (by omega) (by omega)
      -- a time ends where the next one begins
      have hfl : (i = 0 ∨ (∃ d, l[i - 1]? = some d ∧ lastP l (i - 1) d = true)) ↔ firstP l i c = true := by
        unfold firstP lastP
        by_cases h0 : i = 0
        · simp [h0]
        · have hd' : l[i - 1]? = some l[i - 1] := List.getElem?_eq_getElem (by omega)
          have e1 : i - 1 + 1 = i := by omega
          simp only [h0, false_or, hd', e1, hc, Option.any_some, decide_false, Bool.false_or, Option.some.injEq, exists_eq_left']
          have : ¬ i = l.length := by omega
          simp [this]
      have hst' : st.2 = (heardG l i c hd).1.map (transP s) := by
        simp only [heardG]
        by_cases hf : firstP l i c = true
        · rw [if_pos (hfl.2 hf)] at hst
          rw [if_pos hf]
          exact hst
        · rw [if_neg (fun h => hf (hfl.1 h))] at hst
          rw [if_neg hf]
          exact hst
      simp only [foldI]
      refine ih (i + 1) (spreadG l i c st) (heardG l i c hd) _ hdrop' (by simpa [heardG] using hns') (by simp [hearN]; exact hM) (by simpa [heardG, spreadG] using hnow') ?_ (by omega) ?_
      · simp only [Nat.add_sub_cancel, hc, Nat.succ_ne_zero, false_or, Option.some.injEq, exists_eq_left']
        by_cases hlp : lastP l i c = true
        · rw [if_pos hlp]
          simp only [spreadG, hlp, if_true]
          rw [hst', hnow']
          simp [heardG]
        · rw [if_neg hlp]
          simp only [spreadG, hlp]
          exact hst'
      · intro hnil
        subst hnil
        have : i + 1 = l.length := by
          have := congrArg List.length hdrop'
          simp at this
          omega
        right
        rw [Nat.add_sub_cancel]
        exact ⟨c, hc, by simp only [lastP, this, decide_true, Bool.true_or]⟩
  refine key l 0 _ _ _ (by simp) (ownP_ns (by omega)) (by simp) (trans_own (by omega) hs).symm ?_ (.inl rfl) (fun _ => .inl rfl)
  simp [trans_own (show n ≤ 7 by omega) hs]

end Go.AM
