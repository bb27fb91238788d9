/- Ways, arrivals and news: who can be reached, and when. -/
import Derived.Test.YthmfjfblndophaaCu
namespace Go.AM
open Go.Proofs

/-- A way on, call by call. -/
def runP (l : List Cl) : List Int → Int × Int × Int → Option (Int × Int × Int)
  | [], st => some st
  | i :: w, st => if 0 ≤ i ∧ i < l.length then
      match l[i.toNat]? with
      | none => none
      | some c => if goes c st.1 st.2.1 st.2.2 = true then runP l w (c.oth st.1, c.t, withP st.2.2 (c.oth st.1)) else none
    else none

theorem runP_append (l : List Cl) : ∀ (w u : List Int) (st : Int × Int × Int), runP l (w ++ u) st = (runP l w st).bind (runP l u) := by
  intro w
  induction w with
  | nil => intro u st; rfl
  | cons i w ih =>
    intro u st
    simp only [List.cons_append, runP]
    split
    · split
      · rfl
      · split
        · exact ih u _
        · rfl
    · rfl

/-- A state with a set of people below n. -/
def Wf (n : Int) (st : Int × Int × Int) : Prop := ∃ k : Nat, st.2.2 = (k : Int) ∧ k < 2 ^ 7 ∧ (0 ≤ st.1 ∧ st.1 < n) ∧ k.testBit st.1.toNat = true

theorem withP_nat {k : Nat} {p : Int} (hk : k < 2 ^ 7) (hp : 0 ≤ p ∧ p < 7) : withP (k : Int) p = ((k ||| 2 ^ p.toNat : Nat) : Int) ∧ k ||| 2 ^ p.toNat < 2 ^ 7 := by
  obtain ⟨m, rfl⟩ := Int.eq_ofNat_of_zero_le hp.1
  have hm : 2 ^ m < 2 ^ 7 := Nat.pow_lt_pow_right (by omega) (by omega)
  unfold withP
  rw [shl1_nat (by omega), or_nat (by omega) (by omega)]
  exact ⟨rfl, Nat.or_lt_two_pow hk hm⟩

theorem inP_nat {k : Nat} {p : Int} (hk : k < 2 ^ 7) (hp : 0 ≤ p ∧ p < 7) : inP (k : Int) p = k.testBit p.toNat := by
  obtain ⟨m, rfl⟩ := Int.eq_ofNat_of_zero_le hp.1
  unfold inP
  rw [bit_nat (by omega) (by omega)]
  simp only [Int.toNat_natCast]
  cases k.testBit m <;> rfl

theorem goes_spec {n : Int} {c : Cl} {st : Int × Int × Int} (hn : n ≤ 7) (hc : okC n c = true) (hg : goes c st.1 st.2.1 st.2.2 = true) : st.2.1 < c.t ∧ c.has st.1 = true ∧ inP st.2.2 (c.oth st.1) = false ∧ 0 ≤ c.oth st.1 ∧ c.oth st.1 < n := by
  simp only [goes, Bool.and_eq_true, Bool.not_eq_true', decide_eq_false_iff_not, Int.not_le] at hg
  have := oth_ok hc hg.1.2
  exact ⟨hg.1.1, hg.1.2, hg.2, this.1, this.2.1⟩

theorem run_keep {n : Int} {l : List Cl} (hv : validP n l = true) : ∀ (w : List Int) (st st' : Int × Int × Int), Wf n st → runP l w st = some st' → Wf n st' ∧ (∀ q : Nat, ∀ k k' : Nat, st.2.2 = (k : Int) → st'.2.2 = (k' : Int) → k.testBit q = true → k'.testBit q = true) ∧
    (w ≠ [] → ∀ k : Nat, st.2.2 = (k : Int) → k.testBit st'.1.toNat = false) ∧ st.2.1 ≤ st'.2.1 ∧ (∀ i ∈ w, 0 ≤ i ∧ ∃ c, l[i.toNat]? = some c ∧ c.t ≤ st'.2.1 ∧ st.2.1 < c.t) := by
  obtain ⟨hn1, hn7, hl24, hok⟩ := validP_ok hv
  intro w
  induction w with
  | nil =>
    intro st st' hw h
    cases h
    exact ⟨hw, fun q k k' h1 h2 h3 => by rw [h1] at h2; have : k = k' := by omega
                                         subst this; exact h3, fun h => absurd rfl h, Int.le_refl _, by simp⟩
  | cons i w ih =>
    intro st st' hw h
    simp only [runP] at h
    split at h
    · rename_i hi
      split at h
      · cases h
      · rename_i c hc
        split at h
        · rename_i hg
          obtain ⟨g1, g2, g3, g4, g5⟩ := goes_spec hn7 (hok _ _ hc) hg
          obtain ⟨k, hk, hk7, hp, hkp⟩ := hw
          obtain ⟨e1, e2⟩ := withP_nat (p := c.oth st.1) hk7 ⟨g4, by omega⟩
          have hw1 : Wf n (c.oth st.1, c.t, withP st.2.2 (c.oth st.1)) := ⟨_, by rw [hk]; exact e1, e2, ⟨g4, g5⟩, by simp [Nat.testBit_or, testBit_pow]⟩
          obtain ⟨q1, q2, q3, q4, q5⟩ := ih _ _ hw1 h
          refine ⟨q1, fun q k0 k' h1 h2 h3 => ?_, fun _ k0 h1 => ?_, by simp only at q4; omega, fun j hj => ?_⟩
          · have : k0 = k := by rw [hk] at h1; omega
            subst this
            exact q2 q _ k' (by simp only; rw [hk]; exact e1) h2 (by rw [Nat.testBit_or, h3]; rfl)
          · have : k0 = k := by rw [hk] at h1; omega
            subst this
            cases w with
            | nil =>
              cases h
              rw [hk, inP_nat hk7 ⟨g4, by omega⟩] at g3
              exact g3
            | cons j w =>
              have := q3 (by simp) _ (by simp only; rw [hk]; exact e1)
              rw [Nat.testBit_or] at this
              simp only [Bool.or_eq_false_iff] at this
              exact this.1
          · simp only [List.mem_cons] at hj
            rcases hj with rfl | hj
            · exact ⟨hi.1, c, hc, by simpa using q4, g1⟩
            · obtain ⟨a1, d, a2, a3, a4⟩ := q5 j hj
              exact ⟨a1, d, a2, a3, by simp only at a4; omega⟩
        · cases h
    · cases h

theorem goW_iff {n t : Int} {l : List Cl} (hv : validP n l = true) : ∀ (w : List Int) (st : Int × Int × Int), Wf n st → (goW l t w st = true ↔ ∃ st', runP l w st = some st' ∧ st'.1 = t) := by
  obtain ⟨hn1, hn7, hl24, hok⟩ := validP_ok hv
  intro w
  induction w with
  | nil => intro st _; simp [goW, runP]
  | cons i w ih =>
    intro st hw
    constructor
    · intro h
      simp only [goW] at h
      cases hs : stepP l t st i with
      | none => rw [hs] at h; cases h
      | some s' =>
        rw [hs] at h
        simp only at h
        unfold stepP at hs
        split at hs
        · cases hs
        · rename_i hb
          simp only [not_or, Int.not_lt, Int.not_le] at hb
          split at hs
          · cases hs
          · rename_i c hc
            split at hs
            · rename_i hg
              cases hs
              obtain ⟨g1, g2, g3, g4, g5⟩ := goes_spec hn7 (hok _ _ hc) hg
              obtain ⟨k, hk, hk7, hp, hkp⟩ := hw
              obtain ⟨e1, e2⟩ := withP_nat (p := c.oth st.1) hk7 ⟨g4, by omega⟩
              have hw1 : Wf n (c.oth st.1, c.t, withP st.2.2 (c.oth st.1)) := ⟨_, by rw [hk]; exact e1, e2, ⟨g4, g5⟩, by simp [Nat.testBit_or, testBit_pow]⟩
              obtain ⟨st', h1, h2⟩ := (ih _ hw1).1 h
              refine ⟨st', ?_, h2⟩
              simp only [runP]
              rw [if_pos ⟨hb.1, hb.2.1⟩, hc]
              simp only
              rw [if_pos hg]
              exact h1
            · cases hs
    · rintro ⟨st', h, h2⟩
      obtain ⟨_, _, q3, _, _⟩ := run_keep hv (i :: w) st st' hw h
      simp only [runP] at h
      split at h
      · rename_i hi
        split at h
        · cases h
        · rename_i c hc
          split at h
          · rename_i hg
            obtain ⟨g1, g2, g3, g4, g5⟩ := goes_spec hn7 (hok _ _ hc) hg
            obtain ⟨k, hk, hk7, hp, hkp⟩ := hw
            obtain ⟨e1, e2⟩ := withP_nat (p := c.oth st.1) hk7 ⟨g4, by omega⟩
            have hw1 : Wf n (c.oth st.1, c.t, withP st.2.2 (c.oth st.1)) := ⟨_, by rw [hk]; exact e1, e2, ⟨g4, g5⟩, by simp [Nat.testBit_or, testBit_pow]⟩
            have hne : st.1 ≠ t := by
              intro e
              have := q3 (by simp) k hk
              rw [h2, ← e, hkp] at this
              cases this
            have hst : stepP l t st i = some (c.oth st.1, c.t, withP st.2.2 (c.oth st.1)) := by
              unfold stepP
              rw [if_neg (by simp only [not_or, Int.not_lt, Int.not_le]; exact ⟨hi.1, hi.2, hne⟩), hc]
              simp only
              rw [if_pos hg]
            simp only [goW]
            rw [hst]
            exact (ih _ hw1).2 ⟨st', h, h2⟩
          · cases h
      · cases h

theorem mem_ways {n t : Int} {l : List Cl} (hv : validP n l = true) : ∀ (F : Nat) (p tm seen : Int) (w : List Int), 31 - tm ≤ F → p ≠ t → (w ∈ waysF l t (F + 1) p tm seen ↔ goW l t w (p, tm, seen) = true) := by
  obtain ⟨hn1, hn7, hl24, hok⟩ := validP_ok hv
  intro F
  induction F with
  | zero =>
    intro p tm seen w hF hp
    simp only [waysF]
    rw [mem_app]
    constructor
    · rintro (h | ⟨j, c, hc, h⟩)
      · simp at h
      · unfold wayStep at h
        split at h
        · rename_i hg
          have h1 : tm < c.t := by simp only [goes, Bool.and_eq_true, Bool.not_eq_true', decide_eq_false_iff_not, Int.not_le] at hg; exact hg.1.1
          have := (time_ok hv hc).2
          omega
        · simp at h
    · intro h
      cases w with
      | nil => simp [goW, hp] at h
      | cons i w =>
        simp only [goW] at h
        cases hs : stepP l t (p, tm, seen) i with
        | none => rw [hs] at h; cases h
        | some s' =>
          unfold stepP at hs
          split at hs
          · cases hs
          · split at hs
            · cases hs
            · rename_i c hc
              split at hs
              · rename_i hg
                have h1 : tm < c.t := by simp only [goes, Bool.and_eq_true, Bool.not_eq_true', decide_eq_false_iff_not, Int.not_le] at hg; exact hg.1.1
                have := (time_ok hv hc).2
                omega
              · cases hs
  | succ F ih =>
    intro p tm seen w hF hp
    rw [waysF, mem_app]
    constructor
    · rintro (h | ⟨j, c, hc, h⟩)
      · simp at h
      · have hj := (List.getElem?_eq_some_iff.1 hc).1
        rw [Nat.zero_add] at h
        unfold wayStep at h
        split at h
        · rename_i hg
          have h1 : tm < c.t := by simp only [goes, Bool.and_eq_true, Bool.not_eq_true', decide_eq_false_iff_not, Int.not_le] at hg; exact hg.1.1
          have hst : stepP l t (p, tm, seen) (j : Int) = some (c.oth p, c.t, withP seen (c.oth p)) := by
            unfold stepP
            rw [if_neg (by simp only [not_or, Int.not_lt, Int.not_le]; exact ⟨by omega, by omega, hp⟩), Int.toNat_natCast, hc]
            simp only
            rw [if_pos hg]
          split at h
          · rename_i hto
            simp at h
            subst h
            simp [goW, hst, hto]
          · rename_i hto
            simp only [List.mem_map] at h
            obtain ⟨w', hw', rfl⟩ := h
            simp only [goW, hst]
            exact (ih _ _ _ w' (by omega) hto).1 hw'
        · simp at h
    · intro h
      right
      cases w with
      | nil => simp [goW, hp] at h
      | cons i w =>
        simp only [goW] at h
        cases hs : stepP l t (p, tm, seen) i with
        | none => rw [hs] at h; cases h
        | some s' =>
          rw [hs] at h
          simp only at h
          unfold stepP at hs
          split at hs
          · cases hs
          · rename_i hb
            simp only [not_or, Int.not_lt, Int.not_le] at hb
            split at hs
            · cases hs
            · rename_i c hc
              split at hs
              · rename_i hg
                cases hs
                simp only at hg h
                have h1 : tm < c.t := by simp only [goes, Bool.and_eq_true, Bool.not_eq_true', decide_eq_false_iff_not, Int.not_le] at hg; exact hg.1.1
                refine ⟨i.toNat, c, hc, ?_⟩
                rw [Nat.zero_add]
                have hii : ((i.toNat : Nat) : Int) = i := by omega
                unfold wayStep
                rw [if_pos hg, hii]
                by_cases hto : c.oth p = t
                · rw [if_pos hto]
                  cases w with
                  | nil => simp
                  | cons j w =>
                    simp only [goW] at h
                    have : stepP l t (c.oth p, c.t, withP seen (c.oth p)) j = none := by
                      unfold stepP
                      rw [if_pos (.inr (.inr hto))]
                    rw [this] at h
                    cases h
                · rw [if_neg hto, List.mem_map]
                  exact ⟨w, (ih _ _ _ w (by omega) hto).2 h, rfl⟩
              · cases hs

/-- The first state. -/
def st0 (s : Int) : Int × Int × Int := (s, 0, shl .i64 1 s)

theorem wf0 {n s : Int} (hn : n ≤ 7) (hs : 0 ≤ s ∧ s < n) : Wf n (st0 s) := by
  obtain ⟨m, rfl⟩ := Int.eq_ofNat_of_zero_le hs.1
  exact ⟨2 ^ m, shl1_nat (by omega), Nat.pow_lt_pow_right (by omega) (by omega), hs, by simp [st0, testBit_pow]⟩

theorem mem_all {n s t : Int} {l : List Cl} (hv : validP n l = true) (hst : s ≠ t) (w : List Int) : w ∈ allWays l s t ↔ checkP l s t w = true := mem_ways hv 31 s 0 _ w (by omega) hst

theorem check_run {n s t : Int} {l : List Cl} (hv : validP n l = true) (hs : 0 ≤ s ∧ s < n) (w : List Int) : checkP l s t w = true ↔ ∃ st', runP l w (st0 s) = some st' ∧ st'.1 = t :=
  goW_iff hv w _ (wf0 (validP_ok hv).2.1 hs)

end Go.AM
