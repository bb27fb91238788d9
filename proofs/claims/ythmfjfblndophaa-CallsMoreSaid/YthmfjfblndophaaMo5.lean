/- Parts of the proof, put together: the abstract machine, what the functions of the program answer, and plain laws. -/
import Derived.Test.YthmfjfblndophaaMo4

section
namespace Go.AM
open Go.Proofs
/-- A way on, call by call. -/
def runP (l : List Kl) : List Int → Int × Int × Int → Option (Int × Int × Int)
  | [], st => some st
  | i :: w, st => if 0 ≤ i ∧ i < l.length then
      match l[i.toNat]? with
      | none => none
      | some c => if goes c st.1 st.2.1 st.2.2 = true then runP l w (c.oth st.1, c.t, withP st.2.2 (c.oth st.1)) else none
    else none
theorem runP_append (l : List Kl) : ∀ (w u : List Int) (st : Int × Int × Int), runP l (w ++ u) st = (runP l w st).bind (runP l u) := by
  intro w
  induction w with
  | nil => intro u st; rfl
  | cons i w ih =>
    intro u st
    simp only [List.cons_append, runP]
    split
    · split
      · rfl
      · split
        · exact ih u _
        · rfl
    · rfl
/-- A state with a set of people below n. -/
def Wf (n : Int) (st : Int × Int × Int) : Prop := ∃ k : Nat, st.2.2 = (k : Int) ∧ k < 2 ^ 7 ∧ (0 ≤ st.1 ∧ st.1 < n) ∧ k.testBit st.1.toNat = true
theorem withP_nat {k : Nat} {p : Int} (hk : k < 2 ^ 7) (hp : 0 ≤ p ∧ p < 7) : withP (k : Int) p = ((k ||| 2 ^ p.toNat : Nat) : Int) ∧ k ||| 2 ^ p.toNat < 2 ^ 7 := by
  obtain ⟨m, rfl⟩ := Int.eq_ofNat_of_zero_le hp.1
  have hm : 2 ^ m < 2 ^ 7 := Nat.pow_lt_pow_right (by omega) (by omega)
  unfold withP
  rw [shl1_nat (by omega), or_nat (by omega) (by omega)]
  exact ⟨rfl, Nat.or_lt_two_pow hk hm⟩
theorem inP_nat {k : Nat} {p : Int} (hk : k < 2 ^ 7) (hp : 0 ≤ p ∧ p < 7) : inP (k : Int) p = k.testBit p.toNat := by
  obtain ⟨m, rfl⟩ := Int.eq_ofNat_of_zero_le hp.1
  unfold inP
  rw [bit_nat (by omega) (by omega)]
  simp only [Int.toNat_natCast]
  cases k.testBit m <;> rfl
theorem goes_spec {n : Int} {c : Kl} {st : Int × Int × Int} (hn : n ≤ 7) (hc : okC n c = true) (hg : goes c st.1 st.2.1 st.2.2 = true) : st.2.1 < c.t ∧ c.has st.1 = true ∧ inP st.2.2 (c.oth st.1) = false ∧ 0 ≤ c.oth st.1 ∧ c.oth st.1 < n := by
  simp only [goes, Bool.and_eq_true, Bool.not_eq_true', decide_eq_false_iff_not, Int.not_le] at hg
  have := oth_ok hc hg.1.2
  exact ⟨hg.1.1, hg.1.2, hg.2, this.1, this.2.1⟩
theorem run_keep {n : Int} {l : List Kl} (hv : validP n l = true) : ∀ (w : List Int) (st st' : Int × Int × Int), Wf n st → runP l w st = some st' → Wf n st' ∧ (∀ q : Nat, ∀ k k' : Nat, st.2.2 = (k : Int) → st'.2.2 = (k' : Int) → k.testBit q = true → k'.testBit q = true) ∧
    (w ≠ [] → ∀ k : Nat, st.2.2 = (k : Int) → k.testBit st'.1.toNat = false) ∧ st.2.1 ≤ st'.2.1 ∧ (∀ i ∈ w, 0 ≤ i ∧ ∃ c, l[i.toNat]? = some c ∧ c.t ≤ st'.2.1 ∧ st.2.1 < c.t) := by
  obtain ⟨hn1, hn7, hl24, hok⟩ := validP_ok hv
  intro w
  induction w with
  | nil =>
    intro st st' hw h
    cases h
    exact ⟨hw, fun q k k' h1 h2 h3 => by rw [h1] at h2; have : k = k' := by omega
                                         subst this; exact h3, fun h => absurd rfl h, Int.le_refl _, by simp⟩
  | cons i w ih =>
    intro st st' hw h
    simp only [runP] at h
    split at h
    · rename_i hi
      split at h
      · cases h
      · rename_i c hc
        split at h
        · rename_i hg
          obtain ⟨g1, g2, g3, g4, g5⟩ := goes_spec hn7 (hok _ _ hc) hg
          obtain ⟨k, hk, hk7, hp, hkp⟩ := hw
          obtain ⟨e1, e2⟩ := withP_nat (p := c.oth st.1) hk7 ⟨g4, by omega⟩
          have hw1 : Wf n (c.oth st.1, c.t, withP st.2.2 (c.oth st.1)) := ⟨_, by rw [hk]; exact e1, e2, ⟨g4, g5⟩, by simp [Nat.testBit_or, testBit_pow]⟩
          obtain ⟨q1, q2, q3, q4, q5⟩ := ih _ _ hw1 h
          refine ⟨q1, fun q k0 k' h1 h2 h3 => ?_, fun _ k0 h1 => ?_, by simp only at q4; omega, fun j hj => ?_⟩
          · have : k0 = k := by rw [hk] at h1; omega
            subst this
            exact q2 q _ k' (by simp only; rw [hk]; exact e1) h2 (by rw [Nat.testBit_or, h3]; rfl)
          · have : k0 = k := by rw [hk] at h1; omega
            subst this
            cases w with
            | nil =>
              cases h
              rw [hk, inP_nat hk7 ⟨g4, by omega⟩] at g3
              exact g3
            | cons j w =>
              have := q3 (by simp) _ (by simp only; rw [hk]; exact e1)
              rw [Nat.testBit_or] at this
              simp only [Bool.or_eq_false_iff] at this
              exact this.1
          · simp only [List.mem_cons] at hj
            rcases hj with rfl | hj
            · exact ⟨hi.1, c, hc, by simpa using q4, g1⟩
            · obtain ⟨a1, d, a2, a3, a4⟩ := q5 j hj
              exact ⟨a1, d, a2, a3, by simp only at a4; omega⟩
        · cases h
    · cases h
theorem goW_iff {n t : Int} {l : List Kl} (hv : validP n l = true) : ∀ (w : List Int) (st : Int × Int × Int), Wf n st → (goW l t w st = true ↔ ∃ st', runP l w st = some st' ∧ st'.1 = t) := by
  obtain ⟨hn1, hn7, hl24, hok⟩ := validP_ok hv
  intro w
  induction w with
  | nil => intro st _; simp [goW, runP]
  | cons i w ih =>
    intro st hw
    constructor
    · intro h
      simp only [goW] at h
      cases hs : stepP l t st i with
      | none => rw [hs] at h; cases h
      | some s' =>
        rw [hs] at h
        simp only at h
        unfold stepP at hs
        split at hs
        · cases hs
        · rename_i hb
          simp only [not_or, Int.not_lt, Int.not_le] at hb
          split at hs
          · cases hs
          · rename_i c hc
            split at hs
            · rename_i hg
              cases hs
              obtain ⟨g1, g2, g3, g4, g5⟩ := goes_spec hn7 (hok _ _ hc) hg
              obtain ⟨k, hk, hk7, hp, hkp⟩ := hw
              obtain ⟨e1, e2⟩ := withP_nat (p := c.oth st.1) hk7 ⟨g4, by omega⟩
              have hw1 : Wf n (c.oth st.1, c.t, withP st.2.2 (c.oth st.1)) := ⟨_, by rw [hk]; exact e1, e2, ⟨g4, g5⟩, by simp [Nat.testBit_or, testBit_pow]⟩
              obtain ⟨st', h1, h2⟩ := (ih _ hw1).1 h
              refine ⟨st', ?_, h2⟩
              simp only [runP]
              rw [if_pos ⟨hb.1, hb.2.1⟩, hc]
              simp only
              rw [if_pos hg]
              exact h1
            · cases hs
    · rintro ⟨st', h, h2⟩
      obtain ⟨_, _, q3, _, _⟩ := run_keep hv (i :: w) st st' hw h
      simp only [runP] at h
      split at h
      · rename_i hi
        split at h
        · cases h
        · rename_i c hc
          split at h
          · rename_i hg
            obtain ⟨g1, g2, g3, g4, g5⟩ := goes_spec hn7 (hok _ _ hc) hg
            obtain ⟨k, hk, hk7, hp, hkp⟩ := hw
            obtain ⟨e1, e2⟩ := withP_nat (p := c.oth st.1) hk7 ⟨g4, by omega⟩
            have hw1 : Wf n (c.oth st.1, c.t, withP st.2.2 (c.oth st.1)) := ⟨_, by rw [hk]; exact e1, e2, ⟨g4, g5⟩, by simp [Nat.testBit_or, testBit_pow]⟩
            have hne : st.1 ≠ t := by
              intro e
              have := q3 (by simp) k hk
              rw [h2, ← e, hkp] at this
              cases this
            have hst : stepP l t st i = some (c.oth st.1, c.t, withP st.2.2 (c.oth st.1)) := by
              unfold stepP
              rw [if_neg (by simp only [not_or, Int.not_lt, Int.not_le]; exact ⟨hi.1, hi.2, hne⟩), hc]
              simp only
              rw [if_pos hg]
            simp only [goW]
            rw [hst]
            exact (ih _ hw1).2 ⟨st', h, h2⟩
          · cases h
      · cases h
theorem mem_ways {n t : Int} {l : List Kl} (hv : validP n l = true) : ∀ (F : Nat) (p tm seen : Int) (w : List Int), 31 - tm ≤ F → p ≠ t → (w ∈ waysF l t (F + 1) p tm seen ↔ goW l t w (p, tm, seen) = true) := by
  obtain ⟨hn1, hn7, hl24, hok⟩ := validP_ok hv
  intro F
  induction F with
  | zero =>
    intro p tm seen w hF hp
    simp only [waysF]
    rw [mem_app]
    constructor
    · rintro (h | ⟨j, c, hc, h⟩)
      · simp at h
      · unfold wayStep at h
        split at h
        · rename_i hg
          have h1 : tm < c.t := by simp only [goes, Bool.and_eq_true, Bool.not_eq_true', decide_eq_false_iff_not, Int.not_le] at hg; exact hg.1.1
          have := (time_ok hv hc).2
          omega
        · simp at h
    · intro h
      cases w with
      | nil => simp [goW, hp] at h
      | cons i w =>
        simp only [goW] at h
        cases hs : stepP l t (p, tm, seen) i with
        | none => rw [hs] at h; cases h
        | some s' =>
          unfold stepP at hs
          split at hs
          · cases hs
          · split at hs
            · cases hs
            · rename_i c hc
              split at hs
              · rename_i hg
                have h1 : tm < c.t := by simp only [goes, Bool.and_eq_true, Bool.not_eq_true', decide_eq_false_iff_not, Int.not_le] at hg; exact hg.1.1
                have := (time_ok hv hc).2
                omega
              · cases hs
  | succ F ih =>
    intro p tm seen w hF hp
    rw [waysF, mem_app]
    constructor
    · rintro (h | ⟨j, c, hc, h⟩)
      · simp at h
      · have hj := (List.getElem?_eq_some_iff.1 hc).1
        rw [Nat.zero_add] at h
        unfold wayStep at h
        split at h
        · rename_i hg
          have h1 : tm < c.t := by simp only [goes, Bool.and_eq_true, Bool.not_eq_true', decide_eq_false_iff_not, Int.not_le] at hg; exact hg.1.1
          have hst : stepP l t (p, tm, seen) (j : Int) = some (c.oth p, c.t, withP seen (c.oth p)) := by
            unfold stepP
            rw [if_neg (by simp only [not_or, Int.not_lt, Int.not_le]; exact ⟨by omega, by omega, hp⟩), Int.toNat_natCast, hc]
            simp only
            rw [if_pos hg]
          split at h
          · rename_i hto
            simp at h
            subst h
            simp [goW, hst, hto]
          · rename_i hto
            simp only [List.mem_map] at h
            obtain ⟨w', hw', rfl⟩ := h
            simp only [goW, hst]
            exact (ih _ _ _ w' (by omega) hto).1 hw'
        · simp at h
    · intro h
      right
      cases w with
      | nil => simp [goW, hp] at h
      | cons i w =>
        simp only [goW] at h
        cases hs : stepP l t (p, tm, seen) i with
        | none => rw [hs] at h; cases h
        | some s' =>
          rw [hs] at h
          simp only at h
          unfold stepP at hs
          split at hs
          · cases hs
          · rename_i hb
            simp only [not_or, Int.not_lt, Int.not_le] at hb
            split at hs
            · cases hs
            · rename_i c hc
              split at hs
              · rename_i hg
                cases hs
                simp only at hg h
                have h1 : tm < c.t := by simp only [goes, Bool.and_eq_true, Bool.not_eq_true', decide_eq_false_iff_not, Int.not_le] at hg; exact hg.1.1
                refine ⟨i.toNat, c, hc, ?_⟩
                rw [Nat.zero_add]
                have hii : ((i.toNat : Nat) : Int) = i := by omega
                unfold wayStep
                rw [if_pos hg, hii]
                by_cases hto : c.oth p = t
                · rw [if_pos hto]
                  cases w with
                  | nil => simp
                  | cons j w =>
                    simp only [goW] at h
                    have : stepP l t (c.oth p, c.t, withP seen (c.oth p)) j = none := by
                      unfold stepP
                      rw [if_pos (.inr (.inr hto))]
                    rw [this] at h
                    cases h
                · rw [if_neg hto, List.mem_map]
                  exact ⟨w, (ih _ _ _ w (by omega) hto).2 h, rfl⟩
              · cases hs
/-- The first state. -/
def st0 (s : Int) : Int × Int × Int := (s, 0, shl .i64 1 s)
theorem wf0 {n s : Int} (hn : n ≤ 7) (hs : 0 ≤ s ∧ s < n) : Wf n (st0 s) := by
  obtain ⟨m, rfl⟩ := Int.eq_ofNat_of_zero_le hs.1
  exact ⟨2 ^ m, shl1_nat (by omega), Nat.pow_lt_pow_right (by omega) (by omega), hs, by simp [st0, testBit_pow]⟩
theorem mem_all {n s t : Int} {l : List Kl} (hv : validP n l = true) (hst : s ≠ t) (w : List Int) : w ∈ allWays l s t ↔ checkP l s t w = true := mem_ways hv 31 s 0 _ w (by omega) hst
theorem check_run {n s t : Int} {l : List Kl} (hv : validP n l = true) (hs : 0 ≤ s ∧ s < n) (w : List Int) : checkP l s t w = true ↔ ∃ st', runP l w (st0 s) = some st' ∧ st'.1 = t :=
  goW_iff hv w _ (wf0 (validP_ok hv).2.1 hs)
end Go.AM
end

section
namespace Go.AM
open Go.Proofs
/-- The time that a person stands with. -/
def atP (A : List Int) (p : Int) : Int := A.getD p.toNat 0
def arrK (n : Nat) (l : List Kl) (s : Int) (k : Nat) : List Int := (l.take k).foldl (fun A c => arrG c A) (arr0 n s)
theorem arrK_succ {n : Nat} {l : List Kl} {s : Int} {k : Nat} {c : Kl} (hc : l[k]? = some c) : arrK n l s (k + 1) = arrG c (arrK n l s k) := by
  unfold arrK
  rw [List.take_add_one, hc]
  simp [List.foldl_append]
theorem arrK_len {n : Nat} {l : List Kl} {s : Int} {k : Nat} : (arrK n l s k).length = n := by
  unfold arrK
  have : ∀ (l : List Kl) (A : List Int), (l.foldl (fun A c => arrG c A) A).length = A.length := by
    intro l
    induction l with
    | nil => intro A; rfl
    | cons c l ih => intro A; rw [List.foldl_cons, ih, arrG_len]
  rw [this]
  simp [arr0]
theorem arrive_K (n : Nat) (l : List Kl) (s : Int) : arriveP n l s = arrK n l s l.length := by
  unfold arriveP arrK
  rw [List.take_of_length_le (Nat.le_refl _)]
theorem at_set {A : List Int} {i : Nat} {x p : Int} (hi : i < A.length) (hp : 0 ≤ p) : atP (A.set i x) p = if p.toNat = i then x else atP A p := by
  unfold atP
  simp only [List.getD_eq_getElem?_getD, List.getElem?_set]
  by_cases h : i = p.toNat
  · subst h; simp [hi]
  · simp [h, Ne.symm h]
/-- What a call does to the arrivals. -/
theorem arrG_at {n : Int} {A : List Int} {c : Kl} (hc : okC n c = true) (hl : A.length = n.toNat) {p : Int} (hp : 0 ≤ p ∧ p < n) :
    atP (arrG c A) p = if (p = c.b ∧ atP A c.a ≠ -1 ∧ atP A c.b = -1) ∨ (p = c.a ∧ atP A c.b ≠ -1 ∧ atP A c.a = -1) then c.t else atP A p := by
  obtain ⟨ha, hb, hne, _⟩ := okC_iff.1 hc
  unfold arrG
  change atP (if atP A c.a ≠ -1 ∧ atP A c.b = -1 then A.set c.b.toNat c.t else if atP A c.b ≠ -1 ∧ atP A c.a = -1 then A.set c.a.toNat c.t else A) p = _
  by_cases h1 : atP A c.a ≠ -1 ∧ atP A c.b = -1
  · rw [if_pos h1, at_set (by omega) hp.1]
    by_cases h2 : p = c.b
    · rw [if_pos (by omega), if_pos (.inl ⟨h2, h1⟩)]
    · rw [if_neg (by omega), if_neg (by rintro (h | h); exact h2 h.1; exact h1.1 h.2.2)]
  · rw [if_neg h1]
    by_cases h3 : atP A c.b ≠ -1 ∧ atP A c.a = -1
    · rw [if_pos h3, at_set (by omega) hp.1]
      by_cases h2 : p = c.a
      · rw [if_pos (by omega), if_pos (.inr ⟨h2, h3⟩)]
      · rw [if_neg (by omega), if_neg (by rintro (h | h); exact h1 h.2; exact h2 h.1)]
    · rw [if_neg h3, if_neg (by rintro (h | h); exact h1 h.2; exact h3 h.2)]
theorem arr0_at {n s p : Int} (hs : 0 ≤ s ∧ s < n) (hp : 0 ≤ p ∧ p < n) : atP (arr0 n.toNat s) p = if p = s then 0 else -1 := by
  unfold arr0
  rw [at_set (by simp; omega) hp.1]
  by_cases h : p = s
  · subst h; simp
  · rw [if_neg (by omega), if_neg h]
    unfold atP
    simp [List.getD_eq_getElem?_getD, List.getElem?_replicate, show p.toNat < n.toNat by omega]
/-- What is known of the arrivals behind k calls. -/
structure ArrOk (n : Int) (l : List Kl) (s : Int) (k : Nat) (A : List Int) : Prop where
  run : ∀ p, 0 ≤ p ∧ p < n → atP A p ≠ -1 → ∃ (w : List Int) (m : Nat), runP l w (st0 s) = some (p, atP A p, (m : Int)) ∧ (∀ i ∈ w, 0 ≤ i ∧ i < k) ∧ ∀ q : Int, 0 ≤ q → m.testBit q.toNat = true → q < n ∧ atP A q ≠ -1
  by_ : ∀ p, 0 ≤ p ∧ p < n → atP A p ≠ -1 → (atP A p = 0 ∧ p = s) ∨ ∃ j c, j < k ∧ l[j]? = some c ∧ c.has p = true ∧ atP A p = c.t
  s0 : atP A s = 0
theorem arr_ok {n s : Int} {l : List Kl} (hv : validP n l = true) (hs : 0 ≤ s ∧ s < n) : ∀ k, k ≤ l.length → ArrOk n l s k (arrK n.toNat l s k) := by
  obtain ⟨hn1, hn7, hl24, hok⟩ := validP_ok hv
  intro k
  induction k with
  | zero =>
    intro _
    have h0 : arrK n.toNat l s 0 = arr0 n.toNat s := rfl
    rw [h0]
    refine ⟨fun p hp hne => ?_, fun p hp hne => ?_, by rw [arr0_at hs hs, if_pos rfl]⟩
    · rw [arr0_at hs hp] at hne ⊢
      by_cases h : p = s
      · subst h
        obtain ⟨m, rfl⟩ := Int.eq_ofNat_of_zero_le hs.1
        refine ⟨[], 2 ^ m, ?_, by simp, fun q hq hb => ?_⟩
        · rw [if_pos rfl]
          simp only [runP, st0]
          rw [shl1_nat (by omega)]
        · rw [testBit_pow] at hb
          have : m = q.toNat := of_decide_eq_true hb
          have hqe : q = m := by omega
          subst hqe
          exact ⟨hs.2, by rw [arr0_at hs hs, if_pos rfl]; decide⟩
      · rw [if_neg h] at hne; exact absurd rfl hne
    · rw [arr0_at hs hp] at hne ⊢
      by_cases h : p = s
      · exact .inl ⟨by rw [if_pos h], h⟩
      · rw [if_neg h] at hne; exact absurd rfl hne
  | succ k ih =>
    intro hk
    have hc : l[k]? = some l[k] := List.getElem?_eq_getElem (by omega)
    generalize l[k] = c at hc
    have hcok := hok _ _ hc
    obtain ⟨ha, hb, hne, ht1, ht2⟩ := okC_iff.1 hcok
    have I := ih (by omega)
    have hlen : (arrK n.toNat l s k).length = n.toNat := arrK_len
    rw [arrK_succ hc]
    generalize hA : arrK n.toNat l s k = A at *
    have hat := fun p hp => arrG_at (p := p) hcok hlen hp
    -- what stands stays
    have stay : ∀ p, 0 ≤ p ∧ p < n → atP A p ≠ -1 → atP (arrG c A) p = atP A p := fun p hp h => by
      rw [hat p hp, if_neg]
      rintro (⟨rfl, _, h2⟩ | ⟨rfl, _, h2⟩)
      · exact h h2
      · exact h h2
    -- one who was reached calls another one
    have ext : ∀ x y, (0 ≤ x ∧ x < n) → (0 ≤ y ∧ y < n) → c.has x = true → c.oth x = y → c.has y = true → atP A x ≠ -1 → atP A y = -1 → atP (arrG c A) y = c.t →
        ∃ (w : List Int) (m : Nat), runP l w (st0 s) = some (y, atP (arrG c A) y, (m : Int)) ∧ (∀ i ∈ w, 0 ≤ i ∧ i < (k + 1 : Nat)) ∧ ∀ q : Int, 0 ≤ q → m.testBit q.toNat = true → q < n ∧ atP (arrG c A) q ≠ -1 := by
      intro x y hx hy hxc hxy hyc hxn hyn hyt
      obtain ⟨w, m, r1, r2, r3⟩ := I.run x hx hxn
      have wf := (run_keep hv w _ _ (wf0 hn7 hs) r1).1
      obtain ⟨m', e1, e2, _, _⟩ := wf
      simp only at e1
      have : m = m' := by omega
      subst this
      have hlt : atP A x < c.t := by
        rcases I.by_ x hx hxn with ⟨h0, _⟩ | ⟨j, d, hj, hd, hdx, hdt⟩
        · omega
        · have hs2 := validP_sorted hv hj hd hc
          rw [hdt]
          rcases Int.lt_or_eq_of_le hs2.1 with h | h
          · exact h
          · exfalso
            have hcl := hs2.2
            unfold clash at hcl
            rw [h] at hcl
            simp only [beq_self_eq_true, Bool.true_and, Bool.or_eq_false_iff] at hcl
            simp only [Kl.has, Bool.or_eq_true, beq_iff_eq] at hxc
            rcases hxc with h1 | h1
            · rw [h1, hdx] at hcl; cases hcl.1
            · rw [h1, hdx] at hcl; cases hcl.2
      have hin : inP (m : Int) y = false := by
        rw [inP_nat e2 ⟨hy.1, by omega⟩]
        cases hb : m.testBit y.toNat with
        | false => rfl
        | true => exact absurd hyn (r3 y hy.1 hb).2
      obtain ⟨f1, f2⟩ := withP_nat (p := y) e2 ⟨hy.1, by omega⟩
      refine ⟨w ++ [(k : Int)], m ||| 2 ^ y.toNat, ?_, fun i hi => ?_, fun q hq hb => ?_⟩
      · rw [runP_append, r1, Option.bind_some]
        simp only [runP]
        rw [if_pos ⟨by omega, by omega⟩, Int.toNat_natCast, hc]
        simp only
        rw [if_pos (by simp only [goes, hxc, hxy, hin]; simp; omega), hxy, hyt, f1]
      · simp only [List.mem_append, List.mem_cons, List.not_mem_nil, or_false] at hi
        rcases hi with hi | rfl
        · have := r2 i hi; omega
        · omega
      · rw [Nat.testBit_or, testBit_pow] at hb
        by_cases hqy : y.toNat = q.toNat
        · have : q = y := by omega
          subst this
          exact ⟨hy.2, by rw [hyt]; omega⟩
        · simp only [hqy, decide_false, Bool.or_false] at hb
          have := r3 q hq hb
          exact ⟨this.1, by rw [stay q ⟨hq, this.1⟩ this.2]; exact this.2⟩
    have hha : c.has c.a = true := by simp [Kl.has]
    have hhb : c.has c.b = true := by simp [Kl.has]
    have hoa : c.oth c.a = c.b := by unfold Kl.oth; omega
    have hob : c.oth c.b = c.a := by unfold Kl.oth; omega
    refine ⟨fun p hp hne' => ?_, fun p hp hne' => ?_, by rw [stay s hs (by rw [I.s0]; decide)]; exact I.s0⟩
    · by_cases hold : atP A p = -1
      · have h1 := hat p hp
        by_cases hcase : (p = c.b ∧ atP A c.a ≠ -1 ∧ atP A c.b = -1) ∨ (p = c.a ∧ atP A c.b ≠ -1 ∧ atP A c.a = -1)
        · rw [if_pos hcase] at h1
          rcases hcase with ⟨rfl, h2, h3⟩ | ⟨rfl, h2, h3⟩
          · exact ext c.a c.b ha hb hha hoa hhb h2 h3 h1
          · exact ext c.b c.a hb ha hhb hob hha h2 h3 h1
        · rw [if_neg hcase, hold] at h1; exact absurd h1 hne'
      · obtain ⟨w, m, r1, r2, r3⟩ := I.run p hp hold
        refine ⟨w, m, by rw [stay p hp hold]; exact r1, fun i hi => by have := r2 i hi; omega, fun q hq hb => ?_⟩
        have := r3 q hq hb
        exact ⟨this.1, by rw [stay q ⟨hq, this.1⟩ this.2]; exact this.2⟩
    · by_cases hold : atP A p = -1
      · have h1 := hat p hp
        by_cases hcase : (p = c.b ∧ atP A c.a ≠ -1 ∧ atP A c.b = -1) ∨ (p = c.a ∧ atP A c.b ≠ -1 ∧ atP A c.a = -1)
        · rw [if_pos hcase] at h1
          right
          rcases hcase with ⟨rfl, h2, h3⟩ | ⟨rfl, h2, h3⟩
          · exact ⟨k, c, by omega, hc, hhb, h1⟩
          · exact ⟨k, c, by omega, hc, hha, h1⟩
        · rw [if_neg hcase, hold] at h1; exact absurd h1 hne'
      · rw [stay p hp hold]
        rcases I.by_ p hp hold with h | ⟨j, d, h1, h2⟩
        · exact .inl h
        · exact .inr ⟨j, d, by omega, h2⟩
theorem arr_stay {n s : Int} {l : List Kl} (hv : validP n l = true) : ∀ (k m : Nat), k ≤ m → m ≤ l.length → ∀ p, 0 ≤ p ∧ p < n → atP (arrK n.toNat l s k) p ≠ -1 → atP (arrK n.toNat l s m) p = atP (arrK n.toNat l s k) p := by
  intro k m hkm
  induction hkm with
  | refl => intro _ p _ _; rfl
  | @step m hkm ih =>
    intro hm p hp hne
    have hc : l[m]? = some l[m] := List.getElem?_eq_getElem (by omega)
    rw [arrK_succ hc, arrG_at ((validP_ok hv).2.2.2 _ _ hc) arrK_len hp, if_neg, ih (by omega) p hp hne]
    have := ih (by omega) p hp hne
    rintro (⟨rfl, _, h2⟩ | ⟨rfl, _, h2⟩)
    · rw [this] at h2; exact hne h2
    · rw [this] at h2; exact hne h2
/-- Whoever a way ends at has been reached, not later. -/
theorem run_arr {n s : Int} {l : List Kl} (hv : validP n l = true) (hs : 0 ≤ s ∧ s < n) : ∀ (m : Nat) (w : List Int), w.length = m → ∀ (st' : Int × Int × Int) (k : Nat), k ≤ l.length → runP l w (st0 s) = some st' → (∀ i ∈ w, 0 ≤ i ∧ i < k) →
    atP (arrK n.toNat l s k) st'.1 ≠ -1 ∧ atP (arrK n.toNat l s k) st'.1 ≤ st'.2.1 := by
  obtain ⟨hn1, hn7, hl24, hok⟩ := validP_ok hv
  intro m
  induction m with
  | zero =>
    intro w hw st' k hk hr _
    rw [List.eq_nil_of_length_eq_zero hw] at hr
    cases hr
    have := (arr_ok hv hs k hk).s0
    simp only [st0]
    rw [this]
    exact ⟨by decide, Int.le_refl _⟩
  | succ m ih =>
    intro w hw st' k hk hr hik
    have hne : w ≠ [] := by intro e; rw [e] at hw; cases hw
    obtain ⟨u, i, rfl⟩ : ∃ u i, w = u ++ [i] := ⟨w.dropLast, w.getLast hne, (List.dropLast_concat_getLast hne).symm⟩
    rw [runP_append] at hr
    cases hu : runP l u (st0 s) with
    | none => rw [hu] at hr; cases hr
    | some st1 =>
      rw [hu] at hr
      simp only [Option.bind_some, runP] at hr
      split at hr
      · rename_i hi
        split at hr
        · cases hr
        · rename_i c hc
          split at hr
          · rename_i hg
            cases hr
            have hcok := hok _ _ hc
            obtain ⟨g1, g2, g3, g4, g5⟩ := goes_spec hn7 hcok hg
            have hku := run_keep hv u _ _ (wf0 hn7 hs) hu
            obtain ⟨mm, _, _, hp1, _⟩ := hku.1
            -- the calls ahead of this one
            have hlt : ∀ j ∈ u, 0 ≤ j ∧ j < (i.toNat : Int) := fun j hj => by
              obtain ⟨h0, d, hd, hdt, _⟩ := hku.2.2.2.2 j hj
              refine ⟨h0, ?_⟩
              rcases Nat.lt_or_ge j.toNat i.toNat with h | h
              · omega
              · exfalso
                rcases Nat.lt_or_ge i.toNat j.toNat with h' | h'
                · have := (validP_sorted hv h' hc hd).1; omega
                · have : j.toNat = i.toNat := by omega
                  rw [this, hc] at hd
                  cases hd
                  omega
            obtain ⟨q1, q2⟩ := ih u (by simpa using hw) st1 i.toNat (by omega) hu hlt
            have hik' := hik i (by simp)
            obtain ⟨ha, hb, hnab, ht1, ht2⟩ := okC_iff.1 hcok
            have ix : i.toNat < k := by omega
            -- behind this call
            have key : atP (arrK n.toNat l s (i.toNat + 1)) (c.oth st1.1) ≠ -1 ∧ atP (arrK n.toNat l s (i.toNat + 1)) (c.oth st1.1) ≤ c.t := by
              rw [arrK_succ hc, arrG_at hcok arrK_len ⟨g4, g5⟩]
              have hcase : (st1.1 = c.a ∧ c.oth st1.1 = c.b) ∨ (st1.1 = c.b ∧ c.oth st1.1 = c.a) := by
                simp only [Kl.has, Bool.or_eq_true, beq_iff_eq] at g2
                unfold Kl.oth
                rcases g2 with h | h
                · left; omega
                · right; omega
              by_cases hset : (c.oth st1.1 = c.b ∧ atP (arrK n.toNat l s i.toNat) c.a ≠ -1 ∧ atP (arrK n.toNat l s i.toNat) c.b = -1) ∨ (c.oth st1.1 = c.a ∧ atP (arrK n.toNat l s i.toNat) c.b ≠ -1 ∧ atP (arrK n.toNat l s i.toNat) c.a = -1)
              · rw [if_pos hset]; omega
              · rw [if_neg hset]
                have hnn : atP (arrK n.toNat l s i.toNat) (c.oth st1.1) ≠ -1 := by
                  intro h
                  apply hset
                  rcases hcase with ⟨h1, h2⟩ | ⟨h1, h2⟩
                  · left; rw [h1] at q1; rw [h2] at h; exact ⟨h2, q1, h⟩
                  · right; rw [h1] at q1; rw [h2] at h; exact ⟨h2, q1, h⟩
                refine ⟨hnn, ?_⟩
                rcases (arr_ok hv hs i.toNat (by omega)).by_ _ ⟨g4, g5⟩ hnn with ⟨h1, _⟩ | ⟨j, d, h1, h2, _, h3⟩
                · omega
                · rw [h3]; exact (validP_sorted hv h1 h2 hc).1
            have hst := arr_stay (s := s) hv (i.toNat + 1) k (by omega) hk _ ⟨g4, g5⟩ key.1
            simp only
            rw [hst]
            exact key
          · cases hr
      · cases hr
end Go.AM
end

section
namespace Go.AM
open Go.Proofs
/-- A call, and whether it is there. -/
abbrev Cs := List (Kl × Bool)
/-- Those who hear, with the two of a call. -/
def addX (X : Int → Bool) (c : Kl) : Int → Bool := fun p => X p || (p == c.a || p == c.b)
/-- Must the call be left out, if these hear ahead of it and those behind it? -/
def penC (c : Kl) (X Y : Int → Bool) : Nat := if (X c.a || X c.b) && !(Y c.a && Y c.b) then 1 else 0
/-- How many calls must be left out so that t does not hear (K: it is too late). -/
def GM (K : Nat) (t : Int) : Cs → (Int → Bool) → Nat
  | [], X => if X t then K else 0
  | (c, true) :: cs, X => if X c.a || X c.b then min (GM K t cs (addX X c)) (GM K t cs X + penC c X X) else GM K t cs X
  | (_, false) :: cs, X => GM K t cs X
def SubX (X Y : Int → Bool) : Prop := ∀ p, X p = true → Y p = true
theorem SubX.refl (X : Int → Bool) : SubX X X := fun _ h => h
theorem SubX.trans {X Y Z : Int → Bool} (a : SubX X Y) (b : SubX Y Z) : SubX X Z := fun p h => b p (a p h)
theorem sub_add (X : Int → Bool) (c : Kl) : SubX X (addX X c) := fun p h => by simp [addX, h]
theorem penC_le (c : Kl) (X Y : Int → Bool) : penC c X Y ≤ 1 := by unfold penC; split <;> omega
/-- The penalty, where the call may be missing. -/
def penB (c : Kl × Bool) (X Y : Int → Bool) : Nat := if c.2 then penC c.1 X Y else 0
theorem penB_le (c : Kl × Bool) (X Y : Int → Bool) : penB c X Y ≤ 1 := by unfold penB; split; exact penC_le _ _ _; omega
section
variable {K : Nat} {t : Int}
theorem GM_mono : ∀ (cs : Cs) {X Y : Int → Bool}, SubX X Y → GM K t cs X ≤ GM K t cs Y := by
  intro cs
  induction cs with
  | nil =>
    intro X Y h
    simp only [GM]
    cases hX : X t with
    | false => simp
    | true => simp [h t hX]
  | cons c cs ih =>
    intro X Y h
    obtain ⟨c, b⟩ := c
    cases b with
    | false => simp only [GM]; exact ih h
    | true =>
      simp only [GM]
      have hadd : SubX (addX X c) (addX Y c) := fun p hp => by
        simp only [addX, Bool.or_eq_true] at hp ⊢
        rcases hp with hp | hp
        · exact .inl (h p hp)
        · exact .inr hp
      by_cases hx : (X c.a || X c.b) = true
      · have hy : (Y c.a || Y c.b) = true := by
          simp only [Bool.or_eq_true] at hx ⊢
          rcases hx with hx | hx
          · exact .inl (h _ hx)
          · exact .inr (h _ hx)
        rw [if_pos hx, if_pos hy]
        have h1 := ih hadd
        have h2 := ih h
        by_cases hyy : (Y c.a && Y c.b) = true
        · have h3 : SubX (addX X c) Y := fun p hp => by
            simp only [addX, Bool.or_eq_true, beq_iff_eq] at hp
            simp only [Bool.and_eq_true] at hyy
            rcases hp with hp | rfl | rfl
            · exact h p hp
            · exact hyy.1
            · exact hyy.2
          have h4 := ih h3
          omega
        · have : penC c Y Y = 1 := by unfold penC; rw [hy, Bool.eq_false_iff.2 hyy]; rfl
          have := penC_le c X X
          omega
      · rw [if_neg hx]
        have h2 := ih h
        split
        · have := ih (h.trans (sub_add Y c))
          omega
        · exact h2
theorem GM_le (c : Kl × Bool) (cs : Cs) {X Y : Int → Bool} (h : SubX X Y) : GM K t (c :: cs) X ≤ penB c X Y + GM K t cs Y := by
  obtain ⟨c, b⟩ := c
  cases b with
  | false => simp only [GM, penB]; have := GM_mono (K := K) (t := t) cs h; simp; omega
  | true =>
    simp only [GM, penB, if_true]
    split
    · rename_i hx
      by_cases hyy : (Y c.a && Y c.b) = true
      · have h3 : SubX (addX X c) Y := fun p hp => by
          simp only [addX, Bool.or_eq_true, beq_iff_eq] at hp
          simp only [Bool.and_eq_true] at hyy
          rcases hp with hp | rfl | rfl
          · exact h p hp
          · exact hyy.1
          · exact hyy.2
        have h4 := GM_mono (K := K) (t := t) cs h3
        omega
      · have : penC c X Y = 1 := by unfold penC; rw [hx, Bool.eq_false_iff.2 hyy]; rfl
        have := penC_le c X X
        have := GM_mono (K := K) (t := t) cs h
        omega
    · have := GM_mono (K := K) (t := t) cs h
      omega
theorem GM_ex (c : Kl × Bool) (cs : Cs) (X : Int → Bool) : ∃ Y, SubX X Y ∧ GM K t (c :: cs) X = penB c X Y + GM K t cs Y ∧ (Y = X ∨ (Y = addX X c.1 ∧ c.2 = true ∧ (X c.1.a || X c.1.b) = true)) := by
  obtain ⟨c, b⟩ := c
  cases b with
  | false => exact ⟨X, .refl _, by simp [GM, penB], .inl rfl⟩
  | true =>
    simp only [GM, penB, if_true]
    split
    · rename_i hx
      rcases Nat.le_total (GM K t cs (addX X c)) (GM K t cs X + penC c X X) with h | h
      · refine ⟨addX X c, sub_add X c, ?_, .inr ⟨rfl, trivial, hx⟩⟩
        rw [Nat.min_eq_left h]
        have : penC c X (addX X c) = 0 := by simp [penC, addX]
        omega
      · exact ⟨X, .refl _, by rw [Nat.min_eq_right h]; omega, .inl rfl⟩
    · rename_i hx
      refine ⟨X, .refl _, ?_, .inl rfl⟩
      have : penC c X X = 0 := by unfold penC; rw [if_neg]; simp only [Bool.and_eq_true]; exact fun h => hx h.1
      omega
def unionX (X Y : Int → Bool) : Int → Bool := fun p => X p || Y p
def interX (X Y : Int → Bool) : Int → Bool := fun p => X p && Y p
theorem pen_sub {c : Kl × Bool} {X Y X' Y' : Int → Bool} : penB c (unionX X Y) (unionX X' Y') + penB c (interX X Y) (interX X' Y') ≤ penB c X X' + penB c Y Y' := by
  unfold penB
  split
  · unfold penC unionX interX
    cases X c.1.a <;> cases X c.1.b <;> cases Y c.1.a <;> cases Y c.1.b <;> cases X' c.1.a <;> cases X' c.1.b <;> cases Y' c.1.a <;> cases Y' c.1.b <;> simp
  · omega
theorem GM_submod : ∀ (cs : Cs) (X Y : Int → Bool), GM K t cs (unionX X Y) + GM K t cs (interX X Y) ≤ GM K t cs X + GM K t cs Y := by
  intro cs
  induction cs with
  | nil =>
    intro X Y
    simp only [GM, unionX, interX]
    by_cases hx : X t = true <;> by_cases hy : Y t = true <;> simp [hx, hy]
  | cons c cs ih =>
    intro X Y
    obtain ⟨X', hX, eX, _⟩ := GM_ex (K := K) (t := t) c cs X
    obtain ⟨Y', hY, eY, _⟩ := GM_ex (K := K) (t := t) c cs Y
    have hU : SubX (unionX X Y) (unionX X' Y') := fun p h => by
      simp only [unionX, Bool.or_eq_true] at h ⊢
      exact h.imp (hX p) (hY p)
    have hI : SubX (interX X Y) (interX X' Y') := fun p h => by
      simp only [interX, Bool.and_eq_true] at h ⊢
      exact ⟨hX p h.1, hY p h.2⟩
    have h1 := GM_le (K := K) (t := t) c cs hU
    have h2 := GM_le (K := K) (t := t) c cs hI
    have h3 := ih X' Y'
    have h4 := pen_sub (c := c) (X := X) (Y := Y) (X' := X') (Y' := Y')
    omega
/-- The penalties of a sequence of sets. -/
def penS (cs : Cs) (X : Nat → Int → Bool) : Nat := ((List.range cs.length).map fun i => match cs[i]? with
  | some c => penB c (X i) (X (i + 1))
  | none => 0).sum
theorem penS_cons (c : Kl × Bool) (cs : Cs) (X : Nat → Int → Bool) : penS (c :: cs) X = penB c (X 0) (X 1) + penS cs (fun i => X (i + 1)) := by
  unfold penS
  rw [List.length_cons, List.range_succ_eq_map, List.map_cons, List.sum_cons, List.map_map]
  rfl
theorem GM_penS : ∀ (cs : Cs) (X : Nat → Int → Bool), (∀ i, i < cs.length → SubX (X i) (X (i + 1))) → X cs.length t = false → GM K t cs (X 0) ≤ penS cs X := by
  intro cs
  induction cs with
  | nil => intro X _ h; simp only [List.length_nil] at h; simp [GM, h, penS]
  | cons c cs ih =>
    intro X h1 h2
    rw [penS_cons]
    have h3 := GM_le (K := K) (t := t) c cs (h1 0 (by simp))
    have h4 := ih (fun i => X (i + 1)) (fun i hi => h1 (i + 1) (by simpa using hi)) h2
    simp only [Nat.zero_add] at h3 h4
    omega
theorem GM_seq : ∀ (cs : Cs) (X0 : Int → Bool), GM K t cs X0 < K → ∃ X : Nat → Int → Bool, X 0 = X0 ∧ (∀ i c, cs[i]? = some c → X (i + 1) = X i ∨ (X (i + 1) = addX (X i) c.1 ∧ c.2 = true ∧ (X i c.1.a || X i c.1.b) = true)) ∧ X cs.length t = false ∧ penS cs X = GM K t cs X0 := by
  intro cs
  induction cs with
  | nil =>
    intro X0 h
    refine ⟨fun _ => X0, rfl, fun i c hc => by simp at hc, ?_, ?_⟩
    · simp only [GM] at h
      cases hX : X0 t with
      | false => exact hX
      | true => rw [hX] at h; simp at h
    · simp only [GM] at h ⊢
      cases hX : X0 t with
      | false => simp [penS]
      | true => rw [hX] at h; simp at h
  | cons c cs ih =>
    intro X0 h
    obtain ⟨Y, hY, e, hc⟩ := GM_ex (K := K) (t := t) c cs X0
    obtain ⟨X, h1, h2, h3, h4⟩ := ih Y (by omega)
    refine ⟨fun i => match i with | 0 => X0 | i + 1 => X i, rfl, fun i d hd => ?_, h3, ?_⟩
    · cases i with
      | zero =>
        simp only [List.getElem?_cons_zero, Option.some.injEq] at hd
        subst hd
        show X 0 = X0 ∨ (X 0 = addX X0 c.1 ∧ _)
        rw [h1]
        exact hc
      | succ i =>
        rw [List.getElem?_cons_succ] at hd
        exact h2 i d hd
    · rw [penS_cons, e]
      show penB c X0 (X 0) + penS cs X = _
      rw [h1, h4]
theorem seq_mono {cs : Cs} {X : Nat → Int → Bool} (h : ∀ i c, cs[i]? = some c → X (i + 1) = X i ∨ (X (i + 1) = addX (X i) c.1 ∧ c.2 = true ∧ (X i c.1.a || X i c.1.b) = true)) (i : Nat) (hi : i < cs.length) : SubX (X i) (X (i + 1)) := by
  rcases h i _ (List.getElem?_eq_getElem hi) with e | ⟨e, _⟩ <;> rw [e]
  · exact .refl _
  · exact sub_add _ _
/-- Where somebody is behind some calls. -/
def runW (cs : Cs) : List Nat → Int → Option Int
  | [], p => some p
  | i :: w, p => match cs[i]? with
    | some (c, true) => if c.a = p then runW cs w c.b else if c.b = p then runW cs w c.a else none
    | _ => none
/-- Calls in order, from one on. -/
def Asc : Nat → List Nat → Prop
  | _, [] => True
  | m, i :: w => m ≤ i ∧ Asc (i + 1) w
theorem Asc.le {m n : Nat} (h : n ≤ m) : ∀ {w : List Nat}, Asc m w → Asc n w := by
  intro w hw
  cases w with
  | nil => trivial
  | cons i w => exact ⟨Nat.le_trans h hw.1, hw.2⟩
theorem Asc.mem : ∀ {w : List Nat} {m : Nat}, Asc m w → ∀ i ∈ w, m ≤ i := by
  intro w
  induction w with
  | nil => intro m _ i hi; cases hi
  | cons j w ih =>
    intro m h i hi
    rcases List.mem_cons.1 hi with rfl | hi
    · exact h.1
    · have := ih h.2 i hi
      have := h.1
      omega
/-- How many of k tokens are outside of a set. -/
def outX (k : Nat) (ps : Nat → Int) (X : Int → Bool) : Nat := (List.range k).countP fun j => !X (ps j)
def upd (ps : Nat → Int) (j0 : Nat) (q : Int) : Nat → Int := fun j => if j = j0 then q else ps j
theorem out_upd {k : Nat} {ps : Nat → Int} {j0 : Nat} {q : Int} {X : Int → Bool} (hj : j0 < k) :
    outX k (upd ps j0 q) X + (if X (ps j0) then 0 else 1) = outX k ps X + (if X q then 0 else 1) := by
  induction k with
  | zero => omega
  | succ k ih =>
    unfold outX
    rw [List.range_succ, List.countP_append, List.countP_append]
    simp only [List.countP_cons, List.countP_nil, Nat.zero_add]
    by_cases h : j0 = k
    · subst h
      have : (List.range j0).countP (fun j => !X (upd ps j0 q j)) = (List.range j0).countP (fun j => !X (ps j)) := by
        apply List.countP_congr
        intro j hj
        have : j ≠ j0 := by have := List.mem_range.1 hj; omega
        simp [upd, this]
      rw [this]
      simp only [upd, if_true]
      cases X (ps j0) <;> cases X q <;> simp
    · have := ih (by omega)
      unfold outX at this
      have h2 : upd ps j0 q k = ps k := by simp [upd, Ne.symm h]
      rw [h2]
      omega
theorem out_mod {k : Nat} {ps : Nat → Int} {X Y : Int → Bool} : outX k ps (unionX X Y) + outX k ps (interX X Y) = outX k ps X + outX k ps Y := by
  induction k with
  | zero => rfl
  | succ k ih =>
    unfold outX at ih ⊢
    simp only [List.range_succ, List.countP_append, List.countP_cons, List.countP_nil, Nat.zero_add]
    have : (if (!unionX X Y (ps k)) = true then 1 else 0) + (if (!interX X Y (ps k)) = true then 1 else 0) = (if (!X (ps k)) = true then 1 else 0) + (if (!Y (ps k)) = true then 1 else 0) := by
      unfold unionX interX
      cases X (ps k) <;> cases Y (ps k) <;> simp
    omega
theorem out_minus {k : Nat} {ps : Nat → Int} {X : Int → Bool} {p : Int} (h : ∀ j, j < k → ps j ≠ p) : outX k ps (fun x => X x && x != p) = outX k ps X := by
  unfold outX
  apply List.countP_congr
  intro j hj
  have := h j (List.mem_range.1 hj)
  simp [this]
/-- Tokens are moved through the calls: as_ many come to t as_ no cut forbids. -/
theorem tokens (cs : Cs) {k μ : Nat} : ∀ (n i0 : Nat) (ps : Nat → Int), i0 + n = cs.length → (∀ X, μ ≤ outX k ps X + GM K t (cs.drop i0) X) →
    ∃ (ws : Nat → List Nat) (es : Nat → Int), (∀ j, j < k → runW cs (ws j) (ps j) = some (es j) ∧ Asc i0 (ws j)) ∧ (∀ j j', j < k → j' < k → j ≠ j' → ∀ i ∈ ws j, i ∉ ws j') ∧ μ ≤ (List.range k).countP fun j => decide (es j = t) := by
  intro n
  induction n with
  | zero =>
    intro i0 ps hi h
    refine ⟨fun _ => [], ps, fun j _ => ⟨rfl, trivial⟩, (by intro j j' _ _ _ i hi; simp at hi), ?_⟩
    have := h fun p => p != t
    rw [List.drop_of_length_le (by omega)] at this
    simp only [GM, bne_self_eq_false, Bool.false_eq_true, if_false, Nat.add_zero] at this
    refine Nat.le_trans this (Nat.le_of_eq ?_)
    unfold outX
    apply List.countP_congr
    intro j _
    simp [bne]
  | succ n ih =>
    intro i0 ps hi h
    have hlt : i0 < cs.length := by omega
    have hd : cs.drop i0 = cs[i0] :: cs.drop (i0 + 1) := List.drop_eq_getElem_cons hlt
    rw [hd] at h
    by_cases hA : ∀ X, μ ≤ outX k ps X + GM K t (cs.drop (i0 + 1)) X
    · obtain ⟨ws, es, h1, h2, h3⟩ := ih (i0 + 1) ps (by omega) hA
      exact ⟨ws, es, fun j hj => ⟨(h1 j hj).1, (h1 j hj).2.le (by omega)⟩, h2, h3⟩
    · obtain ⟨X0, hX0⟩ := Classical.not_forall.1 hA
      have g0 := h X0
      have l0 := GM_le (K := K) (t := t) cs[i0] (cs.drop (i0 + 1)) (SubX.refl X0)
      obtain ⟨⟨c, b⟩, hc⟩ : ∃ c, cs[i0] = c := ⟨_, rfl⟩
      rw [hc] at h l0 g0
      have hp1 : penB (c, b) X0 X0 = 1 := by have := penB_le (c, b) X0 X0; omega
      have hb : b = true := by
        cases b with
        | true => rfl
        | false => simp [penB] at hp1
      subst hb
      -- the one of the call who hears, and the one who does not
      obtain ⟨p, q, hpq, hX0p, hX0q⟩ : ∃ p q, ((c.a = p ∧ c.b = q) ∨ (c.a = q ∧ c.b = p)) ∧ X0 p = true ∧ X0 q = false := by
        simp only [penB, if_true, penC] at hp1
        cases ha : X0 c.a <;> cases hb : X0 c.b <;> simp only [ha, hb] at hp1 <;> simp at hp1
        · exact ⟨c.b, c.a, .inr ⟨rfl, rfl⟩, hb, ha⟩
        · exact ⟨c.a, c.b, .inl ⟨rfl, rfl⟩, ha, hb⟩
      have pen0 : ∀ X : Int → Bool, X p = X q → penB (c, true) X X = 0 := by
        intro X hX
        simp only [penB, if_true, penC]
        rcases hpq with ⟨h1, h2⟩ | ⟨h1, h2⟩ <;> rw [h1, h2] <;> cases hp : X p <;> rw [hp] at hX <;> simp [← hX]
      have hpqne : p ≠ q := by rintro rfl; rw [hX0p] at hX0q; cases hX0q
      have upTo : ∀ X : Int → Bool, X p = X q → μ ≤ outX k ps X + GM K t (cs.drop (i0 + 1)) X := by
        intro X hX
        have h1 := h X
        have h2 := GM_le (K := K) (t := t) (c, true) (cs.drop (i0 + 1)) (SubX.refl X)
        rw [pen0 X hX] at h2
        omega
      have upOne : ∀ X : Int → Bool, μ ≤ outX k ps X + 1 + GM K t (cs.drop (i0 + 1)) X := by
        intro X
        have h1 := h X
        have h2 := GM_le (K := K) (t := t) (c, true) (cs.drop (i0 + 1)) (SubX.refl X)
        have h3 := penB_le (c, true) X X
        omega
      -- there is a token at p
      obtain ⟨j0, hj0, hps⟩ : ∃ j0, j0 < k ∧ ps j0 = p := by
        refine Classical.byContradiction fun hno => ?_
        have hno' : ∀ j, j < k → ps j ≠ p := fun j hj e => hno ⟨j, hj, e⟩
        have h1 := upTo (fun x => X0 x && x != p) (by simp [hX0q])
        rw [out_minus hno'] at h1
        have h2 := GM_mono (K := K) (t := t) (cs.drop (i0 + 1)) (X := fun x => X0 x && x != p) (Y := X0) (fun x hx => by simp only [Bool.and_eq_true] at hx; exact hx.1)
        omega
      have hB : ∀ X, μ ≤ outX k (upd ps j0 q) X + GM K t (cs.drop (i0 + 1)) X := by
        intro X1
        refine Classical.byContradiction fun hno => ?_
        have hu := out_upd (ps := ps) (q := q) (X := X1) hj0
        rw [hps] at hu
        by_cases hpq1 : X1 p = X1 q
        · have := upTo X1 hpq1
          rw [hpq1] at hu
          omega
        · cases h1 : X1 p with
          | true =>
            have h2 : X1 q = false := by cases hq : X1 q with | false => rfl | true => rw [h1, hq] at hpq1; exact absurd rfl hpq1
            rw [h1, h2] at hu
            have := upOne X1
            simp at hu
            omega
          | false =>
            have h2 : X1 q = true := by cases hq : X1 q with | true => rfl | false => rw [h1, hq] at hpq1; exact absurd rfl hpq1
            rw [h1, h2] at hu
            simp at hu
            have a1 := upTo (unionX X0 X1) (by simp [unionX, hX0p, h2])
            have a2 := upTo (interX X0 X1) (by simp [interX, hX0q, h1])
            have a3 := out_mod (k := k) (ps := ps) (X := X0) (Y := X1)
            have a4 := GM_submod (K := K) (t := t) (cs.drop (i0 + 1)) X0 X1
            omega
      obtain ⟨ws, es, h1, h2, h3⟩ := ih (i0 + 1) (upd ps j0 q) (by omega) hB
      have hget : cs[i0]? = some (c, true) := by rw [List.getElem?_eq_getElem hlt, hc]
      refine ⟨fun j => if j = j0 then i0 :: ws j0 else ws j, es, fun j hj => ?_, fun j j' hj hj' hne i hi => ?_, h3⟩
      · by_cases e : j = j0
        · subst e
          simp only [if_true]
          obtain ⟨r1, r2⟩ := h1 j hj
          refine ⟨?_, Nat.le_refl _, r2⟩
          simp only [upd, if_true] at r1
          simp only [runW, hget, hps]
          rcases hpq with ⟨e1, e2⟩ | ⟨e1, e2⟩
          · rw [if_pos e1, e2]; exact r1
          · rw [if_neg (by rw [e1]; exact Ne.symm hpqne), if_pos e2, e1]; exact r1
        · simp only [if_neg e]
          obtain ⟨r1, r2⟩ := h1 j hj
          simp only [upd, if_neg e] at r1
          exact ⟨r1, r2.le (by omega)⟩
      · have low : ∀ j, j < k → ∀ i ∈ ws j, i0 + 1 ≤ i := fun j hj i hi => (h1 j hj).2.mem i hi
        by_cases e : j = j0
        · subst e
          have e' : j' ≠ j := Ne.symm hne
          simp only [if_true, if_neg e'] at hi ⊢
          rcases List.mem_cons.1 hi with rfl | hi
          · intro hm; have := low j' hj' _ hm; omega
          · exact h2 j j' hj hj' hne i hi
        · simp only [if_neg e] at hi
          by_cases e' : j' = j0
          · subst e'
            simp only [if_true]
            intro hm
            rcases List.mem_cons.1 hm with e3 | hm
            · have h7 := low j hj i hi; omega
            · exact h2 j j' hj hj' hne i hi hm
          · simp only [if_neg e']
            exact h2 j j' hj hj' hne i hi
/-- Menger: as_ many walks apart as_ calls must be left out. -/
theorem menger (cs : Cs) {s : Int} {k : Nat} (h : k ≤ GM K t cs (fun p => p == s)) :
    ∃ ws : Nat → List Nat, (∀ j, j < k → runW cs (ws j) s = some t ∧ Asc 0 (ws j)) ∧ ∀ j j', j < k → j' < k → j ≠ j' → ∀ i ∈ ws j, i ∉ ws j' := by
  obtain ⟨ws, es, h1, h2, h3⟩ := tokens (K := K) (t := t) (k := k) (μ := k) cs cs.length 0 (fun _ => s) (by omega) (fun X => by
    rw [List.drop_zero]
    cases hX : X s with
    | false => 
      have : outX k (fun _ => s) X = k := by unfold outX; rw [List.countP_eq_length.2 (fun j _ => by simp [hX]), List.length_range]
      omega
    | true =>
      have := GM_mono (K := K) (t := t) cs (X := fun p => p == s) (Y := X) (fun p hp => by rw [beq_iff_eq] at hp; rw [hp]; exact hX)
      omega)
  have hall : ∀ j, j < k → es j = t := by
    intro j hj
    have h4 : (List.range k).countP (fun j => decide (es j = t)) = (List.range k).length := by
      have := List.countP_le_length (p := fun j => decide (es j = t)) (l := List.range k)
      rw [List.length_range] at this ⊢
      omega
    have := List.countP_eq_length.1 h4 j (List.mem_range.2 hj)
    exact of_decide_eq_true this
  exact ⟨ws, fun j hj => by have := h1 j hj; rw [hall j hj] at this; exact this, h2⟩
/-- A walk meets a call that is left out. -/
theorem walk_pen {cs : Cs} {X : Nat → Int → Bool} (hX : ∀ i, i < cs.length → SubX (X i) (X (i + 1))) (hend : X cs.length t = false) :
    ∀ (w : List Nat) (m : Nat) (p : Int), m ≤ cs.length → Asc m w → X m p = true → runW cs w p = some t → ∃ i ∈ w, ∃ c, cs[i]? = some c ∧ penB c (X i) (X (i + 1)) = 1 := by
  have up : ∀ (d m : Nat), m + d ≤ cs.length → SubX (X m) (X (m + d)) := by
    intro d
    induction d with
    | zero => intro m _; exact .refl _
    | succ d ih => intro m h; exact (ih m (by omega)).trans (hX (m + d) (by omega))
  intro w
  induction w with
  | nil =>
    intro m p hm _ hp hr
    cases hr
    have := up (cs.length - m) m (by omega) _ hp
    rw [show m + (cs.length - m) = cs.length by omega, hend] at this
    cases this
  | cons i w ih =>
    intro m p hm ha hp hr
    simp only [runW] at hr
    split at hr
    · rename_i c hc
      have hi : i < cs.length := by
        rcases Nat.lt_or_ge i cs.length with h | h
        · exact h
        · rw [List.getElem?_eq_none h] at hc; cases hc
      have hip : X i p = true := by
        have := up (i - m) m (by have := ha.1; omega) _ hp
        rwa [show m + (i - m) = i by have := ha.1; omega] at this
      by_cases hpen : penB (c, true) (X i) (X (i + 1)) = 1
      · exact ⟨i, List.mem_cons_self, _, hc, hpen⟩
      · have key : (X (i + 1) c.a && X (i + 1) c.b) = true ∨ (c.a ≠ p ∧ c.b ≠ p) := by
          refine Classical.byContradiction fun hno => ?_
          have h1 := fun h => hno (.inl h)
          refine hpen ?_
          simp only [penB, if_true, penC]
          rw [if_pos]
          simp only [Bool.and_eq_true, Bool.or_eq_true, Bool.not_eq_true']
          refine ⟨?_, by simpa using h1⟩
          refine Classical.byContradiction fun h2 => hno (.inr ⟨fun e => h2 (.inl (by rw [e]; exact hip)), fun e => h2 (.inr (by rw [e]; exact hip))⟩)
        have next : ∀ q, X (i + 1) q = true → runW cs w q = some t → ∃ i' ∈ i :: w, ∃ c, cs[i']? = some c ∧ penB c (X i') (X (i' + 1)) = 1 := by
          intro q hq hr
          obtain ⟨i', h1, h2⟩ := ih (i + 1) q (by omega) ha.2 hq hr
          exact ⟨i', List.mem_cons_of_mem _ h1, h2⟩
        split at hr
        · rename_i e
          rcases key with h | h
          · simp only [Bool.and_eq_true] at h
            exact next _ h.2 hr
          · exact absurd e h.1
        · split at hr
          · rename_i e
            rcases key with h | h
            · simp only [Bool.and_eq_true] at h
              exact next _ h.1 hr
            · exact absurd e h.2
          · cases hr
    · cases hr
end
end Go.AM
end

section
namespace Go.AM
open Go.Proofs
def sumR (n : Nat) (f : Nat → Nat) : Nat := ((List.range n).map f).sum
theorem sumR_succ (n : Nat) (f : Nat → Nat) : sumR (n + 1) f = sumR n f + f n := by
  unfold sumR
  rw [List.range_succ, List.map_append, List.sum_append]
  simp
theorem sumR_le {f g : Nat → Nat} : ∀ {n : Nat}, (∀ i, i < n → f i ≤ g i) → sumR n f ≤ sumR n g := by
  intro n
  induction n with
  | zero => intro _; exact Nat.le_refl _
  | succ n ih =>
    intro h
    rw [sumR_succ, sumR_succ]
    have := ih fun i hi => h i (by omega)
    have := h n (by omega)
    omega
theorem sumR_lt {f g : Nat → Nat} {j : Nat} : ∀ {n : Nat}, (∀ i, i < n → f i ≤ g i) → j < n → f j < g j → sumR n f < sumR n g := by
  intro n
  induction n with
  | zero => intro _ h; omega
  | succ n ih =>
    intro h hj hlt
    rw [sumR_succ, sumR_succ]
    by_cases e : j = n
    · subst e
      have := sumR_le (n := j) fun i hi => h i (by omega)
      omega
    · have := ih (fun i hi => h i (by omega)) (by omega) hlt
      have := h n (by omega)
      omega
theorem countP_le1 {p : Nat → Bool} : ∀ {k : Nat}, (∀ j j', j < k → j' < k → p j = true → p j' = true → j = j') → (List.range k).countP p ≤ 1 := by
  intro k
  induction k with
  | zero => intro _; simp
  | succ k ih =>
    intro h
    rw [List.range_succ, List.countP_append, List.countP_cons, List.countP_nil]
    by_cases hk : p k = true
    · have : (List.range k).countP p = 0 := by
        rw [List.countP_eq_zero]
        intro j hj hp
        have hj' := List.mem_range.1 hj
        have := h j k (by omega) (by omega) hp hk
        omega
      rw [if_pos hk]; omega
    · have := ih fun j j' a b => h j j' (by omega) (by omega)
      rw [if_neg hk]; omega
/-- Different places with something at each. -/
theorem sumR_many {f : Nat → Nat} {k : Nat} {g : Nat → Nat} (hd : ∀ j j', j < k → j' < k → g j = g j' → j = j') (hf : ∀ j, j < k → 1 ≤ f (g j)) : ∀ n, (List.range k).countP (fun j => decide (g j < n)) ≤ sumR n f := by
  intro n
  induction n with
  | zero => simp [sumR]
  | succ n ih =>
    rw [sumR_succ]
    have h1 : (List.range k).countP (fun j => decide (g j < n + 1)) = (List.range k).countP (fun j => decide (g j < n)) + (List.range k).countP (fun j => decide (g j = n)) := by
      clear hd hf ih
      induction k with
      | zero => rfl
      | succ k ih =>
        rw [List.range_succ]
        simp only [List.countP_append, List.countP_cons, List.countP_nil, ih, decide_eq_true_eq]
        by_cases a : g k < n
        · rw [if_pos (show g k < n + 1 by omega), if_pos a, if_neg (show ¬ g k = n by omega)]; omega
        · by_cases b : g k = n
          · rw [if_pos (show g k < n + 1 by omega), if_neg a, if_pos b]; omega
          · rw [if_neg (show ¬ g k < n + 1 by omega), if_neg a, if_neg b]; omega
    by_cases hex : ∃ j, j < k ∧ g j = n
    · obtain ⟨j, hj, e⟩ := hex
      have h2 := hf j hj
      rw [e] at h2
      have h3 : (List.range k).countP (fun j => decide (g j = n)) ≤ 1 := countP_le1 fun j j' a b p q => hd j j' a b (by rw [of_decide_eq_true p, of_decide_eq_true q])
      omega
    · have h3 : (List.range k).countP (fun j => decide (g j = n)) = 0 := by
        rw [List.countP_eq_zero]
        intro j hj hp
        exact hex ⟨j, List.mem_range.1 hj, of_decide_eq_true hp⟩
      omega
theorem penS_sum (cs : Cs) (X : Nat → Int → Bool) : penS cs X = sumR cs.length fun i => match cs[i]? with
  | some c => penB c (X i) (X (i + 1))
  | none => 0 := rfl
/-- The calls, but those that are gone. -/
def maskL (l : List Kl) (d : Nat → Bool) : Cs := l.zipIdx.map fun q => (q.1, !d q.2)
theorem maskL_len (l : List Kl) (d : Nat → Bool) : (maskL l d).length = l.length := by simp [maskL]
theorem maskL_get (l : List Kl) (d : Nat → Bool) (i : Nat) : (maskL l d)[i]? = (l[i]?).map fun c => (c, !d i) := by
  unfold maskL
  rw [List.getElem?_map, List.getElem?_zipIdx]
  cases l[i]? <;> simp
theorem penS_mask (l : List Kl) (d : Nat → Bool) (X : Nat → Int → Bool) : penS (maskL l d) X = sumR l.length fun i => match l[i]? with
  | some c => if d i then 0 else penC c (X i) (X (i + 1))
  | none => 0 := by
  rw [penS_sum, maskL_len]
  congr 1
  funext i
  rw [maskL_get]
  cases l[i]? with
  | none => rfl
  | some c => simp only [Option.map_some, penB]; cases d i <;> rfl
section
variable {K : Nat} {t : Int}
theorem GM_len {cs : Cs} {X : Int → Bool} (h : X t = false) : GM K t cs X ≤ cs.length := by
  refine Nat.le_trans (GM_penS cs (fun _ => X) (fun _ _ => .refl _) h) ?_
  rw [penS_sum]
  refine Nat.le_trans (sumR_le (g := fun _ => 1) fun i _ => ?_) ?_
  · split
    · exact penB_le _ _ _
    · omega
  · generalize cs.length = n
    induction n with
    | zero => simp [sumR]
    | succ n ih => rw [sumR_succ]; omega
/-- More calls gone: not more that must be left out. -/
theorem GM_more {l : List Kl} {d d' : Nat → Bool} {X : Int → Bool} (h : ∀ i, d i = true → d' i = true) (hX : X t = false) (hl : l.length < K) : GM K t (maskL l d') X ≤ GM K t (maskL l d) X := by
  have h1 : GM K t (maskL l d) X < K := by have := GM_len (K := K) (cs := maskL l d) hX; rw [maskL_len] at this; omega
  obtain ⟨Xs, e0, hs, he, hp⟩ := GM_seq (maskL l d) X h1
  rw [← hp, ← e0]
  refine Nat.le_trans (GM_penS _ Xs (fun i hi => seq_mono hs i (by rw [maskL_len] at hi ⊢; exact hi)) (by rw [maskL_len] at he ⊢; exact he)) ?_
  rw [penS_mask, penS_mask]
  refine sumR_le fun i _ => ?_
  cases l[i]? with
  | none => exact Nat.le_refl _
  | some c =>
    simp only
    cases hd : d i with
    | true => rw [h i hd]; simp
    | false => cases d' i <;> simp
/-- As many walks apart, as_ many calls must be left out. -/
theorem GM_ge {cs : Cs} {s : Int} {k : Nat} {ws : Nat → List Nat} (hw : ∀ j, j < k → runW cs (ws j) s = some t ∧ Asc 0 (ws j)) (hd : ∀ j j', j < k → j' < k → j ≠ j' → ∀ i ∈ ws j, i ∉ ws j') (hK : k ≤ K) :
    k ≤ GM K t cs (fun p => p == s) := by
  rcases Nat.lt_or_ge (GM K t cs (fun p => p == s)) K with h1 | h1
  · obtain ⟨Xs, e0, hs, he, hp⟩ := GM_seq cs _ h1
    rw [← hp]
    have hm := seq_mono hs
    have pick : ∀ j, ∃ i, j < k → i ∈ ws j ∧ ∃ c, cs[i]? = some c ∧ penB c (Xs i) (Xs (i + 1)) = 1 := by
      intro j
      by_cases hj : j < k
      · obtain ⟨i, h2, h3⟩ := walk_pen hm he (ws j) 0 s (Nat.zero_le _) (hw j hj).2 (by rw [e0]; simp) (hw j hj).1
        exact ⟨i, fun _ => ⟨h2, h3⟩⟩
      · exact ⟨0, fun h => absurd h hj⟩
    obtain ⟨g, hg⟩ := Classical.skolem.1 pick
    have lt : ∀ j, j < k → g j < cs.length := fun j hj => by
      obtain ⟨_, c, hc, _⟩ := hg j hj
      exact (List.getElem?_eq_some_iff.1 hc).1
    have := sumR_many (f := fun i => match cs[i]? with
      | some c => penB c (Xs i) (Xs (i + 1))
      | none => 0) (k := k) (g := g) (fun j j' hj hj' e => Classical.byContradiction fun hne => hd j j' hj hj' hne (g j) (hg j hj).1 (by rw [e]; exact (hg j' hj').1)) (fun j hj => by
        obtain ⟨_, c, hc, hpen⟩ := hg j hj
        simp only [hc, hpen]
        exact Nat.le_refl _) cs.length
    rw [List.countP_eq_length.2 (fun j hj => by simpa using lt j (List.mem_range.1 hj)), List.length_range] at this
    rw [penS_sum]
    exact this
  · omega
/-- Without a walk's calls one less must be left out. -/
theorem GM_walk {l : List Kl} {d d' : Nat → Bool} {s : Int} {w : List Nat} (hw : runW (maskL l d) w s = some t) (ha : Asc 0 w) (hst : s ≠ t) (hl : l.length < K) (hd : ∀ i, d' i = true ↔ d i = true ∨ i ∈ w) :
    GM K t (maskL l d') (fun p => p == s) + 1 ≤ GM K t (maskL l d) (fun p => p == s) := by
  have hX : (fun p => p == s) t = false := by simpa using Ne.symm hst
  have h1 : GM K t (maskL l d) (fun p => p == s) < K := by have := GM_len (K := K) (t := t) (cs := maskL l d) (X := fun p => p == s) hX; rw [maskL_len] at this; omega
  obtain ⟨Xs, e0, hs, he, hp⟩ := GM_seq (maskL l d) _ h1
  have hm := seq_mono hs
  obtain ⟨i, hi, c, hc, hpen⟩ := walk_pen hm he w 0 s (Nat.zero_le _) ha (by rw [e0]; simp) hw
  have h2 := GM_penS (K := K) (t := t) (maskL l d') Xs (fun i hi => hm i (by rw [maskL_len] at hi ⊢; exact hi)) (by rw [maskL_len] at he ⊢; exact he)
  rw [e0] at h2
  rw [← hp]
  refine Nat.lt_of_le_of_lt h2 ?_
  rw [penS_mask, penS_mask]
  have hil : i < l.length := by have := (List.getElem?_eq_some_iff.1 hc).1; rwa [maskL_len] at this
  refine sumR_lt (j := i) (fun i' _ => ?_) hil ?_
  · cases l[i']? with
    | none => exact Nat.le_refl _
    | some c' =>
      simp only
      cases hd1 : d i' with
      | true => rw [(hd i').2 (.inl hd1)]; simp
      | false => cases d' i' <;> simp
  · rw [maskL_get] at hc
    cases hli : l[i]? with
    | none => rw [hli] at hc; cases hc
    | some c' =>
      rw [hli] at hc
      simp only [Option.map_some, Option.some.injEq] at hc
      subst hc
      simp only
      rw [(hd i).2 (.inr hi)]
      simp only [penB] at hpen
      cases hdi : d i with
      | true => rw [hdi] at hpen; simp at hpen
      | false => rw [hdi] at hpen; simp at hpen ⊢; omega
/-- The calls that are there, alone. -/
theorem GM_filter : ∀ (cs : Cs) (X : Int → Bool), GM K t (cs.filter (·.2)) X = GM K t cs X := by
  intro cs
  induction cs with
  | nil => intro X; rfl
  | cons c cs ih =>
    intro X
    obtain ⟨c, b⟩ := c
    cases b with
    | false => simp only [List.filter_cons, Bool.false_eq_true, if_false, GM]; exact ih X
    | true => simp only [List.filter_cons, if_true, GM]; rw [ih, ih]
end
/-- Where one comes along, person by person. -/
def visits (cs : Cs) : List Nat → Int → List Int
  | [], _ => []
  | i :: w, p => match cs[i]? with
    | some (c, true) => if c.a = p then c.b :: visits cs w c.b else if c.b = p then c.a :: visits cs w c.a else []
    | _ => []
theorem walk_drop {cs : Cs} {t : Int} : ∀ (w : List Nat) (q p : Int) (m : Nat), runW cs w q = some t → Asc m w → (q :: visits cs w q).Nodup → p ∈ visits cs w q →
    ∃ w', runW cs w' p = some t ∧ Asc m w' ∧ (p :: visits cs w' p).Nodup ∧ w'.length ≤ w.length ∧ ∀ i ∈ w', i ∈ w := by
  intro w
  induction w with
  | nil => intro q p m _ _ _ hp; cases hp
  | cons i w ih =>
    intro q p m hr ha hn hp
    simp only [runW] at hr
    simp only [visits] at hn hp
    split at hr
    · rename_i c hc
      simp only [hc] at hn hp
      have fin : ∀ x, runW cs w x = some t → (q :: x :: visits cs w x).Nodup → p ∈ x :: visits cs w x → ∃ w', runW cs w' p = some t ∧ Asc m w' ∧ (p :: visits cs w' p).Nodup ∧ w'.length ≤ (i :: w).length ∧ ∀ i' ∈ w', i' ∈ i :: w := by
        intro x h1 h2 h3
        rcases List.mem_cons.1 h3 with rfl | h3
        · exact ⟨w, h1, ha.2.le (by have := ha.1; omega), (List.nodup_cons.1 h2).2, by simp, fun i' hi' => List.mem_cons_of_mem _ hi'⟩
        · obtain ⟨w', g1, g2, g3, g4, g5⟩ := ih x p (i + 1) h1 ha.2 (List.nodup_cons.1 h2).2 h3
          exact ⟨w', g1, g2.le (by have := ha.1; omega), g3, by simp; omega, fun i' hi' => List.mem_cons_of_mem _ (g5 i' hi')⟩
      split at hr
      · rename_i e
        rw [if_pos e] at hn hp
        exact fin _ hr hn hp
      · rename_i e
        rw [if_neg e] at hn hp
        split at hr
        · rename_i e2
          rw [if_pos e2] at hn hp
          exact fin _ hr hn hp
        · cases hr
    · cases hr
theorem walk_way {cs : Cs} {t : Int} (hne : ∀ (i : Nat) (c : Kl × Bool), cs[i]? = some c → c.1.a ≠ c.1.b) : ∀ (w : List Nat) (p : Int) (m : Nat), runW cs w p = some t → Asc m w →
    ∃ w', runW cs w' p = some t ∧ Asc m w' ∧ (p :: visits cs w' p).Nodup ∧ ∀ i ∈ w', i ∈ w := by
  intro w
  induction w with
  | nil => intro p m h _; exact ⟨[], h, trivial, by simp [visits], fun i hi => hi⟩
  | cons i w ih =>
    intro p m hr ha
    have hr0 := hr
    simp only [runW] at hr
    split at hr
    · rename_i c hc
      have fin : ∀ x, runW cs w x = some t → x ≠ p → (∀ w', runW cs (i :: w') p = runW cs w' x ∧ visits cs (i :: w') p = x :: visits cs w' x) → ∃ w', runW cs w' p = some t ∧ Asc m w' ∧ (p :: visits cs w' p).Nodup ∧ ∀ i' ∈ w', i' ∈ i :: w := by
        intro x h1 hxp hst
        obtain ⟨w', g1, g2, g3, g4⟩ := ih x (i + 1) h1 ha.2
        by_cases hp : p ∈ visits cs w' x
        · obtain ⟨w2, k1, k2, k3, _, k5⟩ := walk_drop w' x p (i + 1) g1 g2 g3 hp
          exact ⟨w2, k1, k2.le (by have := ha.1; omega), k3, fun i' hi' => List.mem_cons_of_mem _ (g4 _ (k5 _ hi'))⟩
        · refine ⟨i :: w', by rw [(hst w').1]; exact g1, ⟨ha.1, g2⟩, ?_, fun i' hi' => ?_⟩
          · rw [(hst w').2]
            refine List.nodup_cons.2 ⟨?_, g3⟩
            simp only [List.mem_cons, not_or]
            exact ⟨Ne.symm hxp, hp⟩
          · rcases List.mem_cons.1 hi' with rfl | hi'
            · exact List.mem_cons_self
            · exact List.mem_cons_of_mem _ (g4 _ hi')
      have hab := hne i _ hc
      split at hr
      · rename_i e
        refine fin c.b hr (by rw [← e]; exact Ne.symm hab) fun w' => ?_
        simp only [runW, visits, hc, if_pos e, and_self]
      · rename_i e
        split at hr
        · rename_i e2
          refine fin c.a hr e fun w' => ?_
          simp only [runW, visits, hc, if_neg e, if_pos e2, and_self]
        · cases hr
    · cases hr
end Go.AM
end

section
namespace Go.AM
open Go.Proofs
/-- A person at a time, or an end of a call. -/
structure Sp where
  p : Int
  t : Int
  g : Bool
  deriving DecidableEq
def Sp.cells (x : Sp) : List Value := [iv x.p, iv x.t, .bool x.g]
abbrev Sp.val (x : Sp) : Value := .agg #[iv x.p, iv x.t, .bool x.g]
abbrev encA (a : Sp × Sp) : Value := .agg #[iv a.1.p, iv a.1.t, .bool a.1.g, iv a.2.p, iv a.2.t, .bool a.2.g]
theorem under115 : Try.prog.underlying 115 = some (.map 120 3) := by kernel_rfl
theorem under116 : Try.prog.underlying 116 = some (.map 113 134) := by kernel_rfl
theorem under133 : Try.prog.underlying 133 = some (.map 113 113) := by kernel_rfl
theorem under134 : Try.prog.underlying 134 = some (.slice 113) := by kernel_rfl
theorem zero134 : zero? Try.prog 134 = some (.slice none 0 0) := by kernel_rfl
theorem zero113 : zero? Try.prog 113 = some (Sp.val ⟨0, 0, false⟩) := by kernel_rfl
theorem eqS (d : Nat) (x y : Sp) (hd : d = 10 ∨ d = 9) : eqV Try.prog d 113 x.val y.val = some (decide (x = y)) := by
  have h : ∀ (a b c a' b' c' : Value), True := fun _ _ _ _ _ _ => trivial
  have e : eqV Try.prog d 113 x.val y.val = (some (x.p == y.p)).bind fun q => if q then (some (x.t == y.t)).bind fun q => if q then (some (x.g == y.g)).bind fun q => if q then some true else some false else some false else some false := by
    rcases hd with rfl | rfl
    · kernel_rfl
    · kernel_rfl
  rw [e]
  obtain ⟨p, t, g⟩ := x
  obtain ⟨p', t', g'⟩ := y
  simp only [Option.bind_some, Sp.mk.injEq]
  by_cases h1 : p = p' <;> by_cases h2 : t = t' <;> by_cases h3 : g = g' <;> simp [h1, h2, h3]
theorem eqA (x y : Sp × Sp) : eqV Try.prog 10 120 (encA x) (encA y) = some (decide (x = y)) := by
  have e : eqV Try.prog 10 120 (encA x) (encA y) = (eqV Try.prog 9 113 x.1.val y.1.val).bind fun q => if q then (eqV Try.prog 9 113 x.2.val y.2.val).bind fun q => if q then some true else some false else some false := by kernel_rfl
  rw [e, eqS 9 _ _ (.inr rfl), eqS 9 _ _ (.inr rfl)]
  obtain ⟨a, b⟩ := x
  obtain ⟨a', b'⟩ := y
  simp only [Option.bind_some, Prod.mk.injEq]
  by_cases h1 : a = a' <;> by_cases h2 : b = b' <;> simp [h1, h2]
theorem keyS : Key Try.prog 113 Sp.val where
  eq x y := eqS 10 x y (.inl rfl)
  plain x := rfl
  ty := by kernel_rfl
  bits x := by
    obtain ⟨p, t, g⟩ := x
    simp [Instr.sameBits]
theorem keyA : Key Try.prog 120 encA where
  eq := eqA
  plain x := rfl
  ty := by kernel_rfl
  bits x := by
    obtain ⟨⟨p, t, g⟩, p', t', g'⟩ := x
    simp [Instr.sameBits]
section
variable {R : Type}
theorem kbld113 (p t : Int) (g : Bool) (K : Value → Option R) : bld Try.prog 113 [(0, .int .i64 p), (1, .int .i64 t), (2, .bool g)] K = K (Sp.val ⟨p, t, g⟩) := bld_some (by kernel_rfl)
theorem kbld120 (a b : Sp) (K : Value → Option R) : bld Try.prog 120 [(0, .agg #[.int .i64 a.p, .int .i64 a.t, .bool a.g]), (1, .agg #[.int .i64 b.p, .int .i64 b.t, .bool b.g])] K = K (encA (a, b)) := bld_some (by kernel_rfl)
theorem bls134 (x : Sp) (h : H) : buildSlice Try.prog 134 1 [(0, .agg #[.int .i64 x.p, .int .i64 x.t, .bool x.g])] h = some (.slice (some ⟨h.nx, 0, none⟩) 1 1, h.new (.row x.cells 113 true)) := by kernel_rfl
theorem app134 : okApp Try.prog 134 113 3 = true := by kernel_rfl
end
end Go.AM
end

section
namespace Go.AM
open Go.Proofs
abbrev at' (p : Int) (i : Nat) : Sp := ⟨p, i, false⟩
abbrev inS (i : Nat) : Sp := ⟨0, (i : Int) + 1, true⟩
abbrev outS (i : Nat) : Sp := ⟨1, (i : Int) + 1, true⟩
/-- An arc, and how much room it has. -/
abbrev Arc := Sp × Sp × Int
def waits (n : Nat) (i : Nat) : List Arc := (List.range n).map fun (p : Nat) => (at' (p : Int) i, at' (p : Int) (i + 1), 1000)
def gates (c : Kl) (i : Nat) : List Arc := [(at' c.a i, inS i, 1), (outS i, at' c.a (i + 1), 1), (at' c.b i, inS i, 1), (outS i, at' c.b (i + 1), 1), (inS i, outS i, 1)]
/-- What is joined for a call. -/
def chunk (n : Nat) (l : List Kl) (d : Nat → Bool) (i : Nat) : List Arc :=
  match l[i]? with
  | some c => waits n i ++ if d i then [] else gates c i
  | none => []
def baseA (n : Nat) (l : List Kl) (d : Nat → Bool) (m : Nat) : List Arc := (List.range m).flatMap (chunk n l d)
def sumI (n : Nat) (f : Nat → Int) : Int := ((List.range n).map f).sum
theorem sumI_succ (n : Nat) (f : Nat → Int) : sumI (n + 1) f = sumI n f + f n := by
  unfold sumI
  rw [List.range_succ, List.map_append, List.sum_append]
  simp
theorem sumI_le {f : Nat → Int} {g : Nat → Nat} : ∀ {n : Nat}, (∀ i, i < n → f i ≤ (g i : Int)) → sumI n f ≤ (sumR n g : Int) := by
  intro n
  induction n with
  | zero => intro _; simp [sumI, sumR]
  | succ n ih =>
    intro h
    rw [sumI_succ, sumR_succ]
    have := ih fun i hi => h i (by omega)
    have := h n (by omega)
    omega
theorem sumI_ge {f : Nat → Int} {g : Nat → Nat} : ∀ {n : Nat}, (∀ i, i < n → (g i : Int) ≤ f i) → (sumR n g : Int) ≤ sumI n f := by
  intro n
  induction n with
  | zero => intro _; simp [sumI, sumR]
  | succ n ih =>
    intro h
    rw [sumI_succ, sumR_succ]
    have := ih fun i hi => h i (by omega)
    have := h n (by omega)
    omega
/-- What flows out of a potential. -/
def flux (r : Sp → Sp → Int) (χ : Sp → Int) (a : Arc) : Int := r a.2.1 a.1 * (χ a.1 - χ a.2.1)
def net (B : List Arc) (r : Sp → Sp → Int) (χ : Sp → Int) : Int := (B.map (flux r χ)).sum
theorem net_base (n : Nat) (l : List Kl) (d : Nat → Bool) (r : Sp → Sp → Int) (χ : Sp → Int) (m : Nat) : net (baseA n l d m) r χ = sumI m fun i => net (chunk n l d i) r χ := by
  induction m with
  | zero => rfl
  | succ m ih =>
    rw [sumI_succ, ← ih]
    unfold net baseA
    rw [List.range_succ, List.flatMap_append, List.map_append, List.sum_append]
    simp
/-- A flow of k ways. -/
structure FlowOk (B : List Arc) (r : Sp → Sp → Int) (k : Nat) (S T : Sp) : Prop where
  nn : ∀ a ∈ B, 0 ≤ r a.1 a.2.1 ∧ 0 ≤ r a.2.1 a.1 ∧ r a.1 a.2.1 + r a.2.1 a.1 = a.2.2
  bal : ∀ χ : Sp → Int, net B r χ = k * (χ S - χ T)
theorem sum_nonneg : ∀ {L : List Int}, (∀ x ∈ L, 0 ≤ x) → 0 ≤ L.sum := by
  intro L
  induction L with
  | nil => intro _; simp
  | cons x L ih =>
    intro h
    have := ih fun y hy => h y (List.mem_cons_of_mem _ hy)
    have := h x List.mem_cons_self
    rw [List.sum_cons]
    omega
theorem sum_nonpos : ∀ {L : List Int}, (∀ x ∈ L, x ≤ 0) → L.sum ≤ 0 := by
  intro L
  induction L with
  | nil => intro _; simp
  | cons x L ih =>
    intro h
    have := ih fun y hy => h y (List.mem_cons_of_mem _ hy)
    have := h x List.mem_cons_self
    rw [List.sum_cons]
    omega
theorem sum_mem : ∀ {L : List Int} {x : Int}, (∀ x ∈ L, 0 ≤ x) → x ∈ L → x ≤ L.sum := by
  intro L
  induction L with
  | nil => intro x _ h; cases h
  | cons y L ih =>
    intro x h hx
    rw [List.sum_cons]
    have h0 := sum_nonneg fun z hz => h z (List.mem_cons_of_mem _ hz)
    have h1 := h y List.mem_cons_self
    rcases List.mem_cons.1 hx with rfl | hx
    · omega
    · have := ih (fun z hz => h z (List.mem_cons_of_mem _ hz)) hx
      omega
/-- One if it is so. -/
def b2 (b : Bool) : Int := if b then 1 else 0
theorem b2_le {a b : Bool} (h : a = true → b = true) : b2 a ≤ b2 b := by cases a <;> cases b <;> simp_all [b2]
/-- A set of spots for a sequence of sets. -/
def chiX (l : List Kl) (u : Nat → Bool) (X : Nat → Int → Bool) (x : Sp) : Int :=
  if x.g then
    match l[(x.t - 1).toNat]? with
    | some c => b2 (if x.p = 0 then X (x.t - 1).toNat c.a || X (x.t - 1).toNat c.b else u (x.t - 1).toNat && (X x.t.toNat c.a && X x.t.toNat c.b))
    | none => 0
  else b2 (X x.t.toNat x.p)
theorem chi_at (l : List Kl) (u : Nat → Bool) (X : Nat → Int → Bool) (p : Int) (i : Nat) : chiX l u X (at' p i) = b2 (X i p) := by simp [chiX]
theorem chi_in {l : List Kl} {u : Nat → Bool} {X : Nat → Int → Bool} {i : Nat} {c : Kl} (hc : l[i]? = some c) : chiX l u X (inS i) = b2 (X i c.a || X i c.b) := by
  unfold chiX
  rw [if_pos rfl]
  simp only [show ((i : Int) + 1 - 1).toNat = i by omega, hc, if_true]
theorem chi_out {l : List Kl} {u : Nat → Bool} {X : Nat → Int → Bool} {i : Nat} {c : Kl} (hc : l[i]? = some c) : chiX l u X (outS i) = b2 (u i && (X (i + 1) c.a && X (i + 1) c.b)) := by
  unfold chiX
  rw [if_pos rfl]
  simp only [show ((i : Int) + 1 - 1).toNat = i by omega, show ((i : Int) + 1).toNat = i + 1 by omega, hc]
  rw [if_neg (by omega)]
section
variable {n : Nat} {l : List Kl} {d : Nat → Bool} {r : Sp → Sp → Int} {k : Nat} {s t : Int}
theorem mem_chunk {a : Arc} {i : Nat} (hi : i < l.length) (h : a ∈ chunk n l d i) : a ∈ baseA n l d l.length := List.mem_flatMap.2 ⟨i, List.mem_range.2 hi, h⟩
/-- No more flows than may pass a cut. (u: through which something flows.) -/
theorem flow_le (f : FlowOk (baseA n l d l.length) r k (at' s 0) (at' t l.length)) {u : Nat → Bool} (hu : ∀ i, i < l.length → d i = false → u i = false → r (outS i) (inS i) ≤ 0)
    {X : Nat → Int → Bool} (hX : ∀ i, i < l.length → SubX (X i) (X (i + 1))) (h0 : X 0 s = true) (h1 : X l.length t = false) :
    k ≤ penS (maskL l fun i => d i || !u i) X := by
  have hb := f.bal (chiX l u X)
  rw [net_base] at hb
  rw [show chiX l u X (at' s 0) = 1 by rw [chi_at, h0]; rfl, show chiX l u X (at' t l.length) = 0 by rw [chi_at, h1]; rfl] at hb
  rw [penS_mask]
  have key : sumI l.length (fun i => net (chunk n l d i) r (chiX l u X)) ≤ _ := sumI_le (g := fun i => match l[i]? with
    | some c => if d i || !u i then 0 else penC c (X i) (X (i + 1))
    | none => 0) fun i hi => by
      obtain ⟨c, hc⟩ : ∃ c, l[i]? = some c := ⟨_, List.getElem?_eq_getElem hi⟩
      simp only [hc]
      have pos : ∀ a ∈ chunk n l d i, 0 ≤ r a.2.1 a.1 := fun a ha => (f.nn a (mem_chunk hi ha)).2.1
      unfold chunk at pos ⊢
      simp only [hc] at pos ⊢
      unfold net
      rw [List.map_append, List.sum_append]
      have hw : ((waits n i).map (flux r (chiX l u X))).sum ≤ 0 := by
        refine sum_nonpos fun x hx => ?_
        obtain ⟨a, ha, rfl⟩ := List.mem_map.1 hx
        have hp := pos a (List.mem_append_left _ ha)
        obtain ⟨p, _, rfl⟩ := List.mem_map.1 ha
        simp only [flux] at hp ⊢
        rw [chi_at, show ((at' (p : Int) (i + 1)) : Sp) = at' (p : Int) (i + 1) from rfl, chi_at]
        have := b2_le (hX i hi (p : Int))
        exact Int.mul_nonpos_of_nonneg_of_nonpos hp (by omega)
      cases hd : d i with
      | true => simp only [hd, if_true, List.map_nil, List.sum_nil] at hw ⊢; simp; omega
      | false =>
        simp only [hd, Bool.false_eq_true, if_false] at pos ⊢
        have g1 := pos (at' c.a i, inS i, 1) (List.mem_append_right _ (by simp [gates]))
        have g2 := pos (outS i, at' c.a (i + 1), 1) (List.mem_append_right _ (by simp [gates]))
        have g3 := pos (at' c.b i, inS i, 1) (List.mem_append_right _ (by simp [gates]))
        have g4 := pos (outS i, at' c.b (i + 1), 1) (List.mem_append_right _ (by simp [gates]))
        have g5 := pos (inS i, outS i, 1) (List.mem_append_right _ (by simp [gates]))
        have q5 := f.nn (inS i, outS i, 1) (mem_chunk hi (by simp [chunk, hc, hd, gates]))
        simp only at g1 g2 g3 g4 g5 q5
        simp only [gates, List.map_cons, List.map_nil, List.sum_cons, List.sum_nil, flux]
        rw [chi_at, chi_in hc, chi_out hc, chi_at, chi_at, chi_at]
        have e1 : r (inS i) (at' c.a i) * (b2 (X i c.a) - b2 (X i c.a || X i c.b)) ≤ 0 := Int.mul_nonpos_of_nonneg_of_nonpos g1 (by have := b2_le (a := X i c.a) (b := X i c.a || X i c.b) (fun h => by simp [h]); omega)
        have e2 : r (at' c.a (i + 1)) (outS i) * (b2 (u i && (X (i + 1) c.a && X (i + 1) c.b)) - b2 (X (i + 1) c.a)) ≤ 0 := Int.mul_nonpos_of_nonneg_of_nonpos g2 (by have := b2_le (a := u i && (X (i + 1) c.a && X (i + 1) c.b)) (b := X (i + 1) c.a) (fun h => by simp at h; exact h.2.1); omega)
        have e3 : r (inS i) (at' c.b i) * (b2 (X i c.b) - b2 (X i c.a || X i c.b)) ≤ 0 := Int.mul_nonpos_of_nonneg_of_nonpos g3 (by have := b2_le (a := X i c.b) (b := X i c.a || X i c.b) (fun h => by simp [h]); omega)
        have e4 : r (at' c.b (i + 1)) (outS i) * (b2 (u i && (X (i + 1) c.a && X (i + 1) c.b)) - b2 (X (i + 1) c.b)) ≤ 0 := Int.mul_nonpos_of_nonneg_of_nonpos g4 (by have := b2_le (a := u i && (X (i + 1) c.a && X (i + 1) c.b)) (b := X (i + 1) c.b) (fun h => by simp at h; exact h.2.2); omega)
        have e5 : r (outS i) (inS i) * (b2 (X i c.a || X i c.b) - b2 (u i && (X (i + 1) c.a && X (i + 1) c.b))) ≤ ((if (false || !u i) = true then 0 else penC c (X i) (X (i + 1)) : Nat) : Int) := by
          cases hui : u i with
          | false =>
            have := hu i hi hd hui
            have h0 : r (outS i) (inS i) = 0 := by omega
            rw [h0]; simp
          | true =>
            simp only [Bool.true_and, Bool.not_true, Bool.or_false, Bool.false_eq_true, if_false]
            unfold penC
            have hle : r (outS i) (inS i) ≤ 1 := by omega
            cases hm : (X i c.a || X i c.b) <;> cases hn : (X (i + 1) c.a && X (i + 1) c.b) <;> simp [b2] <;> omega
        omega
  rw [show ((k : Int) * (1 - 0)) = k by omega] at hb
  rw [hb] at key
  exact Int.ofNat_le.1 key
/-- Where no way more can be found, a cut is full. -/
theorem flow_ge (f : FlowOk (baseA n l d l.length) r k (at' s 0) (at' t l.length)) (hp : ∀ (i : Nat) (c : Kl), l[i]? = some c → (0 ≤ c.a ∧ c.a < n) ∧ (0 ≤ c.b ∧ c.b < n)) (hl : l.length < 1000) (hst : s ≠ t) (hs : 0 ≤ s ∧ s < n) (ht : 0 ≤ t ∧ t < n)
    {R : Sp → Bool} (h0 : R (at' s 0) = true) (h1 : R (at' t l.length) = false)
    (hR : ∀ a ∈ baseA n l d l.length, (R a.1 = true → R a.2.1 = false → r a.1 a.2.1 = 0) ∧ (R a.2.1 = true → R a.1 = false → r a.2.1 a.1 = 0)) :
    k = GM 1000 t (maskL l d) (fun p => p == s) := by
  have hle : ∀ X : Nat → Int → Bool, (∀ i, i < l.length → SubX (X i) (X (i + 1))) → X 0 s = true → X l.length t = false → k ≤ penS (maskL l d) X := by
    intro X hX h0 h1
    have := flow_le f (u := fun _ => true) (fun i _ _ h => by cases h) hX h0 h1
    simpa using this
  have hX0 : (fun p => p == s) t = false := by simpa using Ne.symm hst
  have hlen := GM_len (K := 1000) (t := t) (cs := maskL l d) (X := fun p => p == s) hX0
  rw [maskL_len] at hlen
  obtain ⟨Xs, e0, hs', he, hpn⟩ := GM_seq (K := 1000) (t := t) (maskL l d) (fun p => p == s) (by omega)
  have hm := seq_mono hs'
  rw [maskL_len] at he hm
  have k1 := hle Xs hm (by rw [e0]; simp) he
  rw [hpn] at k1
  -- the cut of what is reached
  have hb := f.bal fun x => b2 (R x)
  rw [net_base] at hb
  simp only [h0, h1] at hb
  rw [show ((k : Int) * (b2 true - b2 false)) = k by simp [b2]] at hb
  have term : ∀ a ∈ baseA n l d l.length, 0 ≤ flux r (fun x => b2 (R x)) a ∧ (R a.1 = true → R a.2.1 = false → flux r (fun x => b2 (R x)) a = a.2.2) := by
    intro a ha
    obtain ⟨n1, n2, n3⟩ := f.nn a ha
    obtain ⟨r1, r2⟩ := hR a ha
    rw [show flux r (fun x => b2 (R x)) a = r a.2.1 a.1 * (b2 (R a.1) - b2 (R a.2.1)) from rfl]
    cases hu : R a.1 with
    | false =>
      cases hv : R a.2.1 with
      | false => simp [b2]
      | true => have := r2 hv hu; simp [b2, this]
    | true =>
      cases hv : R a.2.1 with
      | false => have := r1 hu hv; simp [b2]; omega
      | true => simp [b2]
  have pos : ∀ i, i < l.length → ∀ x ∈ (chunk n l d i).map (flux r fun x => b2 (R x)), 0 ≤ x := by
    intro i hi x hx
    obtain ⟨a, ha, rfl⟩ := List.mem_map.1 hx
    exact (term a (mem_chunk hi ha)).1
  have big : ∀ i, i < l.length → net (chunk n l d i) r (fun x => b2 (R x)) ≤ k := by
    intro i hi
    rw [← hb]
    have h2 : ∀ m, m ≤ l.length → i < m → net (chunk n l d i) r (fun x => b2 (R x)) ≤ sumI m fun i => net (chunk n l d i) r fun x => b2 (R x) := by
      intro m
      induction m with
      | zero => intro _ h; omega
      | succ m ih =>
        intro hm1 him
        rw [sumI_succ]
        have hnn : ∀ m, m ≤ l.length → 0 ≤ sumI m fun i => net (chunk n l d i) r fun x => b2 (R x) := by
          intro m
          induction m with
          | zero => intro _; simp [sumI]
          | succ m ih => intro h; rw [sumI_succ]; have := ih (by omega); have := sum_nonneg (pos m (by omega)); unfold net at *; omega
        by_cases e : i = m
        · subst e; have := hnn i (by omega); omega
        · have := ih (by omega) (by omega); have := sum_nonneg (pos m (by omega)); unfold net at *; omega
    exact h2 _ (Nat.le_refl _) hi
  have mono : ∀ i, i < l.length → ∀ p : Int, 0 ≤ p → p < n → R (at' p i) = true → R (at' p (i + 1)) = true := by
    intro i hi p hp0 hp1 hr
    refine Classical.byContradiction fun hno => ?_
    have hv : R (at' p (i + 1)) = false := by simpa using hno
    obtain ⟨c, hc⟩ : ∃ c, l[i]? = some c := ⟨_, List.getElem?_eq_getElem hi⟩
    have ha : (at' p i, at' p (i + 1), (1000 : Int)) ∈ chunk n l d i := by
      unfold chunk
      simp only [hc]
      refine List.mem_append_left _ (List.mem_map.2 ⟨p.toNat, List.mem_range.2 (by omega), ?_⟩)
      rw [show ((p.toNat : Nat) : Int) = p by omega]
    have h2 := (term _ (mem_chunk hi ha)).2 hr hv
    have h3 := sum_mem (pos i hi) (List.mem_map.2 ⟨_, ha, rfl⟩)
    rw [h2] at h3
    have h4 := big i hi
    unfold net at h4
    simp only at h3
    omega
  have hX : ∀ i, i < l.length → SubX (fun p => R (at' p i) && decide (0 ≤ p ∧ p < n)) (fun p => R (at' p (i + 1)) && decide (0 ≤ p ∧ p < n)) := by
    intro i hi p h
    simp only [Bool.and_eq_true, decide_eq_true_eq] at h ⊢
    exact ⟨mono i hi p h.2.1 h.2.2 h.1, h.2⟩
  have hG := GM_penS (K := 1000) (t := t) (maskL l d) (fun i p => R (at' p i) && decide (0 ≤ p ∧ p < n)) (fun i hi => hX i (by rwa [maskL_len] at hi)) (by rw [maskL_len]; simp [h1])
  have hG0 := GM_mono (K := 1000) (t := t) (maskL l d) (X := fun p => p == s) (Y := fun p => R (at' p 0) && decide (0 ≤ p ∧ p < n)) (fun p hp => by
    rw [beq_iff_eq] at hp
    subst hp
    simp [h0, hs])
  rw [penS_mask] at hG
  have hS : ((sumR l.length fun i => match l[i]? with
    | some c => if d i then 0 else penC c (fun p => R (at' p i) && decide (0 ≤ p ∧ p < n)) (fun p => R (at' p (i + 1)) && decide (0 ≤ p ∧ p < n))
    | none => 0 : Nat) : Int) ≤ k := by
    rw [← hb]
    refine sumI_ge fun i hi => ?_
    obtain ⟨c, hc⟩ : ∃ c, l[i]? = some c := ⟨_, List.getElem?_eq_getElem hi⟩
    obtain ⟨pa, pb⟩ := hp i c hc
    simp only [hc]
    have p0 : 0 ≤ net (chunk n l d i) r (fun x => b2 (R x)) := sum_nonneg (pos i hi)
    cases hd : d i with
    | true => simp only [if_true]; exact p0
    | false =>
      simp only [Bool.false_eq_true, if_false]
      have cut : ∀ u v : Sp, (u, v, (1 : Int)) ∈ gates c i → R u = true → R v = false → (1 : Int) ≤ net (chunk n l d i) r (fun x => b2 (R x)) := by
        intro u v hg hu hv
        have ha : (u, v, (1 : Int)) ∈ chunk n l d i := by
          unfold chunk
          simp only [hc, hd, Bool.false_eq_true, if_false]
          exact List.mem_append_right _ hg
        have h2 := (term _ (mem_chunk hi ha)).2 hu hv
        have h3 := sum_mem (pos i hi) (List.mem_map.2 ⟨_, ha, rfl⟩)
        rw [h2] at h3
        exact h3
      unfold penC
      split
      · rename_i hc1
        simp only [pa, pb, and_self, decide_true, Bool.and_true, Bool.and_eq_true, Bool.or_eq_true, Bool.not_eq_true'] at hc1
        obtain ⟨hin, hout⟩ := hc1
        show (1 : Int) ≤ _
        cases h2 : R (inS i) with
        | false =>
          rcases hin with h | h
          · exact cut _ _ (by simp [gates]) h h2
          · exact cut (at' c.b i) (inS i) (by simp [gates]) h h2
        | true =>
          cases h3 : R (outS i) with
          | false => exact cut (inS i) (outS i) (by simp [gates]) h2 h3
          | true =>
            cases h4 : R (at' c.a (i + 1)) with
            | false => exact cut (outS i) (at' c.a (i + 1)) (by simp [gates]) h3 h4
            | true =>
              rw [h4] at hout
              simp only [Bool.true_and] at hout
              exact cut (outS i) (at' c.b (i + 1)) (by simp [gates]) h3 hout
      · exact p0
  have : GM 1000 t (maskL l d) (fun p => p == s) ≤ k := by
    refine Nat.le_trans hG0 (Nat.le_trans hG ?_)
    exact Int.ofNat_le.1 hS
  omega
end
end Go.AM
end

section
namespace Go.AM
open Go.Proofs
/-- The arcs are different, and none is another one backward. -/
def ApartA (a b : Arc) : Prop := (a.1, a.2.1) ≠ (b.1, b.2.1) ∧ (a.1, a.2.1) ≠ (b.2.1, b.1)
structure SimpB (B : List Arc) : Prop where
  pw : B.Pairwise ApartA
  ne : ∀ a ∈ B, a.1 ≠ a.2.1
/-- The index of an arc's call. -/
def idxA (a : Arc) : Int := if a.1.g then a.1.t - 1 else a.1.t
theorem chunk_cases {n : Nat} {l : List Kl} {d : Nat → Bool} {i : Nat} {a : Arc} (h : a ∈ chunk n l d i) : (∃ p : Nat, p < n ∧ a = (at' p i, at' p (i + 1), 1000)) ∨
    (d i = false ∧ ∃ c, l[i]? = some c ∧ a ∈ gates c i) := by
  unfold chunk at h
  split at h
  · rename_i c hc
    rcases List.mem_append.1 h with h | h
    · obtain ⟨p, hp, e⟩ := List.mem_map.1 h
      exact .inl ⟨p, List.mem_range.1 hp, e.symm⟩
    · cases hd : d i with
      | true => rw [hd] at h; simp at h
      | false => rw [hd] at h; exact .inr ⟨rfl, c, hc, by simpa using h⟩
  · cases h
theorem gates_cases {c : Kl} {i : Nat} {a : Arc} (h : a ∈ gates c i) : a = (at' c.a i, inS i, 1) ∨ a = (outS i, at' c.a (i + 1), 1) ∨ a = (at' c.b i, inS i, 1) ∨ a = (outS i, at' c.b (i + 1), 1) ∨ a = (inS i, outS i, 1) := by
  simpa [gates] using h
/-- From when to when an arc goes: a beginning, twice its time and one more at a call. -/
def whenA (x : Sp) : Int := if x.g then 4 * x.t - 3 + x.p else 4 * x.t
theorem chunk_when {n : Nat} {l : List Kl} {d : Nat → Bool} {i : Nat} {a : Arc} (h : a ∈ chunk n l d i) : whenA a.1 < whenA a.2.1 ∧ idxA a = i := by
  rcases chunk_cases h with ⟨p, _, rfl⟩ | ⟨_, c, _, hg⟩
  · simp [whenA, idxA]; omega
  · rcases gates_cases hg with rfl | rfl | rfl | rfl | rfl <;> simp [whenA, idxA] <;> omega
theorem base_mem {n : Nat} {l : List Kl} {d : Nat → Bool} {m : Nat} {a : Arc} : a ∈ baseA n l d m ↔ ∃ i, i < m ∧ a ∈ chunk n l d i := by
  unfold baseA
  rw [List.mem_flatMap]
  simp [List.mem_range]
theorem apart_of {a b : Arc} (ha : whenA a.1 < whenA a.2.1) (hb : whenA b.1 < whenA b.2.1) (h : (a.1, a.2.1) ≠ (b.1, b.2.1)) : ApartA a b := by
  refine ⟨h, fun e => ?_⟩
  simp only [Prod.mk.injEq] at e
  rw [e.1, e.2] at ha
  omega
theorem base_simp {n : Nat} {l : List Kl} {d : Nat → Bool} {m : Nat} (hne : ∀ (i : Nat) (c : Kl), l[i]? = some c → c.a ≠ c.b) : SimpB (baseA n l d m) where
  pw := by
    unfold baseA
    rw [List.pairwise_flatMap]
    refine ⟨fun i _ => ?_, ?_⟩
    · unfold chunk
      split
      · rename_i c hc
        rw [List.pairwise_append]
        refine ⟨?_, ?_, ?_⟩
        · unfold waits
          rw [List.pairwise_map]
          refine List.Pairwise.imp ?_ List.nodup_range
          intro p q hpq
          refine apart_of (by simp [whenA]; omega) (by simp [whenA]; omega) fun e => hpq ?_
          simp only [Prod.mk.injEq, Sp.mk.injEq] at e
          omega
        · split
          · exact List.Pairwise.nil
          · have hab := hne i c hc
            unfold gates ApartA
            simp [List.pairwise_cons, inS, outS, at', hab, Ne.symm hab]
        · intro a ha b hb
          obtain ⟨p, _, rfl⟩ := List.mem_map.1 ha
          split at hb
          · cases hb
          · unfold ApartA
            rcases gates_cases hb with rfl | rfl | rfl | rfl | rfl <;> simp [inS, outS, at']
      · exact List.Pairwise.nil
    · refine List.Pairwise.imp ?_ List.nodup_range
      intro i j hij a ha b hb
      obtain ⟨a1, a2⟩ := chunk_when ha
      obtain ⟨b1, b2⟩ := chunk_when hb
      refine apart_of a1 b1 fun e => hij ?_
      simp only [Prod.mk.injEq] at e
      have : idxA a = idxA b := by unfold idxA; rw [e.1]
      omega
  ne := by
    intro a ha e
    obtain ⟨i, _, hi⟩ := base_mem.1 ha
    have := (chunk_when hi).1
    rw [e] at this
    omega
/-- One way goes along x, y. -/
def stepR (r : Sp → Sp → Int) (x y : Sp) : Sp → Sp → Int := fun u v => if u = x ∧ v = y then r u v - 1 else if u = y ∧ v = x then r u v + 1 else r u v
def onA (B : List Arc) (x y : Sp) : Prop := ∃ a ∈ B, (a.1 = x ∧ a.2.1 = y) ∨ (a.1 = y ∧ a.2.1 = x)
theorem flux_step {r : Sp → Sp → Int} {χ : Sp → Int} {x y : Sp} (hxy : x ≠ y) (a : Arc) : flux (stepR r x y) χ a = flux r χ a + if (a.1 = x ∧ a.2.1 = y) ∨ (a.1 = y ∧ a.2.1 = x) then χ x - χ y else 0 := by
  obtain ⟨u, v, c⟩ := a
  simp only [flux, stepR]
  by_cases h1 : v = x ∧ u = y
  · obtain ⟨rfl, rfl⟩ := h1
    rw [if_pos ⟨rfl, rfl⟩, if_pos (.inr ⟨rfl, rfl⟩), Int.sub_mul]
    omega
  · by_cases h2 : v = y ∧ u = x
    · obtain ⟨rfl, rfl⟩ := h2
      rw [if_neg h1, if_pos ⟨rfl, rfl⟩, if_pos (.inl ⟨rfl, rfl⟩), Int.add_mul]
      omega
    · rw [if_neg h1, if_neg h2, if_neg (fun h => h.elim (fun h => h2 ⟨h.2, h.1⟩) (fun h => h1 ⟨h.2, h.1⟩))]
      omega
theorem net_step {B : List Arc} (sb : SimpB B) {r : Sp → Sp → Int} {χ : Sp → Int} {x y : Sp} (hxy : x ≠ y) (hon : onA B x y) : net B (stepR r x y) χ = net B r χ + (χ x - χ y) := by
  have none : ∀ B : List Arc, ¬ onA B x y → net B (stepR r x y) χ = net B r χ := by
    intro B hno
    unfold net
    congr 1
    refine List.map_congr_left fun a ha => ?_
    rw [flux_step hxy, if_neg fun h => hno ⟨a, ha, h⟩, Int.add_zero]
  have pw := sb.pw
  clear sb
  induction B with
  | nil => obtain ⟨a, ha, _⟩ := hon; cases ha
  | cons b B ih =>
    rw [List.pairwise_cons] at pw
    have e : ∀ r, net (b :: B) r χ = flux r χ b + net B r χ := fun r => by simp [net]
    rw [e, e, flux_step hxy]
    by_cases hb : (b.1 = x ∧ b.2.1 = y) ∨ (b.1 = y ∧ b.2.1 = x)
    · rw [if_pos hb, none B]
      · omega
      · rintro ⟨a, ha, h⟩
        have := pw.1 a ha
        unfold ApartA at this
        simp only [ne_eq, Prod.mk.injEq] at this
        rcases hb with ⟨h1, h2⟩ | ⟨h1, h2⟩ <;> rcases h with ⟨h3, h4⟩ | ⟨h3, h4⟩
        · exact this.1 ⟨by rw [h1, h3], by rw [h2, h4]⟩
        · exact this.2 ⟨by rw [h1, h4], by rw [h2, h3]⟩
        · exact this.2 ⟨by rw [h1, h4], by rw [h2, h3]⟩
        · exact this.1 ⟨by rw [h1, h3], by rw [h2, h4]⟩
    · rw [if_neg hb, ih (by
        obtain ⟨a, ha, h⟩ := hon
        rcases List.mem_cons.1 ha with rfl | ha
        · exact absurd h hb
        · exact ⟨a, ha, h⟩) pw.2]
      omega
/-- In the midst of a change: what is behind cur has been turned. -/
structure AugOk (B : List Arc) (r : Sp → Sp → Int) (k : Nat) (S T cur : Sp) : Prop where
  nn : ∀ a ∈ B, 0 ≤ r a.1 a.2.1 ∧ 0 ≤ r a.2.1 a.1 ∧ r a.1 a.2.1 + r a.2.1 a.1 = a.2.2
  bal : ∀ χ : Sp → Int, net B r χ = k * (χ S - χ T) + (χ cur - χ T)
theorem FlowOk.start {B : List Arc} {r : Sp → Sp → Int} {k : Nat} {S T : Sp} (f : FlowOk B r k S T) : AugOk B r k S T T := ⟨f.nn, fun χ => by rw [f.bal]; omega⟩
theorem AugOk.step {B : List Arc} (sb : SimpB B) {r : Sp → Sp → Int} {k : Nat} {S T cur x : Sp} (f : AugOk B r k S T cur) (hon : onA B x cur) (hr : 1 ≤ r x cur) : AugOk B (stepR r x cur) k S T x := by
  have hxy : x ≠ cur := by
    obtain ⟨a, ha, h⟩ := hon
    have := sb.ne a ha
    rcases h with ⟨h1, h2⟩ | ⟨h1, h2⟩
    · rw [← h1, ← h2]; exact this
    · rw [← h1, ← h2]; exact Ne.symm this
  refine ⟨fun a ha => ?_, fun χ => ?_⟩
  · obtain ⟨n1, n2, n3⟩ := f.nn a ha
    have hne := sb.ne a ha
    unfold stepR
    by_cases h1 : a.1 = x ∧ a.2.1 = cur
    · obtain ⟨e1, e2⟩ := h1
      rw [e1, e2] at n1 n2 n3 ⊢
      rw [if_pos ⟨rfl, rfl⟩, if_neg (fun h => hxy h.2), if_pos ⟨rfl, rfl⟩]
      omega
    · by_cases h2 : a.2.1 = x ∧ a.1 = cur
      · obtain ⟨e1, e2⟩ := h2
        rw [e1, e2] at n1 n2 n3 ⊢
        rw [if_neg (fun h => hxy h.2), if_pos ⟨rfl, rfl⟩, if_pos ⟨rfl, rfl⟩]
        omega
      · rw [if_neg h1, if_neg (fun h => h2 ⟨h.2, h.1⟩), if_neg h2, if_neg (fun h => h1 ⟨h.2, h.1⟩)]
        exact ⟨n1, n2, n3⟩
  · rw [net_step sb hxy hon, f.bal]
    omega
theorem AugOk.done {B : List Arc} {r : Sp → Sp → Int} {k : Nat} {S T : Sp} (f : AugOk B r k S T S) : FlowOk B r (k + 1) S T := ⟨f.nn, fun χ => by
  rw [f.bal]
  rw [show (((k + 1 : Nat) : Int) * (χ S - χ T)) = k * (χ S - χ T) + (χ S - χ T) by rw [Int.natCast_add, Int.add_mul]; simp]⟩
theorem step_other {r : Sp → Sp → Int} {x y u v : Sp} (h : ¬ (u = x ∧ v = y)) : r u v ≤ stepR r x y u v := by
  unfold stepR
  rw [if_neg h]
  split <;> omega
/-- The room of each arc: what is joined last stands. -/
def room0 (B : List Arc) (u v : Sp) : Int := ((B.find? fun a => decide (a.1 = u ∧ a.2.1 = v)).map (·.2.2)).getD 0
theorem pw_any {α : Type} {R : α → α → Prop} (sym : ∀ x y, R x y → R y x) : ∀ {l : List α}, l.Pairwise R → ∀ {a b : α}, a ∈ l → b ∈ l → a ≠ b → R a b := by
  intro l
  induction l with
  | nil => intro _ a b h; cases h
  | cons x l ih =>
    intro pw a b ha hb hab
    rw [List.pairwise_cons] at pw
    rcases List.mem_cons.1 ha with e1 | h1
    · rcases List.mem_cons.1 hb with e2 | h2
      · exact absurd (e1.trans e2.symm) hab
      · rw [e1]; exact pw.1 b h2
    · rcases List.mem_cons.1 hb with e2 | h2
      · rw [e2]; exact sym _ _ (pw.1 a h1)
      · exact ih pw.2 h1 h2 hab
theorem room0_arc {B : List Arc} (sb : SimpB B) {a : Arc} (ha : a ∈ B) : room0 B a.1 a.2.1 = a.2.2 ∧ room0 B a.2.1 a.1 = 0 := by
  obtain ⟨pw, ne⟩ := sb
  unfold room0
  constructor
  · have h : B.find? (fun b => decide (b.1 = a.1 ∧ b.2.1 = a.2.1)) = some a := by
      clear ne
      induction B with
      | nil => cases ha
      | cons b B ih =>
        rw [List.pairwise_cons] at pw
        rcases List.mem_cons.1 ha with rfl | ha
        · simp
        · have := pw.1 a ha
          rw [List.find?_cons_of_neg, ih ha pw.2]
          simp only [decide_eq_true_eq]
          intro h
          exact this.1 (by rw [h.1, h.2])
    rw [h]; rfl
  · have h : B.find? (fun b => decide (b.1 = a.2.1 ∧ b.2.1 = a.1)) = none := by
      rw [List.find?_eq_none]
      intro b hb h
      simp only [decide_eq_true_eq] at h
      have hab : a ≠ b := by
        rintro rfl
        exact ne a ha h.1
      have sym : ∀ x y : Arc, ApartA x y → ApartA y x := fun x y hxy => ⟨fun e => hxy.1 e.symm, fun e => hxy.2 (by simp only [Prod.mk.injEq] at e ⊢; exact ⟨e.2.symm, e.1.symm⟩)⟩
      have := pw_any sym pw ha hb hab
      exact this.2 (by rw [h.1, h.2])
    rw [h]; rfl
theorem flow0 {B : List Arc} (sb : SimpB B) (hc : ∀ a ∈ B, 0 ≤ a.2.2) (S T : Sp) : FlowOk B (room0 B) 0 S T where
  nn a ha := by
    obtain ⟨h1, h2⟩ := room0_arc sb ha
    rw [h1, h2]
    have := hc a ha
    omega
  bal χ := by
    have : net B (room0 B) χ = 0 := by
      unfold net
      have : B.map (flux (room0 B) χ) = B.map fun _ => 0 := List.map_congr_left fun a ha => by
        unfold flux
        rw [(room0_arc sb ha).2, Int.zero_mul]
      rw [this]
      clear this sb hc
      induction B with
      | nil => rfl
      | cons b B ih => simp [ih]
    rw [this]
    simp
end Go.AM
end

section
namespace Go.AM
open Go.Proofs
noncomputable def f113 (_rec : Rec) (_k : Nat) (v0 : Value) (v1 : Value) (v2 : Value) (n0 : Int) (h0 : H) : Option (Value × H) :=
 bx h0 113 v1 fun h1 =>
 bx h1 113 v2 fun h2 =>
 nil v0 (
 asP v0 fun b0 b1 =>
 ld Try.prog h2 115 b0 b1 fun v3 =>
 ld Try.prog h2 113 (nx h0) 0 fun v4 =>
 ld Try.prog h2 113 (nx h1) 0 fun v5 =>
 bld Try.prog 120 [(0, v4), (1, v5)] fun v6 =>
 lok Try.prog h2 115 v3 v6 true fun v7 =>
 ext v7 0 fun v8 =>
 asI .i64 v8 fun _ =>
 ext v7 1 fun v9 =>
 asB v9 fun q0 =>
 ifB (not q0) (
 nil v0 (
 asP v0 fun b2 b3 =>
 ld Try.prog h2 116 b2 (off b3 1) fun v10 =>
 ld Try.prog h2 113 (nx h0) 0 fun v11 =>
 ld Try.prog h2 113 (nx h1) 0 fun v12 =>
 bls Try.prog h2 134 1 [(0, v12)] fun v13 h3 =>
 ck (freq (nx h0) (nx h2) (same h3 h2)) (
 ck (freq b2 (nx h2) (same h3 h2)) (
 men Try.prog h3 116 v10 v11 fun v14 h4 =>
 ext v14 0 fun v15 =>
 app Try.prog h4 134 134 v15 v13 fun v16 h5 =>
 ext v14 1 fun v17 =>
 asI .i64 v17 fun n2 =>
 est h5 v10 (.int .i64 n2) v16 fun h6 =>
 nil v0 (
 asP v0 fun b4 b5 =>
 ld Try.prog h6 115 b4 b5 fun v18 =>
 ld Try.prog h6 113 (nx h1) 0 fun v19 =>
 ld Try.prog h6 113 (nx h0) 0 fun v20 =>
 bld Try.prog 120 [(0, v19), (1, v20)] fun v21 =>
 lok Try.prog h6 115 v18 v21 true fun v22 =>
 ext v22 0 fun v23 =>
 asI .i64 v23 fun _ =>
 ext v22 1 fun v24 =>
 asB v24 fun q1 =>
 ifB (not q1) (
 nil v0 (
 asP v0 fun b6 b7 =>
 ld Try.prog h6 115 b6 b7 fun v25 =>
 ld Try.prog h6 113 (nx h1) 0 fun v26 =>
 ld Try.prog h6 113 (nx h0) 0 fun v27 =>
 bld Try.prog 120 [(0, v26), (1, v27)] fun v28 =>
 mup Try.prog h6 115 v25 v28 (.int .i64 0) fun h7 =>
 nil v0 (
 asP v0 fun b8 b9 =>
 ld Try.prog h7 116 b8 (off b9 1) fun v29 =>
 ld Try.prog h7 113 (nx h1) 0 fun v30 =>
 ld Try.prog h7 113 (nx h0) 0 fun v31 =>
 bls Try.prog h7 134 1 [(0, v31)] fun v32 h8 =>
 ck (freq (nx h1) (nx h7) (same h8 h7)) (
 ck (freq b8 (nx h7) (same h8 h7)) (
 men Try.prog h8 116 v29 v30 fun v33 h9 =>
 ext v33 0 fun v34 =>
 app Try.prog h9 134 134 v34 v32 fun v35 h10 =>
 ext v33 1 fun v36 =>
 asI .i64 v36 fun n4 =>
 est h10 v29 (.int .i64 n4) v35 fun h11 =>
 nil v0 (
 asP v0 fun b10 b11 =>
 ld Try.prog h11 115 b10 b11 fun v37 =>
 ld Try.prog h11 113 (nx h0) 0 fun v38 =>
 ld Try.prog h11 113 (nx h1) 0 fun v39 =>
 bld Try.prog 120 [(0, v38), (1, v39)] fun v40 =>
 lok Try.prog h11 115 v37 v40 false fun v41 =>
 asI .i64 v41 fun n5 =>
 men Try.prog h11 115 v37 v40 fun v42 h12 =>
 ck (twm v37 v37) (
 ext v42 1 fun v43 =>
 asI .i64 v43 fun n6 =>
 est h12 v37 (.int .i64 n6) (.int .i64 (add .i64 n5 n0)) fun h13 =>
 some (undef, h13)))))))) (
 nil v0 (
 asP v0 fun b12 b13 =>
 ld Try.prog h6 115 b12 b13 fun v44 =>
 ld Try.prog h6 113 (nx h0) 0 fun v45 =>
 ld Try.prog h6 113 (nx h1) 0 fun v46 =>
 bld Try.prog 120 [(0, v45), (1, v46)] fun v47 =>
 lok Try.prog h6 115 v44 v47 false fun v48 =>
 asI .i64 v48 fun n7 =>
 men Try.prog h6 115 v44 v47 fun v49 h14 =>
 ck (twm v44 v44) (
 ext v49 1 fun v50 =>
 asI .i64 v50 fun n8 =>
 est h14 v44 (.int .i64 n8) (.int .i64 (add .i64 n7 n0)) fun h15 =>
 some (undef, h15))))))))) (
 nil v0 (
 asP v0 fun b14 b15 =>
 ld Try.prog h2 115 b14 b15 fun v51 =>
 ld Try.prog h2 113 (nx h1) 0 fun v52 =>
 ld Try.prog h2 113 (nx h0) 0 fun v53 =>
 bld Try.prog 120 [(0, v52), (1, v53)] fun v54 =>
 lok Try.prog h2 115 v51 v54 true fun v55 =>
 ext v55 0 fun v56 =>
 asI .i64 v56 fun _ =>
 ext v55 1 fun v57 =>
 asB v57 fun q2 =>
 ifB (not q2) (
 nil v0 (
 asP v0 fun b16 b17 =>
 ld Try.prog h2 115 b16 b17 fun v58 =>
 ld Try.prog h2 113 (nx h1) 0 fun v59 =>
 ld Try.prog h2 113 (nx h0) 0 fun v60 =>
 bld Try.prog 120 [(0, v59), (1, v60)] fun v61 =>
 mup Try.prog h2 115 v58 v61 (.int .i64 0) fun h16 =>
 nil v0 (
 asP v0 fun b18 b19 =>
 ld Try.prog h16 116 b18 (off b19 1) fun v62 =>
 ld Try.prog h16 113 (nx h1) 0 fun v63 =>
 ld Try.prog h16 113 (nx h0) 0 fun v64 =>
 bls Try.prog h16 134 1 [(0, v64)] fun v65 h17 =>
 ck (freq (nx h1) (nx h16) (same h17 h16)) (
 ck (freq b18 (nx h16) (same h17 h16)) (
 men Try.prog h17 116 v62 v63 fun v66 h18 =>
 ext v66 0 fun v67 =>
 app Try.prog h18 134 134 v67 v65 fun v68 h19 =>
 ext v66 1 fun v69 =>
 asI .i64 v69 fun n10 =>
 est h19 v62 (.int .i64 n10) v68 fun h20 =>
 nil v0 (
 asP v0 fun b20 b21 =>
 ld Try.prog h20 115 b20 b21 fun v70 =>
 ld Try.prog h20 113 (nx h0) 0 fun v71 =>
 ld Try.prog h20 113 (nx h1) 0 fun v72 =>
 bld Try.prog 120 [(0, v71), (1, v72)] fun v73 =>
 lok Try.prog h20 115 v70 v73 false fun v74 =>
 asI .i64 v74 fun n11 =>
 men Try.prog h20 115 v70 v73 fun v75 h21 =>
 ck (twm v70 v70) (
 ext v75 1 fun v76 =>
 asI .i64 v76 fun n12 =>
 est h21 v70 (.int .i64 n12) (.int .i64 (add .i64 n11 n0)) fun h22 =>
 some (undef, h22)))))))) (
 nil v0 (
 asP v0 fun b22 b23 =>
 ld Try.prog h2 115 b22 b23 fun v77 =>
 ld Try.prog h2 113 (nx h0) 0 fun v78 =>
 ld Try.prog h2 113 (nx h1) 0 fun v79 =>
 bld Try.prog 120 [(0, v78), (1, v79)] fun v80 =>
 lok Try.prog h2 115 v77 v80 false fun v81 =>
 asI .i64 v81 fun n13 =>
 men Try.prog h2 115 v77 v80 fun v82 h23 =>
 ck (twm v77 v77) (
 ext v82 1 fun v83 =>
 asI .i64 v83 fun n14 =>
 est h23 v77 (.int .i64 n14) (.int .i64 (add .i64 n13 n0)) fun h24 =>
 some (undef, h24)))))))
theorem e113 (rec : Rec) (k : Nat) (v0 : Value) (v1 : Value) (v2 : Value) (n0 : Int) (h : H) : bodyT Try.prog E0 SC (XC Try.prog rec k) 113 (Value × H) [.opq v0, .opq v1, .opq v2, .int .i64 n0] h (fun v h => some (v, h)) = f113 rec k v0 v1 v2 n0 h := by kernel_rfl
theorem t113 {k : Nat} {v0 : Value} {v1 : Value} {v2 : Value} {n0 : Int} {h h1 : H} {v : Value} (hh : f113 rn k v0 v1 v2 n0 h = some (v, h1)) : rn 113 #[v0, v1, v2, .int .i64 n0] h = some (v, trunc Try.prog h h1 v) :=
  run_of_bodyT (args := [.opq v0, .opq v1, .opq v2, .int .i64 n0]) rfl ((e113 _ _ _ _ _ _ _).trans hh)
noncomputable def f102_l2 (rec : Rec) (_k : Nat) (h3 : H) (ws0 : List Value) (n4 : Int) (ws1 : List Value) (h8 : H) : Option (Ex × List Value × H) :=
 asI .i64 (gv ws1 0) fun n5 =>
 ifB (lt n5 n4) (
 bld Try.prog 113 [(0, gv ws1 0), (1, gv ws0 0), (2, (.bool false))] fun v5 =>
 asI .i64 (gv ws0 0) fun n6 =>
 bld Try.prog 113 [(0, gv ws1 0), (1, (.int .i64 (add .i64 n6 1))), (2, (.bool false))] fun v6 =>
 calls rec h8 113 [(pt (nx h3) 0), v5, v6, (.int .i64 1000)] fun _ h9 =>
 asI .i64 (gv ws1 0) fun n7 =>
 out .normal [(.int .i64 (add .i64 n7 1))] h9) (
 out (.exit 2) [gv ws1 0] h8)
noncomputable def f102_l3 (rec : Rec) (_k : Nat) (h3 : H) (ws0 : List Value) (h10 : H) (h11 : H) (v12 : Value) (n14 : Int) (ws3 : List Value) (h16 : H) : Option (Ex × List Value × H) :=
 asI .i64 (gv ws3 0) fun n15 =>
 ifB (lt n15 n14) (
 asK (gv ws3 0) fun n16 =>
 six v12 n16 1 fun b2 b3 =>
 ld Try.prog h16 3 b2 b3 fun v13 =>
 asI .i64 v13 fun n17 =>
 bld Try.prog 113 [(0, (.int .i64 n17)), (1, gv ws0 0), (2, (.bool false))] fun v14 =>
 ld Try.prog h16 113 (nx h10) 0 fun v15 =>
 calls rec h16 113 [(pt (nx h3) 0), v14, v15, (.int .i64 1)] fun _ h17 =>
 ld Try.prog h17 113 (nx h11) 0 fun v17 =>
 asI .i64 (gv ws0 0) fun n18 =>
 bld Try.prog 113 [(0, (.int .i64 n17)), (1, (.int .i64 (add .i64 n18 1))), (2, (.bool false))] fun v18 =>
 calls rec h17 113 [(pt (nx h3) 0), v17, v18, (.int .i64 1)] fun _ h18 =>
 asI .i64 (gv ws3 0) fun n19 =>
 out .normal [(.int .i64 (add .i64 n19 1))] h18) (
 out (.exit 4) [gv ws3 0] h16)
noncomputable def f102_l1 (rec : Rec) (k : Nat) (n0 : Int) (h0 : H) (h3 : H) (v2 : Value) (n1 : Int) (ws0 : List Value) (h5 : H) : Option (Ex × List Value × H) :=
 asI .i64 (gv ws0 0) fun n2 =>
 ifB (lt n2 n1) (
 asK (gv ws0 0) fun n3 =>
 six v2 n3 3 fun b0 b1 =>
 ld Try.prog h5 56 b0 b1 fun v3 =>
 al h5 56 [(.int .i64 0), (.int .i64 0), (.int .i64 0)] fun h6 =>
 st Try.prog h6 56 (nx h5) 0 v3 fun h7 =>
 ld Try.prog h7 3 (nx h0) 0 fun v4 =>
 asI .i64 v4 fun n4 =>
 lp k (f102_l2 rec k h3 ws0 n4) [(.int .i64 0)] h7 fun e0 _ h10 =>
 onE e0 2 (
 asK (gv ws0 0) fun n8 =>
 nn n8 (
 ifB (eq (and .i64 (shr .i64 n0 n8) 1) 1) (
 asI .i64 (gv ws0 0) fun n9 =>
 out .normal [(.int .i64 (add .i64 n9 1))] h10) (
 asI .i64 (gv ws0 0) fun n10 =>
 bld Try.prog 113 [(0, (.int .i64 0)), (1, (.int .i64 (add .i64 n10 1))), (2, (.bool true))] fun v8 =>
 asI .i64 (gv ws0 0) fun n11 =>
 bld Try.prog 113 [(0, (.int .i64 1)), (1, (.int .i64 (add .i64 n11 1))), (2, (.bool true))] fun v9 =>
 al h10 113 [(.int .i64 0), (.int .i64 0), (.bool false)] fun h11 =>
 al h11 113 [(.int .i64 0), (.int .i64 0), (.bool false)] fun h12 =>
 st Try.prog h12 113 (nx h10) 0 v8 fun h13 =>
 st Try.prog h13 113 (nx h11) 0 v9 fun h14 =>
 ld Try.prog h14 3 (nx h5) 0 fun v10 =>
 asI .i64 v10 fun n12 =>
 ld Try.prog h14 3 (nx h5) (off 0 1) fun v11 =>
 asI .i64 v11 fun n13 =>
 bls Try.prog h14 25 2 [(0, (.int .i64 n12)), (1, (.int .i64 n13))] fun v12 h15 =>
 len v12 fun n14 =>
 lp k (f102_l3 rec k h3 ws0 h10 h11 v12 n14) [(.int .i64 0)] h15 fun e1 _ h19 =>
 onE e1 4 (
 ld Try.prog h19 113 (nx h10) 0 fun v20 =>
 ld Try.prog h19 113 (nx h11) 0 fun v21 =>
 calls rec h19 113 [(pt (nx h3) 0), v20, v21, (.int .i64 1)] fun _ h20 =>
 asI .i64 (gv ws0 0) fun n20 =>
 out .normal [(.int .i64 (add .i64 n20 1))] h20) (
 none)))) (
 none)) (
 out (.exit 0) [gv ws0 0] h5)
noncomputable def f102 (rec : Rec) (k : Nat) (v0 : Value) (n0 : Int) (h0 : H) : Option (Value × H) :=
 bx h0 31 v0 fun h1 =>
 mkm h1 fun h2 =>
 mkm h2 fun h3 =>
 bld Try.prog 118 [(0, (.map (some (nx h1)))), (1, (.map (some (nx h2))))] fun v1 =>
 bx h3 118 v1 fun h4 =>
 ld Try.prog h4 29 (nx h0) (off 0 1) fun v2 =>
 len v2 fun n1 =>
 lp k (f102_l1 rec k n0 h0 h3 v2 n1) [(.int .i64 0)] h4 fun e2 _ h21 =>
 onE e2 0 (
 some ((pt (nx h3) 0), h21)) (
 none)
theorem e102 (rec : Rec) (k : Nat) (v0 : Value) (n0 : Int) (h : H) : bodyT Try.prog E0 SC (XC Try.prog rec k) 102 (Value × H) [.opq v0, .int .i64 n0] h (fun v h => some (v, h)) = f102 rec k v0 n0 h := by kernel_rfl
theorem t102 {k : Nat} {v0 : Value} {n0 : Int} {h h1 : H} {v : Value} (hh : f102 rn k v0 n0 h = some (v, h1)) : rn 102 #[v0, .int .i64 n0] h = some (v, trunc Try.prog h h1 v) :=
  run_of_bodyT (args := [.opq v0, .int .i64 n0]) rfl ((e102 _ _ _ _ _).trans hh)
theorem x102 {k : Nat} {v0 : Value} {n0 : Int} {h h1 : H} {v : Value} (hh : f102 rn k v0 n0 h = some (v, h1)) (hp : plainO v = false) : rn 102 #[v0, .int .i64 n0] h = some (v, h1) := by rw [t102 hh, trunc_not hp]
noncomputable def f103_l3 (_rec : Rec) (_k : Nat) (v0 : Value) (h0 : H) (h2 : H) (h7 : H) (_ws2 : List Value) (h13 : H) : Option (Ex × List Value × H) :=
 ld Try.prog h13 113 (nx h7) 0 fun v24 =>
 ld Try.prog h13 113 (nx h0) 0 fun v25 =>
 eqv Try.prog 113 v24 v25 fun q2 =>
 ifB (not q2) (
 nil v0 (
 asP v0 fun b12 b13 =>
 ld Try.prog h13 115 b12 b13 fun v26 =>
 ld Try.prog h13 113 (nx h7) 0 fun v27 =>
 lok Try.prog h13 133 (.map (some (nx h2))) v27 false fun v28 =>
 ld Try.prog h13 113 (nx h7) 0 fun v29 =>
 bld Try.prog 120 [(0, v28), (1, v29)] fun v30 =>
 lok Try.prog h13 115 v26 v30 false fun v31 =>
 asI .i64 v31 fun n7 =>
 men Try.prog h13 115 v26 v30 fun v32 h14 =>
 ck (twm v26 v26) (
 ext v32 1 fun v33 =>
 asI .i64 v33 fun n8 =>
 est h14 v26 (.int .i64 n8) (.int .i64 (sub .i64 n7 1)) fun h15 =>
 nil v0 (
 asP v0 fun b14 b15 =>
 ld Try.prog h15 115 b14 b15 fun v34 =>
 ld Try.prog h15 113 (nx h7) 0 fun v35 =>
 ld Try.prog h15 113 (nx h7) 0 fun v36 =>
 lok Try.prog h15 133 (.map (some (nx h2))) v36 false fun v37 =>
 bld Try.prog 120 [(0, v35), (1, v37)] fun v38 =>
 lok Try.prog h15 115 v34 v38 false fun v39 =>
 asI .i64 v39 fun n9 =>
 men Try.prog h15 115 v34 v38 fun v40 h16 =>
 ck (twm v34 v34) (
 ext v40 1 fun v41 =>
 asI .i64 v41 fun n10 =>
 est h16 v34 (.int .i64 n10) (.int .i64 (add .i64 n9 1)) fun h17 =>
 ld Try.prog h17 113 (nx h7) 0 fun v42 =>
 lok Try.prog h17 133 (.map (some (nx h2))) v42 false fun v43 =>
 st Try.prog h17 113 (nx h7) 0 v43 fun h18 =>
 out .normal [] h18))))) (
 out (.exit 4) [] h13)
noncomputable def f103_l2 (rec : Rec) (k : Nat) (v0 : Value) (h0 : H) (h1 : H) (h2 : H) (v9 : Value) (n1 : Int) (ws1 : List Value) (h7 : H) : Option (Ex × List Value × H) :=
 asI .i64 (gv ws1 2) fun n2 =>
 ifB (lt n2 n1) (
 asK (gv ws1 2) fun n3 =>
 six v9 n3 3 fun b4 b5 =>
 ld Try.prog h7 113 b4 b5 fun v10 =>
 al h7 113 [(.int .i64 0), (.int .i64 0), (.bool false)] fun h8 =>
 st Try.prog h8 113 (nx h7) 0 v10 fun h9 =>
 ld Try.prog h9 113 (nx h7) 0 fun v11 =>
 lok Try.prog h9 133 (.map (some (nx h2))) v11 true fun v12 =>
 ext v12 0 fun v13 =>
 ext v12 1 fun v14 =>
 asB v14 fun q0 =>
 al h9 113 [(.int .i64 0), (.int .i64 0), (.bool false)] fun h10 =>
 st Try.prog h10 113 (nx h9) 0 v13 fun h11 =>
 ifB q0 (
 asI .i64 (gv ws1 2) fun n4 =>
 out .normal [gv ws1 0, gv ws1 1, (.int .i64 (add .i64 n4 1))] h11) (
 nil v0 (
 asP v0 fun b6 b7 =>
 ld Try.prog h11 115 b6 b7 fun v15 =>
 six (gv ws1 1) 0 3 fun b8 b9 =>
 ld Try.prog h11 113 b8 b9 fun v16 =>
 ld Try.prog h11 113 (nx h7) 0 fun v17 =>
 bld Try.prog 120 [(0, v16), (1, v17)] fun v18 =>
 lok Try.prog h11 115 v15 v18 false fun v19 =>
 asI .i64 v19 fun n5 =>
 ifB (eq n5 0) (
 asI .i64 (gv ws1 2) fun n6 =>
 out .normal [gv ws1 0, gv ws1 1, (.int .i64 (add .i64 n6 1))] h11) (
 ld Try.prog h11 113 (nx h7) 0 fun v20 =>
 six (gv ws1 1) 0 3 fun b10 b11 =>
 ld Try.prog h11 113 b10 b11 fun v21 =>
 mup Try.prog h11 133 (.map (some (nx h2))) v20 v21 fun h12 =>
 ld Try.prog h12 113 (nx h7) 0 fun v22 =>
 ld Try.prog h12 113 (nx h1) 0 fun v23 =>
 eqv Try.prog 113 v22 v23 fun q1 =>
 ifB q1 (
 lp k (f103_l3 rec k v0 h0 h2 h7) [] h12 fun e0 _ h19 =>
 onE e0 4 (
 out .ret [(.bool true), gv ws1 1, gv ws1 2] h19) (
 none)) (
 ld Try.prog h12 113 (nx h7) 0 fun v44 =>
 bls Try.prog h12 134 1 [(0, v44)] fun v45 h20 =>
 app Try.prog h20 134 134 (gv ws1 1) v45 fun v46 h21 =>
 asI .i64 (gv ws1 2) fun n11 =>
 out .normal [gv ws1 0, v46, (.int .i64 (add .i64 n11 1))] h21))))) (
 out (.exit 2) [gv ws1 0, gv ws1 1, gv ws1 2] h7)
noncomputable def f103_l1 (rec : Rec) (k : Nat) (v0 : Value) (h0 : H) (h1 : H) (h2 : H) (ws0 : List Value) (h6 : H) : Option (Ex × List Value × H) :=
 len (gv ws0 1) fun n0 =>
 ifB (lt 0 n0) (
 nil v0 (
 asP v0 fun b0 b1 =>
 ld Try.prog h6 116 b0 (off b1 1) fun v7 =>
 six (gv ws0 1) 0 3 fun b2 b3 =>
 ld Try.prog h6 113 b2 b3 fun v8 =>
 lok Try.prog h6 116 v7 v8 false fun v9 =>
 len v9 fun n1 =>
 lp k (f103_l2 rec k v0 h0 h1 h2 v9 n1) [gv ws0 0, gv ws0 1, (.int .i64 0)] h6 fun e1 ws4 h22 =>
 onE e1 2 (
 sli Try.prog h22 134 (gv ws4 1) (some (.int .i64 1)) none none fun v47 =>
 out .normal [gv ws4 0, v47] h22) (
 onR e1 (
 out .ret [gv ws4 0, gv ws4 1] h22)))) (
 out (.exit 0) [gv ws0 0, gv ws0 1] h6)
noncomputable def f103 (rec : Rec) (k : Nat) (v0 : Value) (v1 : Value) (v2 : Value) (h0 : H) : Option (Value × H) :=
 bx h0 113 v1 fun h1 =>
 bx h1 113 v2 fun h2 =>
 mkm h2 fun h3 =>
 ld Try.prog h3 113 (nx h0) 0 fun v3 =>
 ld Try.prog h3 113 (nx h0) 0 fun v4 =>
 mup Try.prog h3 133 (.map (some (nx h2))) v3 v4 fun h4 =>
 ld Try.prog h4 113 (nx h0) 0 fun v5 =>
 bls Try.prog h4 134 1 [(0, v5)] fun v6 h5 =>
 lp k (f103_l1 rec k v0 h0 h1 h2) [(.bool false), v6] h5 fun e2 ws5 h23 =>
 onE e2 0 (
 some ((.bool false), h23)) (
 onR e2 (
 some (gv ws5 0, h23)))
theorem e103 (rec : Rec) (k : Nat) (v0 : Value) (v1 : Value) (v2 : Value) (h : H) : bodyT Try.prog E0 SC (XC Try.prog rec k) 103 (Value × H) [.opq v0, .opq v1, .opq v2] h (fun v h => some (v, h)) = f103 rec k v0 v1 v2 h := by kernel_rfl
theorem t103 {k : Nat} {v0 : Value} {v1 : Value} {v2 : Value} {h h1 : H} {v : Value} (hh : f103 rn k v0 v1 v2 h = some (v, h1)) : rn 103 #[v0, v1, v2] h = some (v, trunc Try.prog h h1 v) :=
  run_of_bodyT (args := [.opq v0, .opq v1, .opq v2]) rfl ((e103 _ _ _ _ _ _).trans hh)
theorem p103 {k : Nat} {v0 : Value} {v1 : Value} {v2 : Value} {h h1 : H} {v : Value} (hh : f103 rn k v0 v1 v2 h = some (v, h1)) (hp : plainO v = true) (x : Ext h h1) : rn 103 #[v0, v1, v2] h = some (v, h) := by rw [t103 hh, trunc_pure hp x]
noncomputable def f83_l1 (rec : Rec) (_k : Nat) (v2 : Value) (h2 : H) (h3 : H) (ws0 : List Value) (h7 : H) : Option (Ex × List Value × H) :=
 ld Try.prog h7 113 (nx h2) 0 fun v6 =>
 ld Try.prog h7 113 (nx h3) 0 fun v7 =>
 eqv Try.prog 113 v6 v7 fun q0 =>
 ifB q0 (
 out .ret [v2, gv ws0 2, gv ws0 2] h7) (
 ld Try.prog h7 113 (nx h2) 0 fun v8 =>
 ld Try.prog h7 113 (nx h3) 0 fun v9 =>
 calls rec h7 103 [v2, v8, v9] fun v10 h8 =>
 asB v10 fun q1 =>
 ifB (not q1) (
 out .ret [v2, gv ws0 2, gv ws0 2] h8) (
 asI .i64 (gv ws0 2) fun n4 =>
 out .normal [gv ws0 0, gv ws0 1, (.int .i64 (add .i64 n4 1))] h8))
noncomputable def f83 (rec : Rec) (k : Nat) (v0 : Value) (n0 : Int) (n1 : Int) (n2 : Int) (h0 : H) : Option (Value × H) :=
 bx h0 31 v0 fun h1 =>
 ld Try.prog h1 31 (nx h0) 0 fun v1 =>
 calls rec h1 102 [v1, (.int .i64 n2)] fun v2 h2 =>
 bld Try.prog 113 [(0, (.int .i64 n0)), (1, (.int .i64 0)), (2, (.bool false))] fun v3 =>
 ld Try.prog h2 29 (nx h0) (off 0 1) fun v4 =>
 len v4 fun n3 =>
 bld Try.prog 113 [(0, (.int .i64 n1)), (1, (.int .i64 n3)), (2, (.bool false))] fun v5 =>
 al h2 113 [(.int .i64 0), (.int .i64 0), (.bool false)] fun h3 =>
 ck (freq (nx h0) (nx h2) (same h3 h2)) (
 al h3 113 [(.int .i64 0), (.int .i64 0), (.bool false)] fun h4 =>
 ck (freq (nx h0) (nx h3) (same h4 h3)) (
 st Try.prog h4 113 (nx h2) 0 v3 fun h5 =>
 ck (fre (nx h0) (nx h4) (off 0 1) 1 (nx h2) 0 3) (
 st Try.prog h5 113 (nx h3) 0 v5 fun h6 =>
 lp k (f83_l1 rec k v2 h2 h3) [(.pointer none), (.int .i64 0), (.int .i64 0)] h6 fun e0 ws1 h9 =>
 onR e0 (
 some ((.tuple #[gv ws1 0, gv ws1 1]), h9)))))
theorem e83 (rec : Rec) (k : Nat) (v0 : Value) (n0 : Int) (n1 : Int) (n2 : Int) (h : H) : bodyT Try.prog E0 SC (XC Try.prog rec k) 83 (Value × H) [.opq v0, .int .i64 n0, .int .i64 n1, .int .i64 n2] h (fun v h => some (v, h)) = f83 rec k v0 n0 n1 n2 h := by kernel_rfl
theorem t83 {k : Nat} {v0 : Value} {n0 : Int} {n1 : Int} {n2 : Int} {h h1 : H} {v : Value} (hh : f83 rn k v0 n0 n1 n2 h = some (v, h1)) : rn 83 #[v0, .int .i64 n0, .int .i64 n1, .int .i64 n2] h = some (v, trunc Try.prog h h1 v) :=
  run_of_bodyT (args := [.opq v0, .int .i64 n0, .int .i64 n1, .int .i64 n2]) rfl ((e83 _ _ _ _ _ _ _).trans hh)
theorem x83 {k : Nat} {v0 : Value} {n0 : Int} {n1 : Int} {n2 : Int} {h h1 : H} {v : Value} (hh : f83 rn k v0 n0 n1 n2 h = some (v, h1)) (hp : plainO v = false) : rn 83 #[v0, .int .i64 n0, .int .i64 n1, .int .i64 n2] h = some (v, h1) := by rw [t83 hh, trunc_not hp]
noncomputable def f84_l1 (_rec : Rec) (_k : Nat) (v1 : Value) (n0 : Int) (ws0 : List Value) (h2 : H) : Option (Ex × List Value × H) :=
 asI .i64 (gv ws0 1) fun n1 =>
 ifB (lt n1 n0) (
 nil v1 (
 asP v1 fun b0 b1 =>
 ld Try.prog h2 115 b0 b1 fun v3 =>
 asI .i64 (gv ws0 1) fun n2 =>
 bld Try.prog 113 [(0, (.int .i64 1)), (1, (.int .i64 (add .i64 n2 1))), (2, (.bool true))] fun v4 =>
 asI .i64 (gv ws0 1) fun n3 =>
 bld Try.prog 113 [(0, (.int .i64 0)), (1, (.int .i64 (add .i64 n3 1))), (2, (.bool true))] fun v5 =>
 bld Try.prog 120 [(0, v4), (1, v5)] fun v6 =>
 lok Try.prog h2 115 v3 v6 false fun v7 =>
 asI .i64 v7 fun n4 =>
 ifB (lt 0 n4) (
 asK (gv ws0 1) fun n5 =>
 nn n5 (
 asI .i64 (gv ws0 0) fun n6 =>
 asI .i64 (gv ws0 1) fun n7 =>
 out .normal [(.int .i64 (or .i64 n6 (shl .i64 1 n5))), (.int .i64 (add .i64 n7 1))] h2)) (
 asI .i64 (gv ws0 1) fun n8 =>
 out .normal [gv ws0 0, (.int .i64 (add .i64 n8 1))] h2))) (
 out (.exit 0) [gv ws0 0, gv ws0 1] h2)
noncomputable def f84 (rec : Rec) (k : Nat) (v0 : Value) (v1 : Value) (h0 : H) : Option (Value × H) :=
 bx h0 31 v0 fun h1 =>
 ld Try.prog h1 29 (nx h0) (off 0 1) fun v2 =>
 len v2 fun n0 =>
 lp k (f84_l1 rec k v1 n0) [(.int .i64 0), (.int .i64 0)] h1 fun e0 ws1 h3 =>
 onE e0 0 (
 some (gv ws1 0, h3)) (
 none)
theorem e84 (rec : Rec) (k : Nat) (v0 : Value) (v1 : Value) (h : H) : bodyT Try.prog E0 SC (XC Try.prog rec k) 84 (Value × H) [.opq v0, .opq v1] h (fun v h => some (v, h)) = f84 rec k v0 v1 h := by kernel_rfl
theorem t84 {k : Nat} {v0 : Value} {v1 : Value} {h h1 : H} {v : Value} (hh : f84 rn k v0 v1 h = some (v, h1)) : rn 84 #[v0, v1] h = some (v, trunc Try.prog h h1 v) :=
  run_of_bodyT (args := [.opq v0, .opq v1]) rfl ((e84 _ _ _ _ _).trans hh)
theorem p84 {k : Nat} {v0 : Value} {v1 : Value} {h h1 : H} {v : Value} (hh : f84 rn k v0 v1 h = some (v, h1)) (hp : plainO v = true) (x : Ext h h1) : rn 84 #[v0, v1] h = some (v, h) := by rw [t84 hh, trunc_pure hp x]
end Go.AM
end

section
namespace Go.AM
open Go.Proofs
/-- The neighbours of each spot: a map of slices, each in a block of its own. -/
structure NextH (lo : Nat) (h : H) (xb : Nat) (nxs : List (Sp × Value)) (N : Sp → List Sp) : Prop where
  mp : h.blk xb = some (mpOf Sp.val nxs)
  xlt : xb < h.nx
  ok : ∀ u v, valK nxs u = some v → AqR lo h 113 3 v ((N u).map Sp.cells)
  no : ∀ u, valK nxs u = none → N u = []
  dis : ∀ u u' v v' b, valK nxs u = some v → valK nxs u' = some v' → blkOf v = some b → blkOf v' = some b → u = u'
/-- Is a block that of a slice of neighbours? -/
def Own (nxs : List (Sp × Value)) (c : Nat) : Prop := ∃ u v, valK nxs u = some v ∧ blkOf v = some c
theorem NextH.keep {lo : Nat} {h h' : H} {xb : Nat} {nxs : List (Sp × Value)} {N : Sp → List Sp} (a : NextH lo h xb nxs N) (hn : h.nx ≤ h'.nx) (hx : h'.blk xb = h.blk xb) (hb : ∀ c, Own nxs c → h'.blk c = h.blk c) : NextH lo h' xb nxs N where
  mp := by rw [hx, a.mp]
  xlt := by have := a.xlt; omega
  ok u v hv := (a.ok u v hv).keep hn fun b hb' => hb b ⟨u, v, hv, hb'⟩
  no := a.no
  dis := a.dis
theorem NextH.lt {lo : Nat} {h : H} {xb : Nat} {nxs : List (Sp × Value)} {N : Sp → List Sp} (a : NextH lo h xb nxs N) {c : Nat} (hc : Own nxs c) : lo ≤ c ∧ c < h.nx ∧ c ≠ xb := by
  obtain ⟨u, v, hv, hb⟩ := hc
  obtain ⟨h1, h2, h3⟩ := (a.ok u v hv).blkOf hb
  refine ⟨h1, h2, ?_⟩
  rintro rfl
  rw [a.mp] at h3
  cases h3
theorem putK_set {nxs : List (Sp × Value)} {u : Sp} {v v0 : Value} {i : Nat} (h : lookK nxs u 0 = some (i, v0)) : nxs.set i (u, v) = putK nxs u v := by unfold putK; rw [h]
/-- A neighbour more. -/
theorem next_push {lo : Nat} {h : H} {xb : Nat} {nxs : List (Sp × Value)} {N : Sp → List Sp} (nh : NextH lo h xb nxs N) (hlo : lo ≤ h.nx) (a b : Sp) (hsm : (N a).length < 1000) {h3 : H} (e3 : h3 = h.new (.row b.cells 113 true)) :
    ∃ h6 v6, (∀ {R : Type} (K : H → Option R), (men Try.prog h3 116 (.map (some xb)) a.val fun v14 h4 => ext v14 0 fun v15 => app Try.prog h4 134 134 v15 (.slice (some ⟨h.nx, 0, none⟩) 1 1) fun v16 h5 => ext v14 1 fun v17 => asI .i64 v17 fun n2 => est h5 (.map (some xb)) (.int .i64 n2) v16 K) = K h6) ∧
      NextH lo h6 xb (putK nxs a v6) (fun u => if u = a then N a ++ [b] else N u) ∧ h.nx ≤ h6.nx ∧ (∀ c, c < h.nx → c ≠ xb → ¬ Own nxs c → h6.blk c = h.blk c) ∧ (∀ c, Own (putK nxs a v6) c → Own nxs c ∨ h.nx ≤ c) := by
  have x3 : Ext h h3 := by rw [e3]; exact .new _ _
  have hxb3 : h3.blk xb = some (mpOf Sp.val nxs) := by rw [x3.blk _ nh.xlt]; exact nh.mp
  have hxne : xb ≠ h.nx := by have := nh.xlt; omega
  -- what the entry holds at first
  obtain ⟨v0, i, kv1, hm, hi, hv0, hown⟩ : ∃ v0 i kv1, (∀ {R : Type} (K : Value → H → Option R), men Try.prog h3 116 (.map (some xb)) a.val K = K (.tuple #[v0, .int .i64 (i : Nat)]) (h3.set xb (mpOf Sp.val kv1))) ∧
      (∃ p, kv1[i]? = some p ∧ p.1 = a ∧ ∀ v, kv1.set i (a, v) = putK nxs a v) ∧ AqR lo h 113 3 v0 ((N a).map Sp.cells) ∧ (∀ c, blkOf v0 = some c → ∃ v, valK nxs a = some v ∧ v = v0) := by
    cases hl : lookK nxs a 0 with
    | some p =>
      obtain ⟨i, v0⟩ := p
      obtain ⟨j, h1, h2⟩ := lookK_some nxs 0 _ hl
      simp only [Nat.zero_add] at h1
      subst h1
      have hval : valK nxs a = some v0 := by unfold valK; rw [hl]; rfl
      refine ⟨v0, i, nxs, fun K => ?_, ⟨_, h2, rfl, fun v => putK_set hl⟩, nh.ok a v0 hval, fun c _ => ⟨v0, hval, rfl⟩⟩
      rw [men_of keyS under116 zero134 hxb3, hl]
    | none =>
      have hval : valK nxs a = none := by unfold valK; rw [hl]; rfl
      refine ⟨.slice none 0 0, nxs.length, nxs ++ [(a, .slice none 0 0)], fun K => ?_, ⟨_, List.getElem?_concat_length .., rfl, fun v => ?_⟩, ?_, fun c hc => by cases hc⟩
      · rw [men_of keyS under116 zero134 hxb3, hl]
      · unfold putK
        rw [hl, List.set_append_right _ _ (Nat.le_refl _)]
        simp
      · rw [nh.no a hval]; exact .nil
  have hblk0 : ∀ c, blkOf v0 = some c → Own nxs c := fun c hc => by
    obtain ⟨v, h1, h2⟩ := hown c hc
    exact ⟨a, v, h1, by rw [h2]; exact hc⟩
  generalize e4 : h3.set xb (mpOf Sp.val kv1) = h4 at hm
  have n4 : h4.nx = h.nx + 1 := by rw [← e4, e3]; rfl
  have b4 : ∀ c, c < h.nx → c ≠ xb → h4.blk c = h.blk c := fun c hc hne => by
    rw [← e4]
    show (if c = xb then _ else h3.blk c) = _
    rw [if_neg hne, x3.blk _ hc]
  have a4 : AqR lo h4 113 3 v0 ((N a).map Sp.cells) := hv0.keep (by omega) fun c hc => b4 c (nh.lt (hblk0 c hc)).2.1 (nh.lt (hblk0 c hc)).2.2
  have y4 : SlR h4 113 3 (.slice (some ⟨h.nx, 0, none⟩) 1 1) [b.cells] := by
    have : h4.blk h.nx = some (.row b.cells 113 true) := by
      rw [← e4, e3]
      show (if h.nx = xb then _ else (if h.nx = h.nx then _ else _)) = _
      rw [if_neg (Ne.symm hxne), if_pos rfl]
    refine .at_ (l := [b.cells]) (by omega) this (by show 1 ≤ capK 1; decide) (by decide) (by simp [Sp.cells]) fun i y hi => ?_
    cases i with
    | zero =>
      simp at hi
      subst hi
      refine ⟨rfl, fun j hj => ?_⟩
      simp
    | succ i => simp at hi
  obtain ⟨v5, h5, k5, a5, n5, f5, o5⟩ := a4.app app134 app134 y4 (by simp [Sp.cells, scal]) (by simp; omega) (by omega)
  obtain ⟨b5, hb5, hb5'⟩ : ∃ b', blkOf v5 = some b' ∧ h4.nx ≤ b' := by
    rcases o5 with ⟨_, _, h⟩ | h
    · cases h
    · exact h
  have hxb5 : h5.blk xb = some (mpOf Sp.val kv1) := by
    rw [f5 xb (by have := nh.xlt; omega) (fun hc => (nh.lt (hblk0 _ hc)).2.2 rfl), ← e4]
    show (if xb = xb then _ else _) = _
    rw [if_pos rfl]
  obtain ⟨p, hp, hpa, hset⟩ := hi
  refine ⟨h5.set xb (mpOf Sp.val (putK nxs a v5)), v5, fun K => ?_, ?_, by show h.nx ≤ h5.nx; omega, fun c hc hne hno => ?_, ?_⟩
  · rw [hm]
    show ext _ 0 _ = _
    unfold ext
    simp only [show (#[v0, Value.int .i64 (i : Nat)] : Array Value)[0]? = some v0 from rfl, show (#[v0, Value.int .i64 (i : Nat)] : Array Value)[1]? = some (.int .i64 (i : Nat)) from rfl, Option.bind_some]
    rw [k5, asI_int, est_of hxb5 hp, hpa, hset]
  · have keep5 : ∀ u v, u ≠ a → valK nxs u = some v → AqR lo (h5.set xb (mpOf Sp.val (putK nxs a v5))) 113 3 v ((N u).map Sp.cells) := fun u v hu hv => by
      refine (nh.ok u v hv).keep (by show h.nx ≤ h5.nx; omega) fun c hc => ?_
      obtain ⟨l1, l2, l3⟩ := nh.lt ⟨u, v, hv, hc⟩
      show (if c = xb then _ else h5.blk c) = _
      rw [if_neg l3, f5 c (by omega) (fun hc0 => ?_), b4 c l2 l3]
      obtain ⟨v1, g1, g2⟩ := hown c hc0
      exact hu (nh.dis u a v v1 c hv g1 hc (by rw [g2]; exact hc0))
    refine ⟨?_, by show xb < h5.nx; have := nh.xlt; omega, fun u v hv => ?_, fun u hu => ?_, fun u u' v v' c hv hv' hc hc' => ?_⟩
    · show (if xb = xb then _ else _) = _
      rw [if_pos rfl]
    · rw [valK_put] at hv
      by_cases hu : u = a
      · subst hu
        rw [if_pos rfl] at hv
        cases hv
        simp only [if_true, List.map_append, List.map_cons, List.map_nil]
        refine a5.keep (Nat.le_refl _) fun c hc => ?_
        rw [hb5] at hc
        cases hc
        show (if b5 = xb then _ else h5.blk b5) = _
        rw [if_neg (by have := nh.xlt; omega)]
      · rw [if_neg hu] at hv
        simp only [if_neg hu]
        exact keep5 u v hu hv
    · rw [valK_put] at hu
      by_cases e : u = a
      · rw [if_pos e] at hu; cases hu
      · rw [if_neg e] at hu
        simp only [if_neg e]
        exact nh.no u hu
    · rw [valK_put] at hv hv'
      have new : ∀ u v, u ≠ a → valK nxs u = some v → blkOf v = some b5 → False := fun u v _ hv hc => by
        have := (nh.lt ⟨u, v, hv, hc⟩).2.1
        omega
      by_cases hu : u = a
      · by_cases hu' : u' = a
        · rw [hu, hu']
        · rw [if_pos hu] at hv
          rw [if_neg hu'] at hv'
          cases hv
          rw [hb5] at hc
          cases hc
          exact (new u' v' hu' hv' hc').elim
      · rw [if_neg hu] at hv
        by_cases hu' : u' = a
        · rw [if_pos hu'] at hv'
          cases hv'
          rw [hb5] at hc'
          cases hc'
          exact (new u v hu hv hc).elim
        · rw [if_neg hu'] at hv'
          exact nh.dis u u' v v' c hv hv' hc hc'
  · show (if c = xb then _ else h5.blk c) = _
    rw [if_neg hne, f5 c (by omega) (fun hc0 => hno (hblk0 c hc0)), b4 c hc hne]
  · rintro c ⟨u, v, hv, hc⟩
    rw [valK_put] at hv
    by_cases e : u = a
    · rw [if_pos e] at hv
      cases hv
      rw [hb5] at hc
      cases hc
      exact .inr (by omega)
    · rw [if_neg e] at hv
      exact .inl ⟨u, v, hv, hc⟩
end Go.AM
end

section
namespace Go.AM
open Go.Proofs
section
variable {R : Type} {h : H}
theorem kbls134 (x : Sp) (K : Value → H → Option R) : bls Try.prog h 134 1 [(0, x.val)] K = K (.slice (some ⟨h.nx, 0, none⟩) 1 1) (h.new (.row x.cells 113 true)) := by
  unfold bls
  rw [bls134]; rfl
theorem ldS {b : Nat} {x : Sp} (hb : h.blk b = some (.row x.cells 113 true)) (K : Value → Option R) : ld Try.prog h 113 b 0 K = K x.val := by
  rw [d113, rd_all (n := 3) hb rfl]; rfl
theorem bxS (x : Sp) (K : H → Option R) : bx h 113 x.val K = K (h.new (.row x.cells 113 true)) := rfl
theorem kA (a b : Sp) (K : Value → Option R) : bld Try.prog 120 [(0, a.val), (1, b.val)] K = K (encA (a, b)) := kbld120 a b K
end
/-- What the map of rooms holds. -/
def ksA (B : List Arc) (r : Sp → Sp → Int) : List ((Sp × Sp) × Value) := B.flatMap fun a => [((a.2.1, a.1), iv (r a.2.1 a.1)), ((a.1, a.2.1), iv (r a.1 a.2.1))]
/-- The neighbours. -/
def nbrs (B : List Arc) (u : Sp) : List Sp := B.flatMap fun a => (if a.1 = u then [a.2.1] else []) ++ if a.2.1 = u then [a.1] else []
theorem lookK_app {κ : Type} [DecidableEq κ] : ∀ (x y : List (κ × Value)) (k : κ) (i : Nat), lookK (x ++ y) k i = match lookK x k i with | some r => some r | none => lookK y k (i + x.length) := by
  intro x
  induction x with
  | nil => intro y k i; simp [lookK]
  | cons p x ih =>
    intro y k i
    simp only [List.cons_append, lookK]
    by_cases hk : k = p.1
    · rw [if_pos hk, if_pos hk]
    · rw [if_neg hk, if_neg hk, ih, List.length_cons, show i + 1 + x.length = i + (x.length + 1) by omega]
theorem valK_app {κ : Type} [DecidableEq κ] (x y : List (κ × Value)) (k : κ) : valK (x ++ y) k = match valK x k with | some v => some v | none => valK y k := by
  unfold valK
  rw [lookK_app]
  cases lookK x k 0 with
  | some r => rfl
  | none =>
    simp only [Option.map_none, Nat.zero_add]
    have : ∀ (y : List (κ × Value)) (i j : Nat), (lookK y k i).map (·.2) = (lookK y k j).map (·.2) := by
      intro y
      induction y with
      | nil => intro i j; rfl
      | cons p y ih =>
        intro i j
        simp only [lookK]
        by_cases hk : k = p.1
        · rw [if_pos hk, if_pos hk]; rfl
        · rw [if_neg hk, if_neg hk]; exact ih _ _
    exact this _ _ _
theorem onA_cons {a : Arc} {B : List Arc} {u v : Sp} : onA (a :: B) u v ↔ ((a.1 = u ∧ a.2.1 = v) ∨ (a.1 = v ∧ a.2.1 = u)) ∨ onA B u v := by
  unfold onA
  constructor
  · rintro ⟨b, hb, h⟩
    rcases List.mem_cons.1 hb with rfl | hb
    · exact .inl h
    · exact .inr ⟨b, hb, h⟩
  · rintro (h | ⟨b, hb, h⟩)
    · exact ⟨a, List.mem_cons_self, h⟩
    · exact ⟨b, List.mem_cons_of_mem _ hb, h⟩
theorem valK_ks (B : List Arc) (r : Sp → Sp → Int) (u v : Sp) : (onA B u v → valK (ksA B r) (u, v) = some (iv (r u v))) ∧ (¬ onA B u v → valK (ksA B r) (u, v) = none) := by
  induction B with
  | nil =>
    refine ⟨fun h => ?_, fun _ => rfl⟩
    obtain ⟨_, h, _⟩ := h
    cases h
  | cons a B ih =>
    have e : ksA (a :: B) r = [((a.2.1, a.1), iv (r a.2.1 a.1)), ((a.1, a.2.1), iv (r a.1 a.2.1))] ++ ksA B r := rfl
    rw [e, valK_app, onA_cons]
    by_cases h1 : (u, v) = (a.2.1, a.1)
    · have : valK [((a.2.1, a.1), iv (r a.2.1 a.1)), ((a.1, a.2.1), iv (r a.1 a.2.1))] (u, v) = some (iv (r u v)) := by
        simp only [Prod.mk.injEq] at h1
        obtain ⟨rfl, rfl⟩ := h1
        simp [valK, lookK]
      rw [this]
      simp only [Prod.mk.injEq] at h1
      exact ⟨fun _ => rfl, fun hno => absurd (.inl (.inr ⟨h1.2.symm, h1.1.symm⟩)) hno⟩
    · by_cases h2 : (u, v) = (a.1, a.2.1)
      · have : valK [((a.2.1, a.1), iv (r a.2.1 a.1)), ((a.1, a.2.1), iv (r a.1 a.2.1))] (u, v) = some (iv (r u v)) := by
          unfold valK
          simp only [lookK, if_neg h1, if_pos h2]
          simp only [Prod.mk.injEq] at h2
          rw [← h2.1, ← h2.2]; rfl
        rw [this]
        simp only [Prod.mk.injEq] at h2
        exact ⟨fun _ => rfl, fun hno => absurd (.inl (.inl ⟨h2.1.symm, h2.2.symm⟩)) hno⟩
      · have : valK [((a.2.1, a.1), iv (r a.2.1 a.1)), ((a.1, a.2.1), iv (r a.1 a.2.1))] (u, v) = none := by
          unfold valK
          simp only [lookK, if_neg h1, if_neg h2, Option.map_none]
        rw [this]
        simp only [Prod.mk.injEq] at h1 h2
        refine ⟨fun h => ih.1 (h.resolve_left ?_), fun h => ih.2 fun h' => h (.inr h')⟩
        rintro (h | h)
        · exact h2 ⟨h.1.symm, h.2.symm⟩
        · exact h1 ⟨h.2.symm, h.1.symm⟩
theorem room0_snoc (B : List Arc) (x : Arc) (u v : Sp) : room0 (B ++ [x]) u v = if (B.any fun a => decide (a.1 = u ∧ a.2.1 = v)) = true then room0 B u v else if x.1 = u ∧ x.2.1 = v then x.2.2 else 0 := by
  unfold room0
  rw [List.find?_append]
  cases hf : B.find? (fun a => decide (a.1 = u ∧ a.2.1 = v)) with
  | some a =>
    have hm := List.mem_of_find?_eq_some hf
    have hp := List.find?_some hf
    have : (B.any fun a => decide (a.1 = u ∧ a.2.1 = v)) = true := List.any_eq_true.2 ⟨a, hm, hp⟩
    rw [this]
    simp
  | none =>
    have : (B.any fun a => decide (a.1 = u ∧ a.2.1 = v)) = false := by
      rw [Bool.eq_false_iff]
      intro h
      obtain ⟨a, h1, h2⟩ := List.any_eq_true.1 h
      exact (List.find?_eq_none.1 hf a h1) h2
    rw [this]
    by_cases hx : x.1 = u ∧ x.2.1 = v
    · simp [hx]
    · simp [hx]
theorem ks_snoc {B : List Arc} (hne : ∀ a ∈ B, a.1 ≠ a.2.1) {a b : Sp} {c : Int} (hab : a ≠ b) (hno : ¬ onA B a b) : ksA (B ++ [(a, b, c)]) (room0 (B ++ [(a, b, c)])) = ksA B (room0 B) ++ [((b, a), iv 0), ((a, b), iv c)] := by
  unfold ksA
  rw [List.flatMap_append]
  have any : ∀ u v, (B.any fun x => decide (x.1 = u ∧ x.2.1 = v)) = true → onA B u v := fun u v h => by
    obtain ⟨x, h1, h2⟩ := List.any_eq_true.1 h
    exact ⟨x, h1, .inl (of_decide_eq_true h2)⟩
  have onS : ∀ u v, onA B u v → onA B v u := fun u v ⟨x, h1, h2⟩ => ⟨x, h1, h2.symm⟩
  congr 1
  · have e : ∀ x ∈ B, room0 (B ++ [(a, b, c)]) x.1 x.2.1 = room0 B x.1 x.2.1 ∧ room0 (B ++ [(a, b, c)]) x.2.1 x.1 = room0 B x.2.1 x.1 := by
      intro x hx
      have hon : onA B x.1 x.2.1 := ⟨x, hx, .inl ⟨rfl, rfl⟩⟩
      have n1 : ¬ (a = x.1 ∧ b = x.2.1) := fun h => hno (by rw [h.1, h.2]; exact hon)
      have n2 : ¬ (a = x.2.1 ∧ b = x.1) := fun h => hno (by rw [h.1, h.2]; exact onS _ _ hon)
      have z : ∀ u v, (B.any fun x => decide (x.1 = u ∧ x.2.1 = v)) = false → room0 B u v = 0 := by
        intro u v h
        unfold room0
        rw [List.find?_eq_none.2 (fun y hy hp => by
          rw [Bool.eq_false_iff] at h
          exact h (List.any_eq_true.2 ⟨y, hy, hp⟩))]
        rfl
      constructor
      · rw [room0_snoc]
        cases hb : (B.any fun y => decide (y.1 = x.1 ∧ y.2.1 = x.2.1)) with
        | true => simp
        | false => rw [z _ _ hb]; simp only [Bool.false_eq_true, if_false]; rw [if_neg n1]
      · rw [room0_snoc]
        cases hb : (B.any fun y => decide (y.1 = x.2.1 ∧ y.2.1 = x.1)) with
        | true => simp
        | false => rw [z _ _ hb]; simp only [Bool.false_eq_true, if_false]; rw [if_neg n2]
    have : ∀ x ∈ B, (fun x : Arc => [((x.2.1, x.1), iv (room0 (B ++ [(a, b, c)]) x.2.1 x.1)), ((x.1, x.2.1), iv (room0 (B ++ [(a, b, c)]) x.1 x.2.1))]) x = (fun x : Arc => [((x.2.1, x.1), iv (room0 B x.2.1 x.1)), ((x.1, x.2.1), iv (room0 B x.1 x.2.1))]) x := fun x hx => by
      obtain ⟨e1, e2⟩ := e x hx
      simp only [e1, e2]
    rw [List.flatMap_def, List.flatMap_def, List.map_congr_left this]
  · have f1 : (B.any fun x => decide (x.1 = a ∧ x.2.1 = b)) = false := Bool.eq_false_iff.2 fun h => hno (any _ _ h)
    have f2 : (B.any fun x => decide (x.1 = b ∧ x.2.1 = a)) = false := Bool.eq_false_iff.2 fun h => hno (onS _ _ (any _ _ h))
    simp only [List.flatMap_cons, List.flatMap_nil, List.append_nil, room0_snoc, f1, f2, Bool.false_eq_true, if_false, and_self, if_true]
    rw [if_neg (fun h : a = b ∧ b = a => hab h.1)]
theorem nbrs_snoc {B : List Arc} {a b : Sp} {c : Int} (hab : a ≠ b) : (fun u => if u = b then (fun u => if u = a then nbrs B a ++ [b] else nbrs B u) b ++ [a] else (fun u => if u = a then nbrs B a ++ [b] else nbrs B u) u) = nbrs (B ++ [(a, b, c)]) := by
  funext u
  unfold nbrs
  rw [List.flatMap_append]
  simp only [List.flatMap_cons, List.flatMap_nil, List.append_nil]
  by_cases h1 : u = b
  · subst h1
    simp [hab, Ne.symm hab]
  · by_cases h2 : u = a
    · subst h2
      simp [hab, Ne.symm hab]
    · simp [h1, h2, Ne.symm h1, Ne.symm h2]
/-- The network in a heap. -/
structure NetH (lo : Nat) (h : H) (nb rb xb : Nat) (B : List Arc) (r : Sp → Sp → Int) (nxs : List (Sp × Value)) : Prop where
  str : h.blk nb = some (.row [.map (some rb), .map (some xb)] 118 true)
  nlt : nb < h.nx
  rm : h.blk rb = some (mpOf encA (ksA B r))
  rlt : rb < h.nx
  ne : rb ≠ xb
  next : NextH lo h xb nxs (nbrs B)
  los : lo ≤ nb ∧ lo ≤ rb ∧ lo ≤ xb
theorem NextH.notOwn {lo : Nat} {h : H} {xb : Nat} {nxs : List (Sp × Value)} {N : Sp → List Sp} (a : NextH lo h xb nxs N) {c : Nat} (hc : ∀ l, h.blk c ≠ some (.row l 113 true)) : ¬ Own nxs c := by
  rintro ⟨u, v, hv, hb⟩
  exact hc _ ((a.ok u v hv).blkOf hb).2.2
theorem NetH.nr {lo : Nat} {h : H} {nb rb xb : Nat} {B : List Arc} {r : Sp → Sp → Int} {nxs : List (Sp × Value)} (a : NetH lo h nb rb xb B r nxs) : nb ≠ rb ∧ nb ≠ xb ∧ ¬ Own nxs nb ∧ ¬ Own nxs rb := by
  refine ⟨fun e => ?_, fun e => ?_, a.next.notOwn fun l e => ?_, a.next.notOwn fun l e => ?_⟩
  · have := a.rm; rw [← e, a.str] at this; cases this
  · have := a.next.mp; rw [← e, a.str] at this; cases this
  · rw [a.str] at e; cases e
  · rw [a.rm] at e; cases e
end Go.AM
end

section
namespace Go.AM
open Go.Proofs
/-- What a step on the network leaves of the other blocks. -/
structure NFr (h h' : H) (rb xb : Nat) (nxs nxs' : List (Sp × Value)) : Prop where
  nx : h.nx ≤ h'.nx
  blk : ∀ c, c < h.nx → c ≠ rb → c ≠ xb → ¬ Own nxs c → h'.blk c = h.blk c
  own : ∀ c, Own nxs' c → Own nxs c ∨ h.nx ≤ c
theorem s113 {lo : Nat} {h : H} {nb rb xb : Nat} {B : List Arc} {nxs : List (Sp × Value)} (nt : NetH lo h nb rb xb B (room0 B) nxs) (hlo : lo ≤ h.nx) (hne : ∀ a ∈ B, a.1 ≠ a.2.1) {a b : Sp} (hab : a ≠ b) (hno : ¬ onA B a b)
    (hsm : ∀ u, (nbrs B u).length < 900) {room : Int} (hr : 0 ≤ room ∧ room < 2 ^ 31) :
    ∃ h' nxs', rn 113 #[pt nb 0, a.val, b.val, iv room] h = some (undef, h') ∧ NetH lo h' nb rb xb (B ++ [(a, b, room)]) (room0 (B ++ [(a, b, room)])) nxs' ∧ NFr h h' rb xb nxs nxs' := by
  obtain ⟨nr1, nr2, nr3, nr4⟩ := nt.nr
  have onS : ¬ onA B b a := fun ⟨x, h1, h2⟩ => hno ⟨x, h1, h2.symm⟩
  have hk1 : valK (ksA B (room0 B)) (a, b) = none := (valK_ks B _ a b).2 hno
  have hk2 : valK (ksA B (room0 B)) (b, a) = none := (valK_ks B _ b a).2 onS
  have l1 : lookK (ksA B (room0 B)) (a, b) 0 = none := by unfold valK at hk1; simpa using hk1
  have l2 : lookK (ksA B (room0 B)) (b, a) 0 = none := by unfold valK at hk2; simpa using hk2
  -- two boxes
  generalize e1 : h.new (.row a.cells 113 true) = h1
  generalize e2 : h1.new (.row b.cells 113 true) = h2
  have n1 : h1.nx = h.nx + 1 := by rw [← e1]; rfl
  have n2 : h2.nx = h.nx + 2 := by rw [← e2]; show h1.nx + 1 = _; omega
  have x2 : Ext h h2 := by rw [← e2, ← e1]; exact (Ext.new _ _).trans (.new _ _)
  have ba : h2.blk h.nx = some (.row a.cells 113 true) := by rw [← e2, blk_new, n1, if_neg (by omega), ← e1, blk_new, if_pos rfl]
  have bb : h2.blk h1.nx = some (.row b.cells 113 true) := by rw [← e2, blk_new, if_pos rfl]
  have nt2 : NextH lo h2 xb nxs (nbrs B) := nt.next.keep x2.nx (x2.blk _ nt.next.xlt) fun c hc => x2.blk _ (nt.next.lt hc).2.1
  have ownlt : ∀ c, Own nxs c → c < h.nx := fun c hc => (nt.next.lt hc).2.1
  -- b is a's neighbour
  generalize e3 : h2.new (.row b.cells 113 true) = h3
  obtain ⟨h6, v6, k6, nt6, n6, f6, o6⟩ := next_push nt2 (by omega) a b (by have := hsm a; omega) e3.symm
  have old6 : ∀ c, c < h.nx → c ≠ xb → ¬ Own nxs c → h6.blk c = h.blk c := fun c h1 h2' h3' => by rw [f6 c (by omega) h2' h3', x2.blk _ h1]
  have ba6 : h6.blk h.nx = some (.row a.cells 113 true) := by rw [f6 _ (by omega) (by have := nt.next.xlt; omega) (fun hc => by have := ownlt _ hc; omega), ba]
  have bb6 : h6.blk h1.nx = some (.row b.cells 113 true) := by rw [f6 _ (by omega) (by have := nt.next.xlt; omega) (fun hc => by have := ownlt _ hc; omega), bb]
  have str6 : h6.blk nb = some (.row [.map (some rb), .map (some xb)] 118 true) := by rw [old6 nb nt.nlt nr2 nr3, nt.str]
  have rm6 : h6.blk rb = some (mpOf encA (ksA B (room0 B))) := by rw [old6 rb nt.rlt nt.ne nr4, nt.rm]
  -- room backward
  generalize e7 : h6.set rb (mpOf encA (putK (ksA B (room0 B)) (b, a) (iv 0))) = h7
  have n7 : h7.nx = h6.nx := by rw [← e7]; rfl
  have b7 : ∀ c, c ≠ rb → h7.blk c = h6.blk c := fun c hc => by rw [← e7]; show (if c = rb then _ else _) = _; rw [if_neg hc]
  have rm7 : h7.blk rb = some (mpOf encA (putK (ksA B (room0 B)) (b, a) (iv 0))) := by rw [← e7]; show (if rb = rb then _ else _) = _; rw [if_pos rfl]
  have own6 : ∀ c, Own (putK nxs a v6) c → c ≠ rb := fun c hc => by
    rcases o6 c hc with h | h
    · rintro rfl; exact nr4 h
    · have := nt.rlt; omega
  have nt7 : NextH lo h7 xb (putK nxs a v6) (fun u => if u = a then nbrs B a ++ [b] else nbrs B u) := nt6.keep (by omega) (b7 _ (Ne.symm nt.ne)) fun c hc => b7 c (own6 c hc)
  -- a is b's neighbour
  generalize e8 : h7.new (.row a.cells 113 true) = h8
  obtain ⟨h11, v11, k11, nt11, n11, f11, o11⟩ := next_push nt7 (by omega) b a (by simp only [if_neg (Ne.symm hab)]; have := hsm b; omega) e8.symm
  have noOwn : ∀ c, c < h2.nx → ¬ Own nxs c → ¬ Own (putK nxs a v6) c := fun c h1 h2' hc => (o6 c hc).elim h2' (fun h => by omega)
  have old11 : ∀ c, c < h2.nx → c ≠ xb → c ≠ rb → ¬ Own nxs c → h11.blk c = h6.blk c := fun c h1 h2' h3' h4' => by rw [f11 c (by omega) h2' (noOwn c h1 h4'), b7 c h3']
  have ba11 : h11.blk h.nx = some (.row a.cells 113 true) := by rw [old11 _ (by omega) (by have := nt.next.xlt; omega) (by have := nt.rlt; omega) (fun hc => by have := ownlt _ hc; omega), ba6]
  have bb11 : h11.blk h1.nx = some (.row b.cells 113 true) := by rw [old11 _ (by omega) (by have := nt.next.xlt; omega) (by have := nt.rlt; omega) (fun hc => by have := ownlt _ hc; omega), bb6]
  have nlt := nt.nlt
  have rlt := nt.rlt
  have str11 : h11.blk nb = some (.row [.map (some rb), .map (some xb)] 118 true) := by rw [old11 nb (by omega) nr2 nr1 nr3, str6]
  have rm11 : h11.blk rb = some (mpOf encA (putK (ksA B (room0 B)) (b, a) (iv 0))) := by rw [f11 rb (by omega) nt.ne (noOwn rb (by omega) nr4), rm7]
  have p1 : putK (ksA B (room0 B)) (b, a) (iv 0) = ksA B (room0 B) ++ [((b, a), iv 0)] := by unfold putK; rw [l2]
  rw [p1] at rm11
  have l3 : lookK (ksA B (room0 B) ++ [((b, a), iv 0)]) (a, b) 0 = none := by
    rw [lookK_app, l1]
    simp only [lookK]
    rw [if_neg (fun e => hab (by simp only [Prod.mk.injEq] at e; exact e.1))]
  have hk3 : valK (ksA B (room0 B) ++ [((b, a), iv 0)]) (a, b) = none := by unfold valK; rw [l3]; rfl
  -- room forward
  generalize e12 : h11.set rb (mpOf encA ((ksA B (room0 B) ++ [((b, a), iv 0)]) ++ [((a, b), iv 0)])) = h12
  have rm12 : h12.blk rb = some (mpOf encA ((ksA B (room0 B) ++ [((b, a), iv 0)]) ++ [((a, b), iv 0)])) := by rw [← e12]; show (if rb = rb then _ else _) = _; rw [if_pos rfl]
  have hi12 : ((ksA B (room0 B) ++ [((b, a), iv 0)]) ++ [((a, b), iv 0)])[(ksA B (room0 B) ++ [((b, a), iv 0)]).length]? = some ((a, b), iv 0) := List.getElem?_concat_length ..
  generalize e13 : h12.set rb (mpOf encA (((ksA B (room0 B) ++ [((b, a), iv 0)]) ++ [((a, b), iv 0)]).set (ksA B (room0 B) ++ [((b, a), iv 0)]).length ((a, b), iv room))) = h13
  have n13 : h13.nx = h11.nx := by rw [← e13, ← e12]; rfl
  have b13 : ∀ c, c ≠ rb → h13.blk c = h11.blk c := fun c hc => by
    rw [← e13]
    show (if c = rb then _ else h12.blk c) = _
    rw [if_neg hc, ← e12]
    show (if c = rb then _ else h11.blk c) = _
    rw [if_neg hc]
  have rm13 : h13.blk rb = some (mpOf encA (ksA (B ++ [(a, b, room)]) (room0 (B ++ [(a, b, room)])))) := by
    rw [← e13]
    show (if rb = rb then _ else _) = _
    rw [if_pos rfl, ks_snoc hne hab hno, List.set_append_right _ _ (Nat.le_refl _)]
    simp
  have own11 : ∀ c, Own (putK (putK nxs a v6) b v11) c → c ≠ rb ∧ (Own nxs c ∨ h.nx ≤ c) := fun c hc => by
    rcases o11 c hc with h | h
    · refine ⟨own6 c h, ?_⟩
      rcases o6 c h with h | h
      · exact .inl h
      · exact .inr (by omega)
    · exact ⟨by omega, .inr (by omega)⟩
  have hrun : f113 rn 1000 (pt nb 0) a.val b.val room h = some (undef, h13) := by
    unfold f113
    rw [bxS, e1, bxS, e2]
    have str2 : h2.blk nb = some (.row [.map (some rb), .map (some xb)] 118 true) := by rw [x2.blk _ nt.nlt, nt.str]
    have rm2 : h2.blk rb = some (mpOf encA (ksA B (room0 B))) := by rw [x2.blk _ nt.rlt, nt.rm]
    simp only [nx_eq, AM.nil, asP_ptr, d115, d116, cell_of str2, List.getElem?_cons_zero, Option.bind_some]
    rw [ldS ba, ldS bb, kA, lok_of keyA under115 zero3 rm2, hk1]
    simp only [ext, show (#[iv 0, Value.bool false] : Array Value)[0]? = some (iv 0) from rfl, show (#[iv 0, Value.bool false] : Array Value)[1]? = some (Value.bool false) from rfl, Option.bind_some, asI_int, asB_bool, Bool.not_false, ifB_true]
    rw [show off 0 1 = 1 from rfl, show ([Value.map (some rb), Value.map (some xb)] : List Value)[1]? = some (.map (some xb)) from rfl]
    simp only [Option.bind_some]
    rw [ldS ba, ldS bb, kbls134, e3]
    have ck3 : ∀ c, c < h2.nx → freq c h2.nx (same h3 h2) = true := fun c hc => by
      unfold freq same
      rw [decide_eq_true hc, ← e3]
      simp [H.new]
    rw [ck3 _ (by omega), ck_true, ck3 _ (by omega), ck_true]
    refine (k6 _).trans ?_
    simp only [cell_of str6, List.getElem?_cons_zero, Option.bind_some]
    rw [ldS bb6, ldS ba6, kA, lok_of keyA under115 zero3 rm6, hk2]
    simp only [show (#[iv 0, Value.bool false] : Array Value)[0]? = some (iv 0) from rfl, show (#[iv 0, Value.bool false] : Array Value)[1]? = some (Value.bool false) from rfl, Option.bind_some, asI_int, asB_bool, Bool.not_false, ifB_true]
    rw [ldS bb6, ldS ba6, kA, mup_of keyA under115 rm6, e7]
    have str7 : h7.blk nb = some (.row [.map (some rb), .map (some xb)] 118 true) := by rw [b7 _ nr1, str6]
    have ba7 : h7.blk h.nx = some (.row a.cells 113 true) := by rw [b7 _ (by omega), ba6]
    have bb7 : h7.blk h1.nx = some (.row b.cells 113 true) := by rw [b7 _ (by omega), bb6]
    simp only [cell_of str7]
    rw [show ([Value.map (some rb), Value.map (some xb)] : List Value)[1]? = some (.map (some xb)) from rfl]
    simp only [Option.bind_some]
    rw [ldS bb7, ldS ba7, kbls134, e8]
    have ck8 : ∀ c, c < h7.nx → freq c h7.nx (same h8 h7) = true := fun c hc => by
      unfold freq same
      rw [decide_eq_true hc, ← e8]
      simp [H.new]
    rw [ck8 _ (by omega), ck_true, ck8 _ (by omega), ck_true]
    refine (k11 _).trans ?_
    simp only [cell_of str11, List.getElem?_cons_zero, Option.bind_some]
    rw [ldS ba11, ldS bb11, kA, lok_of0 keyA under115 zero3 rm11, hk3]
    simp only [Option.getD_none, asI_int]
    rw [men_of keyA under115 zero3 rm11, l3]
    simp only [twm, beq_self_eq_true, ck_true, e12]
    simp only [show ∀ x : Value, (#[iv 0, x] : Array Value)[1]? = some x from fun _ => rfl, Option.bind_some, asI_int]
    rw [add64 (by omega) (by omega), Int.zero_add, est_of rm12 hi12, e13]
  have hchg : h13.blk rb ≠ h.blk rb := by
    rw [rm13, nt.rm, ks_snoc hne hab hno]
    intro e
    injection e with e
    unfold mpOf at e
    injection e with _ e
    simp at e
  have htr : trunc Try.prog h h13 undef = h13 := by
    unfold trunc truncB
    rw [if_neg]
    intro hall
    exact hchg (hall rb nt.rlt)
  refine ⟨h13, putK (putK nxs a v6) b v11, by rw [t113 hrun, htr], ⟨?_, by omega, rm13, by omega, nt.ne, ?_, nt.los⟩, by omega, fun c c1 c2 c3 c4 => ?_, fun c hc => (own11 c hc).2⟩
  · rw [b13 _ nr1, str11]
  · have := nt11.keep (h' := h13) (by omega) (b13 _ (Ne.symm nt.ne)) fun c hc => b13 c (own11 c hc).1
    rw [nbrs_snoc hab] at this
    exact this
  · rw [b13 _ c2, old11 c (by omega) c3 c2 c4, old6 c c1 c3 c4]
end Go.AM
end

section
namespace Go.AM
open Go.Proofs
theorem NFr.trans {h h1 h2 : H} {rb xb : Nat} {n0 n1 n2 : List (Sp × Value)} (a : NFr h h1 rb xb n0 n1) (b : NFr h1 h2 rb xb n1 n2) : NFr h h2 rb xb n0 n2 where
  nx := Nat.le_trans a.nx b.nx
  blk c h1' h2' h3' h4' := by
    rw [b.blk c (Nat.lt_of_lt_of_le h1' a.nx) h2' h3' (fun hc => (a.own c hc).elim h4' (fun h => by omega)), a.blk c h1' h2' h3' h4']
  own c hc := (b.own c hc).elim (a.own c) (fun h => .inr (Nat.le_trans a.nx h))
theorem NFr.ext {h h1 : H} {rb xb : Nat} {n0 : List (Sp × Value)} (x : Ext h h1) : NFr h h1 rb xb n0 n0 := ⟨x.nx, fun c hc _ _ _ => x.blk c hc, fun _ hc => .inl hc⟩
theorem NetH.ext {lo : Nat} {h h' : H} {nb rb xb : Nat} {B : List Arc} {r : Sp → Sp → Int} {nxs : List (Sp × Value)} (a : NetH lo h nb rb xb B r nxs) (x : Ext h h') : NetH lo h' nb rb xb B r nxs where
  str := by rw [x.blk _ a.nlt, a.str]
  nlt := Nat.lt_of_lt_of_le a.nlt x.nx
  rm := by rw [x.blk _ a.rlt, a.rm]
  rlt := Nat.lt_of_lt_of_le a.rlt x.nx
  ne := a.ne
  next := a.next.keep x.nx (x.blk _ a.next.xlt) fun c hc => x.blk c (a.next.lt hc).2.1
  los := a.los
theorem NetH.rowNe {lo : Nat} {h : H} {nb rb xb : Nat} {B : List Arc} {r : Sp → Sp → Int} {nxs : List (Sp × Value)} (a : NetH lo h nb rb xb B r nxs) {c : Nat} {l : List Value} {e : TypeId} {w : Bool} (hc : h.blk c = some (.row l e w)) : c ≠ rb ∧ c ≠ xb := by
  refine ⟨fun q => ?_, fun q => ?_⟩
  · rw [q, a.rm] at hc; cases hc
  · rw [q, a.next.mp] at hc; cases hc
theorem nbrs_len (B : List Arc) (u : Sp) : (nbrs B u).length ≤ 2 * B.length := by
  induction B with
  | nil => simp [nbrs]
  | cons a B ih =>
    unfold nbrs at ih ⊢
    rw [List.flatMap_cons, List.length_append, List.length_append, List.length_cons]
    have : (if a.1 = u then [a.2.1] else []).length ≤ 1 := by split <;> simp
    have : (if a.2.1 = u then [a.1] else []).length ≤ 1 := by split <;> simp
    omega
/-- One more of the arcs is joined. -/
theorem join_k {full B : List Arc} {a : Arc} (pre : (B ++ [a]) <+: full) (sf : SimpB full) (hl : full.length ≤ 300) (hc : 0 ≤ a.2.2 ∧ a.2.2 < 2 ^ 31) {lo : Nat} {h : H} {nb rb xb : Nat} {nxs : List (Sp × Value)}
    (nt : NetH lo h nb rb xb B (room0 B) nxs) : ∃ h' nxs', (∀ {R : Type} (K : Value → H → Option R), calls rn h 113 [pt nb 0, a.1.val, a.2.1.val, iv a.2.2] K = K undef h') ∧
      NetH lo h' nb rb xb (B ++ [a]) (room0 (B ++ [a])) nxs' ∧ NFr h h' rb xb nxs nxs' := by
  obtain ⟨post, rfl⟩ := pre
  have hlo : lo ≤ h.nx := by have := nt.los.1; have := nt.nlt; omega
  have pw := sf.pw
  rw [List.append_assoc, List.pairwise_append] at pw
  have hno : ¬ onA B a.1 a.2.1 := by
    rintro ⟨x, hx, h⟩
    have := pw.2.2 x hx a (by simp)
    rcases h with ⟨h1, h2⟩ | ⟨h1, h2⟩
    · exact this.1 (by rw [h1, h2])
    · exact this.2 (by rw [h1, h2])
  have hB : B.length ≤ 300 := by simp only [List.length_append] at hl; omega
  obtain ⟨h', nxs', e, n1, n2⟩ := s113 nt hlo (fun x hx => sf.ne x (by simp [hx])) (sf.ne a (by simp)) hno (fun u => by have := nbrs_len B u; omega) hc
  exact ⟨h', nxs', fun K => calls_eq e, n1, n2⟩
theorem kSp (p t : Int) (g : Bool) {R : Type} (K : Value → Option R) : bld Try.prog 113 [(0, iv p), (1, iv t), (2, .bool g)] K = K (Sp.val ⟨p, t, g⟩) := kbld113 p t g K
section
variable {lo nb rb xb : Nat} {full : List Arc} {k : Nat}
/-- Everybody waits. -/
theorem f102_l2_in {n j : Nat} {B0 : List Arc} {g0 h3 : H} {nxs0 : List (Sp × Value)} (sf : SimpB full) (hl : full.length ≤ 300) (pre : (B0 ++ waits n j) <+: full) (hn : n ≤ 7) (hj : j < 24) (hk : 10 < k)
    (nt : NetH lo g0 nb rb xb B0 (room0 B0) nxs0) (hnb : h3.nx = nb) :
    ∃ g nxs ws, (∀ {R : Type} (K : Ex → List Value → H → Option R), lp k (f102_l2 rn k h3 [iv j] n) [iv 0] g0 K = K (.exit 2) ws g) ∧ NetH lo g nb rb xb (B0 ++ waits n j) (room0 (B0 ++ waits n j)) nxs ∧ NFr g0 g rb xb nxs0 nxs := by
  obtain ⟨ws', g, e, e0, nxs, n1, n2⟩ := lp_for (k := k) (l := List.range n) (F := f102_l2 rn k h3 [iv j] n) (σ := Unit) (fun _ _ s => s)
    (fun i _ ws g => ws = [iv i] ∧ ∃ nxs, NetH lo g nb rb xb (B0 ++ (waits n j).take i) (room0 (B0 ++ (waits n j).take i)) nxs ∧ NFr g0 g rb xb nxs0 nxs) 2 (ws := [iv 0]) (h := g0) (s0 := ())
    ⟨rfl, nxs0, by simpa using nt, ⟨Nat.le_refl _, fun _ _ _ _ _ => rfl, fun _ h => .inl h⟩⟩ (by rw [List.length_range]; omega)
    (fun _ ws g hI => by
      obtain ⟨rfl, _⟩ := hI
      simp only [f102_l2, gv, List.getD_cons_zero, asI_int, List.length_range]
      rw [show AM.lt (n : Int) n = false by simp [AM.lt], ifB_false]; rfl)
    (fun i x _ ws g hx hI => by
      obtain ⟨rfl, nxs, n1, n2⟩ := hI
      have hi : i < n := by have := (List.getElem?_eq_some_iff.1 hx).1; rwa [List.length_range] at this
      have hw : (waits n j)[i]? = some (at' i j, at' i (j + 1), 1000) := by unfold waits; rw [List.getElem?_map, List.getElem?_range hi]; rfl
      have htk : (waits n j).take (i + 1) = (waits n j).take i ++ [(at' i j, at' i (j + 1), 1000)] := by rw [List.take_add_one, hw]; rfl
      obtain ⟨h', nxs', k1, m1, m2⟩ := join_k (a := (at' i j, at' i (j + 1), 1000)) (B := B0 ++ (waits n j).take i) (by
        rw [List.append_assoc, ← htk]
        exact ((List.prefix_append_right_inj B0).2 (List.take_prefix _ _)).trans pre) sf hl ⟨by simp, by simp⟩ n1
      refine ⟨[iv (i + 1 : Nat)], h', ?_, rfl, nxs', ?_, n2.trans m2⟩
      · simp only [f102_l2, gv, List.getD_cons_zero, asI_int]
        rw [show AM.lt (i : Int) n = true by simp [AM.lt]; omega, ifB_true, kSp, add64 (by omega) (by omega), kSp, nx_eq, hnb]
        rw [show ((j : Int) + 1) = ((j + 1 : Nat) : Int) by omega]
        refine (k1 _).trans ?_
        rw [add64 (by omega) (by omega)]
        rfl
      · rw [htk, ← List.append_assoc]
        exact m1)
  rw [List.length_range] at n1
  have hlen : (waits n j).length = n := by simp [waits]
  rw [List.take_of_length_le (by omega)] at n1
  exact ⟨g, nxs, ws', fun K => lp_eq e, n1, n2⟩
/-- The two of a call. -/
theorem f102_l3_in {j : Nat} {c : Kl} {B0 : List Arc} {g0 h3 h10 h11 : H} {v12 : Value} {nxs0 : List (Sp × Value)} (sf : SimpB full) (hl : full.length ≤ 300) (pre : (B0 ++ gates c j) <+: full) (hj : j < 24) (hk : 10 < k)
    (nt : NetH lo g0 nb rb xb B0 (room0 B0) nxs0) (hnb : h3.nx = nb) (h10b : g0.blk h10.nx = some (.row (inS j).cells 113 true)) (h11b : g0.blk h11.nx = some (.row (outS j).cells 113 true))
    (lt10 : h10.nx < g0.nx) (lt11 : h11.nx < g0.nx) (no10 : ¬ Own nxs0 h10.nx) (no11 : ¬ Own nxs0 h11.nx) (hv : v12 = .slice (some ⟨g0.nx - 1, 0, none⟩) 2 2) (hvb : g0.blk (g0.nx - 1) = some (.row [iv c.a, iv c.b] 3 true)) :
    ∃ g nxs ws, (∀ {R : Type} (K : Ex → List Value → H → Option R), lp k (f102_l3 rn k h3 [iv j] h10 h11 v12 2) [iv 0] g0 K = K (.exit 4) ws g) ∧ NetH lo g nb rb xb (B0 ++ (gates c j).take 4) (room0 (B0 ++ (gates c j).take 4)) nxs ∧ NFr g0 g rb xb nxs0 nxs := by
  have npos : 0 < g0.nx := by omega
  have noV : ¬ Own nxs0 (g0.nx - 1) := nt.next.notOwn fun l e => by rw [hvb] at e; cases e
  have ne10 : h10.nx ≠ rb ∧ h10.nx ≠ xb := nt.rowNe h10b
  have ne11 : h11.nx ≠ rb ∧ h11.nx ≠ xb := nt.rowNe h11b
  have neV : g0.nx - 1 ≠ rb ∧ g0.nx - 1 ≠ xb := nt.rowNe hvb
  obtain ⟨ws', g, e, e0, nxs, n1, n2⟩ := lp_for (k := k) (l := [c.a, c.b]) (F := f102_l3 rn k h3 [iv j] h10 h11 v12 2) (σ := Unit) (fun _ _ s => s)
    (fun i _ ws g => ws = [iv i] ∧ ∃ nxs, NetH lo g nb rb xb (B0 ++ (gates c j).take (2 * i)) (room0 (B0 ++ (gates c j).take (2 * i))) nxs ∧ NFr g0 g rb xb nxs0 nxs) 4 (ws := [iv 0]) (h := g0) (s0 := ())
    ⟨rfl, nxs0, by simpa using nt, ⟨Nat.le_refl _, fun _ _ _ _ _ => rfl, fun _ h => .inl h⟩⟩ (by show 2 < k; omega)
    (fun _ ws g hI => by
      obtain ⟨rfl, _⟩ := hI
      simp only [f102_l3, gv, List.getD_cons_zero, asI_int]
      rfl)
    (fun i x _ ws g hx hI => by
      obtain ⟨rfl, nxs, n1, n2⟩ := hI
      have hi : i < 2 := (List.getElem?_eq_some_iff.1 hx).1
      have hp : ∃ p, x = p ∧ (gates c j).take (2 * i + 1) = (gates c j).take (2 * i) ++ [(at' p j, inS j, 1)] ∧ (gates c j).take (2 * (i + 1)) = (gates c j).take (2 * i) ++ [(at' p j, inS j, 1)] ++ [(outS j, at' p (j + 1), 1)] := by
        match i, hi with
        | 0, _ => simp only [List.getElem?_cons_zero, Option.some.injEq] at hx; exact ⟨c.a, hx.symm, rfl, rfl⟩
        | 1, _ => simp only [List.getElem?_cons_succ, List.getElem?_cons_zero, Option.some.injEq] at hx; exact ⟨c.b, hx.symm, rfl, rfl⟩
      obtain ⟨p, rfl, t1, t2⟩ := hp
      obtain ⟨ha, nxa, k1, m1, m2⟩ := join_k (a := (at' x j, inS j, 1)) (B := B0 ++ (gates c j).take (2 * i)) (by
        rw [List.append_assoc, ← t1]
        exact ((List.prefix_append_right_inj B0).2 (List.take_prefix _ _)).trans pre) sf hl ⟨by simp, by simp⟩ n1
      obtain ⟨hb, nxb, k2, m3, m4⟩ := join_k (a := (outS j, at' x (j + 1), 1)) (B := B0 ++ (gates c j).take (2 * i) ++ [(at' x j, inS j, 1)]) (by
        rw [List.append_assoc, List.append_assoc, ← List.append_assoc ((gates c j).take (2 * i)), ← t2]
        exact ((List.prefix_append_right_inj B0).2 (List.take_prefix _ _)).trans pre) sf hl ⟨by simp, by simp⟩ m1
      have na := n2.trans m2
      have b10 : g.blk h10.nx = some (.row (inS j).cells 113 true) := by rw [n2.blk _ lt10 ne10.1 ne10.2 no10, h10b]
      have b11 : ha.blk h11.nx = some (.row (outS j).cells 113 true) := by rw [na.blk _ lt11 ne11.1 ne11.2 no11, h11b]
      have bv : g.blk (g0.nx - 1) = some (.row [iv c.a, iv c.b] 3 true) := by rw [n2.blk _ (by omega) neV.1 neV.2 noV, hvb]
      refine ⟨[iv (i + 1 : Nat)], hb, ?_, rfl, nxb, ?_, na.trans m4⟩
      · simp only [f102_l3, gv, List.getD_cons_zero, asI_int, asK_int]
        rw [show AM.lt (i : Int) 2 = true by simp [AM.lt]; omega, ifB_true, hv]
        simp only [six]
        rw [if_pos ⟨by omega, by omega⟩]
        rw [d3, cell_of bv, show ([iv c.a, iv c.b] : List Value)[0 + ((i : Nat) : Int).toNat * 1]? = some (iv x) by
          rw [show 0 + ((i : Nat) : Int).toNat * 1 = i by omega]
          match i, hi with
          | 0, _ => simp only [List.getElem?_cons_zero, Option.some.injEq] at hx ⊢; rw [hx]
          | 1, _ => simp only [List.getElem?_cons_succ, List.getElem?_cons_zero, Option.some.injEq] at hx ⊢; rw [hx]]
        simp only [Option.bind_some, asI_int]
        rw [kSp, nx_eq, nx_eq, ldS b10, hnb]
        refine (k1 _).trans ?_
        rw [nx_eq, ldS b11, add64 (by omega) (by omega), kSp, show ((j : Int) + 1) = ((j + 1 : Nat) : Int) by omega]
        refine (k2 _).trans ?_
        rw [add64 (by omega) (by omega)]
        rfl
      · rw [t2, ← List.append_assoc, ← List.append_assoc]
        exact m3)
  exact ⟨g, nxs, ws', fun K => lp_eq e, n1, n2⟩
end
end Go.AM
end

section
namespace Go.AM
open Go.Proofs
theorem bls25_2 (x y : Int) (h : H) : buildSlice Try.prog 25 2 [(0, .int .i64 x), (1, .int .i64 y)] h = some (.slice (some ⟨h.nx, 0, none⟩) 2 2, h.new (.row [iv x, iv y] 3 true)) := by kernel_rfl
theorem st113 {h : H} {b : Nat} {x : Sp} {zs : List Value} {R : Type} {K : H → Option R} (hb : h.blk b = some (.row zs 113 true)) (hz : zs.length = 3) : st Try.prog h 113 b 0 x.val K = K (h.set b (.row x.cells 113 true)) := by
  rw [st_eq (v := x.val) (by rw [sz113]; rfl) hb (by simp [Value.cells, hz]) (by simp [Value.cells, scal])]
  have : setAt zs 0 x.val.cells.toList = x.cells := setAt_all x.cells [] zs hz
  rw [this]
/-- Which calls are gone. -/
abbrev goneD (g : Nat) : Nat → Bool := fun i => g.testBit i
theorem base_succ {n : Nat} {l : List Kl} {d : Nat → Bool} {j : Nat} : baseA n l d (j + 1) = baseA n l d j ++ chunk n l d j := by
  unfold baseA
  rw [List.range_succ, List.flatMap_append]
  simp
theorem base_pre {n : Nat} {l : List Kl} {d : Nat → Bool} {j m : Nat} (h : j ≤ m) : baseA n l d j <+: baseA n l d m := by
  induction m with
  | zero =>
    have e : j = 0 := by omega
    rw [e]
    exact List.prefix_rfl
  | succ m ih =>
    by_cases e : j = m + 1
    · subst e; exact List.prefix_rfl
    · rw [base_succ]
      exact (ih (by omega)).trans (List.prefix_append _ _)
theorem chunk_len {n : Nat} {l : List Kl} {d : Nat → Bool} {j : Nat} : (chunk n l d j).length ≤ n + 5 := by
  unfold chunk
  split
  · split <;> simp [waits, gates]
  · simp
theorem base_len {n : Nat} {l : List Kl} {d : Nat → Bool} (m : Nat) : (baseA n l d m).length ≤ m * (n + 5) := by
  induction m with
  | zero => simp [baseA]
  | succ m ih =>
    rw [base_succ, List.length_append, Nat.succ_mul]
    have := chunk_len (n := n) (l := l) (d := d) (j := m)
    omega
section
variable {lo nb rb xb : Nat} {k : Nat}
theorem f102_l1_in {n : Nat} {l : List Kl} {gone : Nat} {j : Nat} {c : Kl} (hc : l[j]? = some c) (hv : validP n l = true) (hgn : gone < 2 ^ 62) {g0 h0 h3 : H} {sl : Value} {nxs0 : List (Sp × Value)} (hk : 30 < k)
    (nt : NetH lo g0 nb rb xb (baseA n l (goneD gone) j) (room0 (baseA n l (goneD gone) j)) nxs0) (hnb : h3.nx = nb) (hs : SlR g0 56 3 sl (l.map Kl.cells)) (hbx : g0.blk h0.nx = some (.row [iv n, sl] 31 true)) (hbl : h0.nx < g0.nx) :
    ∃ g nxs, f102_l1 rn k gone h0 h3 sl l.length [iv j] g0 = some (.normal, [iv (j + 1 : Nat)], g) ∧ NetH lo g nb rb xb (baseA n l (goneD gone) (j + 1)) (room0 (baseA n l (goneD gone) (j + 1))) nxs ∧ NFr g0 g rb xb nxs0 nxs := by
  have hn := validP_ok hv
  have hjl : j < l.length := (List.getElem?_eq_some_iff.1 hc).1
  obtain ⟨hca, hcb, hcab, _⟩ := okC_iff.1 (hn.2.2.2 j c hc)
  have sf : SimpB (baseA n l (goneD gone) l.length) := base_simp fun i c' hc' => (okC_iff.1 (hn.2.2.2 i c' hc')).2.2.1
  have hfl : (baseA n l (goneD gone) l.length).length ≤ 300 := by
    refine Nat.le_trans (base_len _) (Nat.le_trans (Nat.mul_le_mul hn.2.2.1 (show n + 5 ≤ 12 by omega)) (by decide))
  have pre1 : baseA n l (goneD gone) j ++ chunk n l (goneD gone) j <+: baseA n l (goneD gone) l.length := by rw [← base_succ]; exact base_pre hjl
  have hch : chunk n l (goneD gone) j = waits n j ++ if goneD gone j then [] else gates c j := by unfold chunk; rw [hc]
  -- a copy of the call
  have x7 := (Ext.refl g0).fresh 56 [iv 0, iv 0, iv 0] c.cells
  have hcb7 := blk_fresh g0 56 [iv 0, iv 0, iv 0] c.cells
  generalize e7 : g0.fresh 56 [iv 0, iv 0, iv 0] c.cells = h7 at x7 hcb7
  have n7 : h7.nx = g0.nx + 1 := by rw [← e7]; rfl
  have hbx7 : h7.blk h0.nx = some (.row [iv n, sl] 31 true) := by rw [x7.blk _ hbl, hbx]
  obtain ⟨g1, nxs1, ws1, k1, m1, f1⟩ := f102_l2_in (n := n) (j := j) (B0 := baseA n l (goneD gone) j) (h3 := h3) (k := k) sf hfl (by
    rw [hch, ← List.append_assoc] at pre1
    exact (List.prefix_append _ _).trans pre1) (by omega) (by omega) (by omega) (nt.ext x7) hnb
  have hwl : (waits n j).length = n := by simp [waits]
  -- what the loop has left
  have no0 : ∀ {q : Nat} {L : List Value} {e : TypeId} {w : Bool}, g0.blk q = some (.row L e w) → e ≠ 113 → ¬ Own nxs0 q := fun h1 h2 => nt.next.notOwn fun L' h3 => by rw [h1] at h3; cases h3; exact h2 rfl
  have nocb : ¬ Own nxs0 g0.nx := fun h => by have := (nt.next.lt h).2.1; omega
  have nb7 := (nt.ext x7).rowNe hcb7
  have cb1 : g1.blk g0.nx = some (.row c.cells 56 true) := by rw [f1.blk _ (by omega) nb7.1 nb7.2 nocb, hcb7]
  have head : ∀ {r : Option (Ex × List Value × H)}, (∀ (b : Bool), ifB ((goneD gone j)) (out .normal [iv (j + 1 : Nat)] g1) (
      bld Try.prog 113 [(0, (.int .i64 0)), (1, iv (j + 1 : Nat)), (2, (.bool true))] fun v8 =>
          bld Try.prog 113 [(0, (.int .i64 1)), (1, iv (j + 1 : Nat)), (2, (.bool true))] fun v9 =>
          al g1 113 [(.int .i64 0), (.int .i64 0), (.bool false)] fun h11 =>
          al h11 113 [(.int .i64 0), (.int .i64 0), (.bool false)] fun h12 =>
          st Try.prog h12 113 (AM.nx g1) 0 v8 fun h13 =>
          st Try.prog h13 113 (AM.nx h11) 0 v9 fun h14 =>
          ld Try.prog h14 3 (AM.nx g0) 0 fun v10 =>
          asI .i64 v10 fun n12 =>
          ld Try.prog h14 3 (AM.nx g0) (off 0 1) fun v11 =>
          asI .i64 v11 fun n13 =>
          bls Try.prog h14 25 2 [(0, (.int .i64 n12)), (1, (.int .i64 n13))] fun v12 h15 =>
          len v12 fun n14 =>
          lp k (f102_l3 rn k h3 [iv j] g1 h11 v12 n14) [(.int .i64 0)] h15 fun e1 _ h19 =>
          onE e1 4 (
            ld Try.prog h19 113 (AM.nx g1) 0 fun v20 =>
            ld Try.prog h19 113 (AM.nx h11) 0 fun v21 =>
            calls rn h19 113 [(pt (AM.nx h3) 0), v20, v21, (.int .i64 1)] fun _ h20 =>
            out .normal [iv (j + 1 : Nat)] h20) (
            none)) = r) → f102_l1 rn k gone h0 h3 sl l.length [iv j] g0 = r := by
    intro r hr
    unfold f102_l1
    simp only [gv, List.getD_cons_zero, asI_int, asK_int]
    rw [lt_t (by omega), ifB_true, hs.ldA ag56 sz56 (by omega) (x := c.cells) (by simp [hc]), al_st (zs := [iv 0, iv 0, iv 0]) (xs := c.cells) sz56 rfl rfl, e7, nx_eq, d3, cell_of hbx7]
    simp only [List.getElem?_cons_zero, Option.bind_some, asI_int]
    rw [k1, onE_exit, if_pos rfl]
    unfold AM.nn
    rw [if_neg (by omega), bit_nat (by omega) (by omega), add64 (by omega) (by omega)]
    have := hr true
    rw [← this, show ((j : Int) + 1) = ((j + 1 : Nat) : Int) by omega]
    congr 1
    unfold goneD
    cases gone.testBit j <;> rfl
  cases hd : goneD gone j with
  | true =>
    rw [hd] at hch
    simp only [if_true, List.append_nil] at hch
    rw [base_succ, hch]
    refine ⟨g1, nxs1, head fun _ => by rw [hd, ifB_true]; rfl, m1, (NFr.ext x7).trans f1⟩
  | false =>
    rw [hd] at hch
    simp only [Bool.false_eq_true, if_false] at hch
    rw [base_succ, hch]
    rw [hch] at pre1
    -- the ends of the call
    generalize e11 : g1.new (.row [iv 0, iv 0, .bool false] 113 true) = h11
    generalize e12 : h11.new (.row [iv 0, iv 0, .bool false] 113 true) = h12
    generalize e13 : h12.set g1.nx (.row (inS j).cells 113 true) = h13
    generalize e14 : h13.set h11.nx (.row (outS j).cells 113 true) = h14
    generalize e15 : h14.new (.row [iv c.a, iv c.b] 3 true) = h15
    have n11 : h11.nx = g1.nx + 1 := by rw [← e11]; rfl
    have n14 : h14.nx = g1.nx + 2 := by rw [← e14, ← e13, ← e12]; show h11.nx + 1 = _; omega
    have n15 : h15.nx = g1.nx + 3 := by rw [← e15]; show h14.nx + 1 = _; omega
    have b12 : h12.blk g1.nx = some (.row [iv 0, iv 0, .bool false] 113 true) := by rw [← e12, blk_new, if_neg (by omega), ← e11, blk_new, if_pos rfl]
    have b13 : h13.blk h11.nx = some (.row [iv 0, iv 0, .bool false] 113 true) := by
      rw [← e13]
      show (if h11.nx = g1.nx then _ else h12.blk h11.nx) = _
      rw [if_neg (by omega), ← e12, blk_new, if_pos rfl]
    have bi14 : h14.blk g1.nx = some (.row (inS j).cells 113 true) := by
      rw [← e14]
      show (if g1.nx = h11.nx then _ else h13.blk g1.nx) = _
      rw [if_neg (by omega), ← e13]
      show (if g1.nx = g1.nx then _ else _) = _
      rw [if_pos rfl]
    have bo14 : h14.blk h11.nx = some (.row (outS j).cells 113 true) := by
      rw [← e14]
      show (if h11.nx = h11.nx then _ else _) = _
      rw [if_pos rfl]
    have x14 : Ext g1 h14 := ⟨by omega, fun q hq => by
      rw [← e14]
      show (if q = h11.nx then _ else h13.blk q) = _
      rw [if_neg (by omega), ← e13]
      show (if q = g1.nx then _ else h12.blk q) = _
      rw [if_neg (by omega), ← e12, blk_new, if_neg (by omega), ← e11, blk_new, if_neg (by omega)]⟩
    have x15 : Ext h14 h15 := by rw [← e15]; exact .new _ _
    have x1 := x14.trans x15
    have cb14 : h14.blk g0.nx = some (.row c.cells 56 true) := by rw [x14.blk _ (by have := f1.nx; omega), cb1]
    have bi15 : h15.blk g1.nx = some (.row (inS j).cells 113 true) := by rw [x15.blk _ (by omega), bi14]
    have bo15 : h15.blk h11.nx = some (.row (outS j).cells 113 true) := by rw [x15.blk _ (by omega), bo14]
    have bv15 : h15.blk (h15.nx - 1) = some (.row [iv c.a, iv c.b] 3 true) := by rw [show h15.nx - 1 = h14.nx by omega, ← e15, blk_new, if_pos rfl]
    have noi : ¬ Own nxs1 g1.nx := fun h => by have := (m1.next.lt h).2.1; omega
    have noo : ¬ Own nxs1 h11.nx := fun h => by have := (m1.next.lt h).2.1; omega
    have m15 := m1.ext x1
    obtain ⟨g2, nxs2, ws2, k2, m2, f2⟩ := f102_l3_in (c := c) (j := j) (h3 := h3) (h10 := g1) (h11 := h11) (k := k) sf hfl (by rw [List.append_assoc]; exact pre1) (by omega) (by omega) m15 hnb bi15 bo15 (by omega) (by omega) noi noo
      (v12 := .slice (some ⟨h14.nx, 0, none⟩) 2 2) (by rw [show h15.nx - 1 = h14.nx by omega]) bv15
    have gi := m15.rowNe bi15
    have go := m15.rowNe bo15
    have bi2 : g2.blk g1.nx = some (.row (inS j).cells 113 true) := by rw [f2.blk _ (by omega) gi.1 gi.2 noi, bi15]
    have bo2 : g2.blk h11.nx = some (.row (outS j).cells 113 true) := by rw [f2.blk _ (by omega) go.1 go.2 noo, bo15]
    have tk : gates c j = (gates c j).take 4 ++ [(inS j, outS j, 1)] := rfl
    obtain ⟨g3, nxs3, k3, m3, f3⟩ := join_k (a := (inS j, outS j, 1)) (B := baseA n l (goneD gone) j ++ waits n j ++ (gates c j).take 4) (by
      rw [List.append_assoc, ← tk, List.append_assoc]; exact pre1) sf hfl ⟨by simp, by simp⟩ m2
    refine ⟨g3, nxs3, head fun _ => ?_, ?_, (((NFr.ext x7).trans f1).trans (NFr.ext x1)).trans (f2.trans f3)⟩
    · rw [hd, ifB_false, kSp, kSp, al_eq, e11, al_eq, e12, nx_eq, nx_eq, nx_eq, nx_eq]
      rw [st113 (x := ⟨0, ((j + 1 : Nat) : Int), true⟩) b12 rfl, show (⟨0, ((j + 1 : Nat) : Int), true⟩ : Sp) = inS j by simp, e13]
      rw [st113 (x := ⟨1, ((j + 1 : Nat) : Int), true⟩) b13 rfl, show (⟨1, ((j + 1 : Nat) : Int), true⟩ : Sp) = outS j by simp, e14]
      rw [d3, cell_of cb14]
      simp only [Kl.cells, List.getElem?_cons_zero, Option.bind_some, asI_int]
      rw [d3, cell_of cb14, show off 0 1 = 1 from rfl]
      simp only [Kl.cells, List.getElem?_cons_succ, List.getElem?_cons_zero, Option.bind_some, asI_int]
      unfold bls
      rw [bls25_2]
      simp only [Option.bind_some, e15, len_slice]
      refine (k2 _).trans ?_
      rw [onE_exit, if_pos rfl, ldS bi2, ldS bo2, hnb]
      refine (k3 _).trans ?_
      rfl
    · rw [← List.append_assoc]
      rw [tk, ← List.append_assoc]
      exact m3
end
end Go.AM
end

section
namespace Go.AM
open Go.Proofs
theorem kb118 (a b : Nat) {R : Type} (K : Value → Option R) : bld Try.prog 118 [(0, .map (some a)), (1, .map (some b))] K = K (.agg #[.map (some a), .map (some b)]) := bld_some (by kernel_rfl)
theorem s102 {n : Nat} {l : List Kl} {gone : Nat} {sl : Value} {h : H} (hs : SlR h 56 3 sl (l.map Kl.cells)) (hv : validP n l = true) (hgn : gone < 2 ^ 62) :
    ∃ h' nb rb xb nxs, rn 102 #[.agg #[iv n, sl], iv gone] h = some (pt nb 0, h') ∧ NetH h.nx h' nb rb xb (baseA n l (goneD gone) l.length) (room0 (baseA n l (goneD gone) l.length)) nxs ∧ Ext h h' := by
  have hn := validP_ok hv
  obtain ⟨a, m, cp, rfl⟩ := hs.isSl
  generalize hsl : Value.slice a m cp = sl at hs
  generalize e1 : h.new (.row [iv n, sl] 31 true) = h1
  generalize e2 : h1.new (.mp [] 0) = h2
  generalize e3 : h2.new (.mp [] 0) = h3
  generalize e4 : h3.new (.row [.map (some h1.nx), .map (some h2.nx)] 118 true) = h4
  have n1 : h1.nx = h.nx + 1 := by rw [← e1]; rfl
  have n2 : h2.nx = h.nx + 2 := by rw [← e2]; show h1.nx + 1 = _; omega
  have n3 : h3.nx = h.nx + 3 := by rw [← e3]; show h2.nx + 1 = _; omega
  have n4 : h4.nx = h.nx + 4 := by rw [← e4]; show h3.nx + 1 = _; omega
  have x4 : Ext h h4 := by rw [← e4, ← e3, ← e2, ← e1]; exact (((Ext.new _ _).trans (.new _ _)).trans (.new _ _)).trans (.new _ _)
  have bx4 : h4.blk h.nx = some (.row [iv n, sl] 31 true) := by rw [← e4, blk_new, if_neg (by omega), ← e3, blk_new, if_neg (by omega), ← e2, blk_new, if_neg (by omega), ← e1, blk_new, if_pos rfl]
  have nt0 : NetH h.nx h4 h3.nx h1.nx h2.nx (baseA n l (goneD gone) 0) (room0 (baseA n l (goneD gone) 0)) [] := by
    refine ⟨?_, by omega, ?_, by omega, by omega, ⟨?_, by omega, fun u v hv => ?_, fun u _ => rfl, fun u u' v v' b hv => ?_⟩, by omega, by omega, by omega⟩
    · rw [← e4, blk_new, if_pos rfl]
    · rw [← e4, blk_new, if_neg (by omega), ← e3, blk_new, if_neg (by omega), ← e2, blk_new, if_pos rfl]; rfl
    · rw [← e4, blk_new, if_neg (by omega), ← e3, blk_new, if_pos rfl]; rfl
    · cases hv
    · cases hv
  obtain ⟨ws', g, e, e0, nxs, m1, m2⟩ := lp_for (k := 1000) (l := l) (F := f102_l1 rn 1000 gone h h3 sl l.length) (σ := Unit) (fun _ _ s => s)
    (fun i _ ws g => ws = [iv i] ∧ ∃ nxs, NetH h.nx g h3.nx h1.nx h2.nx (baseA n l (goneD gone) i) (room0 (baseA n l (goneD gone) i)) nxs ∧ NFr h4 g h1.nx h2.nx [] nxs) 0 (ws := [iv 0]) (h := h4) (s0 := ())
    ⟨rfl, [], nt0, ⟨Nat.le_refl _, fun _ _ _ _ _ => rfl, fun _ h => .inl h⟩⟩ (by omega)
    (fun _ ws g hI => by
      obtain ⟨rfl, _⟩ := hI
      simp only [f102_l1, gv, List.getD_cons_zero, asI_int]
      rw [lt_f (by omega), ifB_false]; rfl)
    (fun i c _ ws g hc hI => by
      obtain ⟨rfl, nxs, m1, m2⟩ := hI
      have no : ∀ q, ¬ Own [] q := fun q ⟨u, v, hv, _⟩ => by cases hv
      have below : ∀ q, q < h.nx + 1 → g.blk q = h4.blk q := fun q hq => m2.blk q (by omega) (by omega) (by omega) (no q)
      have hsg : SlR g 56 3 sl (l.map Kl.cells) := hs.ext ⟨by have := m2.nx; omega, fun q hq => by rw [below q (by omega), x4.blk q hq]⟩
      obtain ⟨g', nxs', f1, f2, f3⟩ := f102_l1_in (k := 1000) (h0 := h) (h3 := h3) (sl := sl) hc hv hgn (by omega) m1 rfl hsg (by rw [below _ (by omega), bx4]) (by have := m2.nx; omega)
      exact ⟨[iv (i + 1 : Nat)], g', f1, rfl, nxs', f2, m2.trans f3⟩)
  have hrun : f102 rn 1000 (.agg #[iv n, sl]) gone h = some (pt h3.nx 0, g) := by
    unfold f102
    rw [bx_eq]
    simp only [Value.cells]
    rw [e1, mkm_eq, e2, mkm_eq, e3]
    simp only [nx_eq]
    rw [kb118, bx_eq]
    simp only [Value.cells]
    rw [e4, d29, cell_of bx4, show off 0 1 = 1 from rfl]
    simp only [List.getElem?_cons_succ, List.getElem?_cons_zero, Option.bind_some]
    rw [hs.len, List.length_map, lp_eq e, onE_exit, if_pos rfl]
  have xg : Ext h g := ⟨by have := m2.nx; omega, fun q hq => by rw [m2.blk q (by omega) (by omega) (by omega) (fun ⟨u, v, hv, _⟩ => by cases hv), x4.blk q hq]⟩
  exact ⟨g, h3.nx, h1.nx, h2.nx, nxs, x102 hrun rfl, m1, xg⟩
end Go.AM
end

section
namespace Go.AM
open Go.Proofs
/-- A loop that goes on while something grows less. -/
theorem lp_meas {σ : Type} {F : List Value → H → Option (Ex × List Value × H)} (I : σ → List Value → H → Prop) (m : σ → Nat) (Q : Ex → List Value → H → Prop)
    (step : ∀ s ws h, I s ws h → ∃ e ws' h', F ws h = some (e, ws', h') ∧ ((e = .normal ∧ ∃ s', I s' ws' h' ∧ m s' < m s) ∨ (e ≠ .normal ∧ Q e ws' h'))) :
    ∀ (k : Nat) (s : σ) (ws : List Value) (h : H), m s < k → I s ws h → ∃ e ws' h', lpGo F k ws h = some (e, ws', h') ∧ Q e ws' h' := by
  intro k
  induction k with
  | zero => intro s ws h hk; omega
  | succ k ih =>
    intro s ws h hk hI
    obtain ⟨e, ws', h', e1, e2⟩ := step s ws h hI
    simp only [lpGo, e1, Option.bind_some]
    rcases e2 with ⟨rfl, s', i', lt⟩ | ⟨hne, q⟩
    · exact ih s' ws' h' (by omega) i'
    · cases e with
      | normal => exact absurd rfl hne
      | exit i => exact ⟨_, _, _, rfl, q⟩
      | ret => exact ⟨_, _, _, rfl, q⟩
/-- The keys of the map of rooms. -/
def keysA (B : List Arc) : List (Sp × Sp) := B.flatMap fun a => [(a.2.1, a.1), (a.1, a.2.1)]
theorem ks_map (B : List Arc) (r : Sp → Sp → Int) : ksA B r = (keysA B).map fun q => (q, iv (r q.1 q.2)) := by
  unfold ksA keysA
  rw [List.map_flatMap]
  rfl
theorem mem_keysA {B : List Arc} {u v : Sp} : (u, v) ∈ keysA B ↔ onA B u v := by
  unfold keysA onA
  rw [List.mem_flatMap]
  constructor
  · rintro ⟨a, ha, h⟩
    simp only [List.mem_cons, List.not_mem_nil, or_false, Prod.mk.injEq] at h
    rcases h with h | h
    · exact ⟨a, ha, .inr ⟨h.2.symm, h.1.symm⟩⟩
    · exact ⟨a, ha, .inl ⟨h.1.symm, h.2.symm⟩⟩
  · rintro ⟨a, ha, h⟩
    refine ⟨a, ha, ?_⟩
    simp only [List.mem_cons, List.not_mem_nil, or_false, Prod.mk.injEq]
    rcases h with h | h
    · exact .inr ⟨h.1.symm, h.2.symm⟩
    · exact .inl ⟨h.2.symm, h.1.symm⟩
theorem keysA_nodup {B : List Arc} (sb : SimpB B) : (keysA B).Nodup := by
  obtain ⟨pw, ne⟩ := sb
  induction B with
  | nil => exact List.nodup_nil
  | cons a B ih =>
    rw [List.pairwise_cons] at pw
    show ([(a.2.1, a.1), (a.1, a.2.1)] ++ keysA B).Nodup
    rw [List.nodup_append]
    refine ⟨?_, ih pw.2 fun b hb => ne b (List.mem_cons_of_mem _ hb), ?_⟩
    · have := ne a List.mem_cons_self
      simp only [List.nodup_cons, List.mem_cons, Prod.mk.injEq, List.not_mem_nil, or_false, not_false_eq_true, List.nodup_nil, and_true]
      exact fun h => this h.2
    · intro x hx y hy
      rintro rfl
      obtain ⟨u, v⟩ := x
      obtain ⟨b, hb, h⟩ := mem_keysA.1 hy
      have := pw.1 b hb
      unfold ApartA at this
      simp only [ne_eq, Prod.mk.injEq] at this
      simp only [List.mem_cons, List.not_mem_nil, or_false, Prod.mk.injEq] at hx
      rcases hx with ⟨h1, h2⟩ | ⟨h1, h2⟩ <;> rcases h with ⟨h3, h4⟩ | ⟨h3, h4⟩
      · exact this.2 ⟨by rw [h4, ← h2], by rw [h3, ← h1]⟩
      · exact this.1 ⟨by rw [h3, ← h2], by rw [h4, ← h1]⟩
      · exact this.1 ⟨by rw [h3, ← h1], by rw [h4, ← h2]⟩
      · exact this.2 ⟨by rw [h4, ← h1], by rw [h3, ← h2]⟩
theorem lookK_map {κ : Type} [DecidableEq κ] {f : κ → Value} : ∀ (ks : List κ) (k : κ) (i : Nat), ks.Nodup → k ∈ ks → ∃ j, ks[j]? = some k ∧ lookK (ks.map fun q => (q, f q)) k i = some (i + j, f k) := by
  intro ks
  induction ks with
  | nil => intro k i _ h; cases h
  | cons q ks ih =>
    intro k i hn hk
    rw [List.nodup_cons] at hn
    simp only [List.map_cons, lookK]
    by_cases e : k = q
    · subst e
      exact ⟨0, rfl, by rw [if_pos rfl]; rfl⟩
    · rw [if_neg e]
      obtain ⟨j, h1, h2⟩ := ih k (i + 1) hn.2 ((List.mem_cons.1 hk).resolve_left e)
      exact ⟨j + 1, by simpa using h1, by rw [h2, show i + 1 + j = i + (j + 1) by omega]⟩
theorem putK_map {κ : Type} [DecidableEq κ] {f g : κ → Value} {ks : List κ} (hn : ks.Nodup) {k : κ} (hk : k ∈ ks) {v : Value} (hv : g k = v) (ho : ∀ q, q ≠ k → g q = f q) : putK (ks.map fun q => (q, f q)) k v = ks.map fun q => (q, g q) := by
  obtain ⟨j, h1, h2⟩ := lookK_map (f := f) ks k 0 hn hk
  rw [Nat.zero_add] at h2
  unfold putK
  rw [h2]
  refine List.ext_getElem? fun i => ?_
  simp only
  rw [List.getElem?_set, List.getElem?_map, List.getElem?_map]
  by_cases e : j = i
  · subst e
    have hlt := (List.getElem?_eq_some_iff.1 h1).1
    rw [if_pos rfl, if_pos (by rw [List.length_map]; exact hlt), h1, Option.map_some, hv]
  · rw [if_neg e]
    cases hi : ks[i]? with
    | none => rfl
    | some q =>
      have : q ≠ k := by
        rintro rfl
        exact e ((List.getElem?_inj (List.getElem?_eq_some_iff.1 h1).1 hn).1 (h1.trans hi.symm))
      simp only [Option.map_some, ho q this]
/-- One room is written. -/
def updR (r : Sp → Sp → Int) (x y : Sp) (z : Int) : Sp → Sp → Int := fun u v => if u = x ∧ v = y then z else r u v
theorem ks_put {B : List Arc} (sb : SimpB B) {r : Sp → Sp → Int} {x y : Sp} (hon : onA B x y) (z : Int) : putK (ksA B r) (x, y) (iv z) = ksA B (updR r x y z) := by
  rw [ks_map, ks_map]
  refine putK_map (keysA_nodup sb) (mem_keysA.2 hon) ?_ fun q hq => ?_
  · simp [updR]
  · obtain ⟨u, v⟩ := q
    unfold updR
    rw [if_neg (fun h : u = x ∧ v = y => hq (by rw [h.1, h.2]))]
theorem upd_step {r : Sp → Sp → Int} {x y : Sp} (hxy : x ≠ y) : updR (updR r x y (r x y - 1)) y x (r y x + 1) = stepR r x y := by
  funext u v
  unfold updR stepR
  by_cases h1 : u = x ∧ v = y
  · obtain ⟨rfl, rfl⟩ := h1
    rw [if_neg (fun h => hxy h.1), if_pos ⟨rfl, rfl⟩, if_pos ⟨rfl, rfl⟩]
  · by_cases h2 : u = y ∧ v = x
    · obtain ⟨rfl, rfl⟩ := h2
      rw [if_pos ⟨rfl, rfl⟩, if_neg h1, if_pos ⟨rfl, rfl⟩]
    · rw [if_neg h2, if_neg h1, if_neg h1, if_neg h2]
/-- m[k]++ and the like, where the entry is there. -/
theorem men_est {κ : Type} [DecidableEq κ] {P : Program} {kt vt t : TypeId} {enc : κ → Value} {h : H} {b : Nat} {kv : List (κ × Value)} {k : κ} {R : Type} {z v0 v : Value} (q : Key P kt enc) (ht : P.underlying t = some (.map kt vt)) (hz : zero? P vt = some z)
    (hb : h.blk b = some (mpOf enc kv)) (hk : valK kv k = some v0) (K : H → Option R) :
    (men P h t (.map (some b)) (enc k) fun v1 h1 => ck (twm (.map (some b)) (.map (some b))) (ext v1 1 fun v2 => asI .i64 v2 fun n => est h1 (.map (some b)) (.int .i64 n) v K)) = K ((h.set b (mpOf enc kv)).set b (mpOf enc (putK kv k v))) := by
  rw [men_of q ht hz hb]
  unfold valK at hk
  obtain ⟨⟨i, v1⟩, hl, rfl⟩ := Option.map_eq_some_iff.1 hk
  obtain ⟨j, h1, h2⟩ := lookK_some kv 0 _ hl
  simp only [Nat.zero_add] at h1
  subst h1
  rw [hl]
  simp only [twm, beq_self_eq_true, ck_true, ext, show (#[v1, Value.int .i64 (i : Nat)] : Array Value)[1]? = some (.int .i64 (i : Nat)) from rfl, Option.bind_some, asI_int]
  rw [est_of (h := h.set b (mpOf enc kv)) (kv := kv) (by show (if b = b then _ else _) = _; rw [if_pos rfl]) h2]
  unfold putK
  rw [hl]
end Go.AM
end

section
namespace Go.AM
open Go.Proofs
/-- From where each spot was reached, in order. -/
abbrev kvF (fr : List (Sp × Sp)) : List (Sp × Value) := fr.map fun q => (q.1, q.2.val)
structure FrOk (B : List Arc) (S : Sp) (fr : List (Sp × Sp)) : Prop where
  nd : (fr.map (·.1)).Nodup
  h0 : fr[0]? = some (S, S)
  back : ∀ (i : Nat) (y x : Sp), 1 ≤ i → fr[i]? = some (y, x) → onA B x y ∧ ∃ (i' : Nat) (x' : Sp), i' < i ∧ fr[i']? = some (x, x')
theorem valK_fr {fr : List (Sp × Sp)} (hn : (fr.map (·.1)).Nodup) {i : Nat} {y x : Sp} (h : fr[i]? = some (y, x)) : valK (kvF fr) y = some x.val := by
  have go : ∀ (fr : List (Sp × Sp)) (i j : Nat), (fr.map (·.1)).Nodup → fr[i]? = some (y, x) → (lookK (kvF fr) y j).map (·.2) = some x.val := by
    intro fr
    induction fr with
    | nil => intro i j _ h; simp at h
    | cons q fr ih =>
      intro i j hn h
      rw [List.map_cons, List.nodup_cons] at hn
      simp only [kvF, List.map_cons, lookK]
      cases i with
      | zero =>
        simp only [List.getElem?_cons_zero, Option.some.injEq] at h
        subst h
        simp
      | succ i =>
        rw [List.getElem?_cons_succ] at h
        have hne : y ≠ q.1 := by
          rintro rfl
          exact hn.1 (List.mem_map.2 ⟨_, List.mem_of_getElem? h, rfl⟩)
        rw [if_neg hne]
        exact ih i (j + 1) hn.2 h
  exact go fr i 0 hn h
theorem kEq (x y : Sp) {R : Type} (K : Bool → Option R) : eqv Try.prog 113 x.val y.val K = K (decide (x = y)) := by
  unfold eqv
  rw [show binOp Try.prog .eql 113 x.val y.val = (eqV Try.prog 10 113 x.val y.val).map Value.bool by kernel_rfl, eqS 10 _ _ (.inl rfl)]
  rfl
structure TurnI (lo nb rb xb fb sb yb : Nat) (B : List Arc) (k : Nat) (S T : Sp) (fr : List (Sp × Sp)) (nxs : List (Sp × Value)) (g0 : H) (i : Nat) (r : Sp → Sp → Int) (cur x : Sp) (g : H) : Prop where
  net : NetH lo g nb rb xb B r nxs
  aug : AugOk B r k S T cur
  at_ : fr[i]? = some (cur, x)
  pos : ∀ (j : Nat) (y x : Sp), 1 ≤ j → j ≤ i → fr[j]? = some (y, x) → 1 ≤ r x y
  small : ∀ u v, onA B u v → 0 ≤ r u v ∧ r u v ≤ 1000
  yB : g.blk yb = some (.row cur.cells 113 true)
  sB : g.blk sb = some (.row S.cells 113 true)
  fB : g.blk fb = some (mpOf Sp.val (kvF fr))
  nx : g.nx = g0.nx
  frm : ∀ c, c ≠ rb → c ≠ yb → g.blk c = g0.blk c
theorem small_of {B : List Arc} {r : Sp → Sp → Int} {k : Nat} {S T cur : Sp} (f : AugOk B r k S T cur) (hc : ∀ a ∈ B, a.2.2 ≤ 1000) (u v : Sp) (h : onA B u v) : 0 ≤ r u v ∧ r u v ≤ 1000 := by
  obtain ⟨a, ha, h⟩ := h
  have h1 := f.nn a ha
  have h2 := hc a ha
  rcases h with ⟨rfl, rfl⟩ | ⟨rfl, rfl⟩ <;> omega
theorem turn_step {lo nb rb xb fb sb yb : Nat} {B : List Arc} {k kk : Nat} {S T : Sp} {fr : List (Sp × Sp)} {nxs : List (Sp × Value)} {g0 : H} (sbB : SimpB B) (hc : ∀ a ∈ B, a.2.2 ≤ 1000) (fo : FrOk B S fr)
    {h0 h2 h7 : H} (hh0 : h0.nx = sb) (hh2 : h2.nx = fb) (hh7 : h7.nx = yb) (hfb : fb ≠ rb ∧ fb ≠ yb) (hsb : sb ≠ rb ∧ sb ≠ yb) (hyr : yb ≠ rb) (hyn : yb ≠ nb ∧ yb ≠ xb ∧ ¬ Own nxs yb)
    {i : Nat} {r : Sp → Sp → Int} {cur x : Sp} {g : H} (t : TurnI lo nb rb xb fb sb yb B k S T fr nxs g0 i r cur x g) (hcur : cur ≠ S) :
    ∃ g' i' x', f103_l3 rn kk (pt nb 0) h0 h2 h7 [] g = some (.normal, [], g') ∧ i' < i ∧ TurnI lo nb rb xb fb sb yb B k S T fr nxs g0 i' (stepR r x cur) x x' g' := by
  obtain ⟨nr1, nr2, nr3, nr4⟩ := t.net.nr
  have hi1 : 1 ≤ i := by
    refine Nat.one_le_iff_ne_zero.2 fun e => hcur ?_
    have := t.at_
    rw [e, fo.h0] at this
    simp only [Option.some.injEq, Prod.mk.injEq] at this
    exact this.1.symm
  obtain ⟨hon, i', x', hlt, hx'⟩ := fo.back i cur x hi1 t.at_
  have onS : onA B cur x := by obtain ⟨a, h1, h2⟩ := hon; exact ⟨a, h1, h2.symm⟩
  have hxy : x ≠ cur := by
    obtain ⟨a, ha, h⟩ := hon
    have := sbB.ne a ha
    rcases h with ⟨h1, h2⟩ | ⟨h1, h2⟩
    · rw [← h1, ← h2]; exact this
    · rw [← h1, ← h2]; exact Ne.symm this
  have hr1 := t.pos i cur x hi1 (Nat.le_refl _) t.at_
  have sm1 := t.small x cur hon
  have sm2 := t.small cur x onS
  have hf := valK_fr fo.nd t.at_
  have rm := t.net.rm
  have v1 := (valK_ks B r x cur).1 hon
  generalize e1 : (g.set rb (mpOf encA (ksA B r))).set rb (mpOf encA (putK (ksA B r) (x, cur) (iv (r x cur - 1)))) = g1
  have b1 : ∀ c, c ≠ rb → g1.blk c = g.blk c := fun c hc => by
    rw [← e1]
    show (if c = rb then _ else (if c = rb then _ else _)) = _
    rw [if_neg hc, if_neg hc]
  have rm1 : g1.blk rb = some (mpOf encA (ksA B (updR r x cur (r x cur - 1)))) := by
    rw [← e1, ks_put sbB hon]
    show (if rb = rb then _ else _) = _
    rw [if_pos rfl]
  have v2 := (valK_ks B (updR r x cur (r x cur - 1)) cur x).1 onS
  have eu : updR r x cur (r x cur - 1) cur x = r cur x := by unfold updR; rw [if_neg fun h => hxy h.1.symm]
  rw [eu] at v2
  generalize e2 : (g1.set rb (mpOf encA (ksA B (updR r x cur (r x cur - 1))))).set rb (mpOf encA (putK (ksA B (updR r x cur (r x cur - 1))) (cur, x) (iv (r cur x + 1)))) = g2
  have b2 : ∀ c, c ≠ rb → g2.blk c = g.blk c := fun c hc => by
    rw [← e2]
    show (if c = rb then _ else (if c = rb then _ else g1.blk c)) = _
    rw [if_neg hc, if_neg hc, b1 c hc]
  have rm2 : g2.blk rb = some (mpOf encA (ksA B (stepR r x cur))) := by
    rw [← e2, ks_put sbB onS, upd_step hxy]
    show (if rb = rb then _ else _) = _
    rw [if_pos rfl]
  generalize e3 : g2.set yb (.row x.cells 113 true) = g3
  have b3 : ∀ c, c ≠ rb → c ≠ yb → g3.blk c = g.blk c := fun c hc hy => by
    rw [← e3]
    show (if c = yb then _ else g2.blk c) = _
    rw [if_neg hy, b2 c hc]
  have n3 : g3.nx = g.nx := by rw [← e3, ← e2, ← e1]; rfl
  have aug' := t.aug.step sbB hon hr1
  refine ⟨g3, i', x', ?_, hlt, ⟨⟨?_, by rw [n3]; exact t.net.nlt, ?_, by rw [n3]; exact t.net.rlt, t.net.ne, ?_, t.net.los⟩, aug', hx', fun j y z hj1 hj2 hj => ?_, small_of aug' hc, ?_, ?_, ?_, by rw [n3, t.nx], fun c c1 c2 => by rw [b3 c c1 c2, t.frm c c1 c2]⟩⟩
  · unfold f103_l3
    simp only [nx_eq, hh0, hh2, hh7]
    rw [ldS t.yB, ldS t.sB, kEq, decide_eq_false hcur]
    simp only [Bool.not_false, ifB_true, AM.nil, asP_ptr]
    rw [d115, cell_of t.net.str]
    simp only [List.getElem?_cons_zero, Option.bind_some]
    rw [ldS t.yB, lok_of0 keyS under133 zero113 t.fB, hf]
    simp only [Option.getD_some]
    rw [ldS t.yB, kA, lok_of0 keyA under115 zero3 rm, v1]
    simp only [Option.getD_some, asI_int]
    rw [sub64 (by omega) (by omega)]
    refine (men_est keyA under115 zero3 rm v1 _).trans ?_
    rw [e1]
    rw [d115, cell_of (by rw [b1 _ nr1]; exact t.net.str)]
    simp only [List.getElem?_cons_zero, Option.bind_some]
    rw [ldS (by rw [b1 _ hyr]; exact t.yB), ldS (by rw [b1 _ hyr]; exact t.yB), lok_of0 keyS under133 zero113 (by rw [b1 _ hfb.1]; exact t.fB), hf]
    simp only [Option.getD_some]
    rw [kA, lok_of0 keyA under115 zero3 rm1, v2]
    simp only [Option.getD_some, asI_int]
    rw [add64 (by omega) (by omega)]
    refine (men_est keyA under115 zero3 rm1 v2 _).trans ?_
    rw [e2, ldS (by rw [b2 _ hyr]; exact t.yB), lok_of0 keyS under133 zero113 (by rw [b2 _ hfb.1]; exact t.fB), hf]
    simp only [Option.getD_some]
    rw [st113 (by rw [b2 _ hyr]; exact t.yB) rfl, e3]
    rfl
  · rw [b3 _ nr1 (Ne.symm hyn.1), t.net.str]
  · rw [← e3]
    show (if rb = yb then _ else g2.blk rb) = _
    rw [if_neg (Ne.symm hyr), rm2]
  · exact t.net.next.keep (by omega) (b3 _ (Ne.symm t.net.ne) (Ne.symm hyn.2.1)) fun c hc => b3 c (fun e => nr4 (by rw [← e]; exact hc)) (fun e => hyn.2.2 (by rw [← e]; exact hc))
  · have h1 := t.pos j y z hj1 (by omega) hj
    refine Int.le_trans h1 (step_other fun h => ?_)
    obtain ⟨rfl, rfl⟩ := h
    have h2 : (fr.map (·.1))[j]? = some y := by rw [List.getElem?_map, hj]; rfl
    have h3 : (fr.map (·.1))[i]? = some y := by rw [List.getElem?_map, t.at_]; rfl
    have := (List.getElem?_inj (List.getElem?_eq_some_iff.1 h2).1 fo.nd).1 (h2.trans h3.symm)
    omega
  · rw [← e3]
    show (if yb = yb then _ else _) = _
    rw [if_pos rfl]
  · rw [b3 _ hsb.1 hsb.2, t.sB]
  · rw [b3 _ hfb.1 hfb.2, t.fB]
theorem turn_all {lo nb rb xb fb sb yb : Nat} {B : List Arc} {k kk : Nat} {S T : Sp} {fr : List (Sp × Sp)} {nxs : List (Sp × Value)} {g0 : H} (sbB : SimpB B) (hc : ∀ a ∈ B, a.2.2 ≤ 1000) (fo : FrOk B S fr)
    {h0 h2 h7 : H} (hh0 : h0.nx = sb) (hh2 : h2.nx = fb) (hh7 : h7.nx = yb) (hfb : fb ≠ rb ∧ fb ≠ yb) (hsb : sb ≠ rb ∧ sb ≠ yb) (hyr : yb ≠ rb) (hyn : yb ≠ nb ∧ yb ≠ xb ∧ ¬ Own nxs yb)
    {i : Nat} {r : Sp → Sp → Int} {cur x : Sp} {g : H} (t : TurnI lo nb rb xb fb sb yb B k S T fr nxs g0 i r cur x g) (hk : i < kk) :
    ∃ g' r', (∀ {R : Type} (K : Ex → List Value → H → Option R), lp kk (f103_l3 rn kk (pt nb 0) h0 h2 h7) [] g K = K (.exit 4) [] g') ∧ NetH lo g' nb rb xb B r' nxs ∧ FlowOk B r' (k + 1) S T ∧ g'.nx = g0.nx ∧ ∀ c, c ≠ rb → c ≠ yb → g'.blk c = g0.blk c := by
  obtain ⟨e, ws, g', e1, rfl, rfl, r', h1, h2', h3, h4⟩ := lp_meas (F := f103_l3 rn kk (pt nb 0) h0 h2 h7) (σ := Nat × (Sp → Sp → Int) × Sp × Sp)
    (fun s ws g => ws = [] ∧ TurnI lo nb rb xb fb sb yb B k S T fr nxs g0 s.1 s.2.1 s.2.2.1 s.2.2.2 g) (fun s => s.1)
    (fun e ws g' => e = .exit 4 ∧ ws = [] ∧ ∃ r', NetH lo g' nb rb xb B r' nxs ∧ FlowOk B r' (k + 1) S T ∧ g'.nx = g0.nx ∧ ∀ c, c ≠ rb → c ≠ yb → g'.blk c = g0.blk c)
    (fun s ws g hI => by
      obtain ⟨i, r, cur, x⟩ := s
      obtain ⟨rfl, t⟩ := hI
      simp only at t
      by_cases hcur : cur = S
      · subst hcur
        refine ⟨.exit 4, [], g, ?_, .inr ⟨by simp, rfl, rfl, r, t.net, t.aug.done, t.nx, t.frm⟩⟩
        unfold f103_l3
        simp only [nx_eq, hh0, hh7]
        rw [ldS t.yB, ldS t.sB, kEq]
        simp [ifB, out]
      · obtain ⟨g', i', x', h1, h2, h3⟩ := turn_step (kk := kk) sbB hc fo hh0 hh2 hh7 hfb hsb hyr hyn t hcur
        exact ⟨.normal, [], g', h1, .inl ⟨rfl, (i', _, x, x'), ⟨rfl, h3⟩, h2⟩⟩) kk (i, r, cur, x) [] g hk ⟨rfl, t⟩
  exact ⟨g', r', fun K => lp_eq e1, h1, h2', h3, h4⟩
end Go.AM
end

section
namespace Go.AM
open Go.Proofs
/-- The search: what was reached (and from where), what is done, what waits. -/
structure Bfs (B : List Arc) (r : Sp → Sp → Int) (S T : Sp) (fr : List (Sp × Sp)) (dn q : List Sp) : Prop where
  fo : FrOk B S fr
  keys : fr.map (·.1) = dn ++ q
  pos : ∀ (i : Nat) (y x : Sp), 1 ≤ i → fr[i]? = some (y, x) → 1 ≤ r x y
  noT : T ∉ fr.map (·.1)
  cl : ∀ u ∈ dn, ∀ y ∈ nbrs B u, y ∈ fr.map (·.1) ∨ r u y = 0
theorem mem_nbrs {B : List Arc} {u v : Sp} : v ∈ nbrs B u ↔ onA B u v := by
  unfold nbrs onA
  rw [List.mem_flatMap]
  constructor
  · rintro ⟨a, ha, h⟩
    refine ⟨a, ha, ?_⟩
    rcases List.mem_append.1 h with h | h
    · split at h
      · rename_i e; exact .inl ⟨e, (List.mem_singleton.1 h).symm⟩
      · cases h
    · split at h
      · rename_i e; exact .inr ⟨(List.mem_singleton.1 h).symm, e⟩
      · cases h
  · rintro ⟨a, ha, h⟩
    refine ⟨a, ha, ?_⟩
    rcases h with ⟨h1, h2⟩ | ⟨h1, h2⟩
    · exact List.mem_append_left _ (by rw [if_pos h1]; simp [h2])
    · exact List.mem_append_right _ (by rw [if_pos h2]; simp [h1])
theorem Bfs.init {B : List Arc} {r : Sp → Sp → Int} {S T : Sp} (h : S ≠ T) : Bfs B r S T [(S, S)] [] [S] where
  fo := ⟨by simp, rfl, fun i y x hi h => by
    match i, hi with
    | i + 1, _ => simp at h⟩
  keys := rfl
  pos i y x hi h := by
    match i, hi with
    | i + 1, _ => simp at h
  noT := by simpa using Ne.symm h
  cl u hu := by cases hu
theorem FrOk.snoc {B : List Arc} {S : Sp} {fr : List (Sp × Sp)} (fo : FrOk B S fr) {u y : Sp} (hu : u ∈ fr.map (·.1)) (hy : y ∉ fr.map (·.1)) (hon : onA B u y) : FrOk B S (fr ++ [(y, u)]) where
  nd := by
    rw [List.map_append, List.nodup_append]
    refine ⟨fo.nd, by simp, fun a ha b hb => ?_⟩
    simp only [List.map_cons, List.map_nil, List.mem_singleton] at hb
    subst hb
    rintro rfl
    exact hy ha
  h0 := by
    have := (List.getElem?_eq_some_iff.1 fo.h0).1
    rw [List.getElem?_append_left this]
    exact fo.h0
  back i y' x' hi h := by
    by_cases hl : i < fr.length
    · rw [List.getElem?_append_left hl] at h
      obtain ⟨h1, i', x2, h2, h3⟩ := fo.back i y' x' hi h
      exact ⟨h1, i', x2, h2, by rw [List.getElem?_append_left (by omega)]; exact h3⟩
    · have : i = fr.length := by have := (List.getElem?_eq_some_iff.1 h).1; simp at this; omega
      subst this
      rw [List.getElem?_append_right (Nat.le_refl _)] at h
      simp only [Nat.sub_self, List.getElem?_cons_zero, Option.some.injEq, Prod.mk.injEq] at h
      obtain ⟨rfl, rfl⟩ := h
      refine ⟨hon, ?_⟩
      obtain ⟨q, hq, e⟩ := List.mem_map.1 hu
      obtain ⟨i', hi', e2⟩ := List.getElem_of_mem hq
      refine ⟨i', q.2, hi', ?_⟩
      rw [List.getElem?_append_left hi', List.getElem?_eq_getElem hi', e2, ← e]
/-- One spot more is reached. -/
theorem Bfs.add {B : List Arc} {r : Sp → Sp → Int} {S T : Sp} {fr : List (Sp × Sp)} {dn q : List Sp} (b : Bfs B r S T fr dn q) {u y : Sp} (hu : u ∈ q) (hy : y ∉ fr.map (·.1)) (hon : y ∈ nbrs B u) (hr : 1 ≤ r u y) (hT : y ≠ T) :
    Bfs B r S T (fr ++ [(y, u)]) dn (q ++ [y]) where
  fo := b.fo.snoc (by rw [b.keys]; exact List.mem_append_right _ hu) hy (mem_nbrs.1 hon)
  keys := by rw [List.map_append, b.keys, List.append_assoc]; rfl
  pos i y' x' hi h := by
    by_cases hl : i < fr.length
    · rw [List.getElem?_append_left hl] at h
      exact b.pos i y' x' hi h
    · have : i = fr.length := by have := (List.getElem?_eq_some_iff.1 h).1; simp at this; omega
      subst this
      rw [List.getElem?_append_right (Nat.le_refl _)] at h
      simp only [Nat.sub_self, List.getElem?_cons_zero, Option.some.injEq, Prod.mk.injEq] at h
      obtain ⟨rfl, rfl⟩ := h
      exact hr
  noT := by
    rw [List.map_append]
    intro h
    rcases List.mem_append.1 h with h | h
    · exact b.noT h
    · simp at h; exact hT h.symm
  cl u' hu' y' hy' := (b.cl u' hu' y' hy').imp (fun h => by rw [List.map_append]; exact List.mem_append_left _ h) id
/-- A spot is done. -/
theorem Bfs.next {B : List Arc} {r : Sp → Sp → Int} {S T : Sp} {fr : List (Sp × Sp)} {dn q : List Sp} {u : Sp} (b : Bfs B r S T fr dn (u :: q)) (h : ∀ y ∈ nbrs B u, y ∈ fr.map (·.1) ∨ r u y = 0) : Bfs B r S T fr (dn ++ [u]) q where
  fo := b.fo
  keys := by rw [b.keys, List.append_assoc]; rfl
  pos := b.pos
  noT := b.noT
  cl u' hu' := by
    rcases List.mem_append.1 hu' with h' | h'
    · exact b.cl u' h'
    · simp at h'; rw [h']; exact h
/-- Nothing waits any more: the cut is full. -/
theorem Bfs.fail {B : List Arc} {r : Sp → Sp → Int} {S T : Sp} {fr : List (Sp × Sp)} {dn : List Sp} (b : Bfs B r S T fr dn []) :
    ∃ R : Sp → Bool, R S = true ∧ R T = false ∧ ∀ a ∈ B, (R a.1 = true → R a.2.1 = false → r a.1 a.2.1 = 0) ∧ (R a.2.1 = true → R a.1 = false → r a.2.1 a.1 = 0) := by
  have hk : fr.map (·.1) = dn := by rw [b.keys, List.append_nil]
  refine ⟨fun x => decide (x ∈ dn), ?_, ?_, fun a ha => ⟨fun h1 h2 => ?_, fun h1 h2 => ?_⟩⟩
  · rw [decide_eq_true_eq, ← hk]
    exact List.mem_map.2 ⟨_, List.mem_of_getElem? b.fo.h0, rfl⟩
  · rw [decide_eq_false_iff_not, ← hk]; exact b.noT
  · rw [decide_eq_true_eq] at h1
    rw [decide_eq_false_iff_not] at h2
    rcases b.cl _ h1 a.2.1 (mem_nbrs.2 ⟨a, ha, .inl ⟨rfl, rfl⟩⟩) with h | h
    · rw [hk] at h; exact absurd h h2
    · exact h
  · rw [decide_eq_true_eq] at h1
    rw [decide_eq_false_iff_not] at h2
    rcases b.cl _ h1 a.1 (mem_nbrs.2 ⟨a, ha, .inr ⟨rfl, rfl⟩⟩) with h | h
    · rw [hk] at h; exact absurd h h2
    · exact h
theorem nodup_le {α : Type} [DecidableEq α] : ∀ {l m : List α}, l.Nodup → (∀ x ∈ l, x ∈ m) → l.length ≤ m.length := by
  intro l
  induction l with
  | nil => intro m _ _; simp
  | cons x l ih =>
    intro m hn hs
    rw [List.nodup_cons] at hn
    have hx := hs x List.mem_cons_self
    have := ih (m := m.erase x) hn.2 fun y hy => by
      have hne : y ≠ x := by rintro rfl; exact hn.1 hy
      exact (List.mem_erase_of_ne hne).2 (hs y (List.mem_cons_of_mem _ hy))
    rw [List.length_erase_of_mem hx] at this
    have := List.length_pos_of_mem hx
    simp only [List.length_cons]
    omega
/-- Not more is reached than there are ends of arcs. -/
theorem Bfs.len {B : List Arc} {r : Sp → Sp → Int} {S T : Sp} {fr : List (Sp × Sp)} {dn q : List Sp} (b : Bfs B r S T fr dn q) : (dn ++ q).length ≤ 2 * B.length + 1 := by
  rw [← b.keys]
  refine Nat.le_trans (nodup_le (m := S :: B.flatMap fun a => [a.1, a.2.1]) b.fo.nd fun y hy => ?_) ?_
  · obtain ⟨p, hp, rfl⟩ := List.mem_map.1 hy
    obtain ⟨i, hi, e⟩ := List.getElem_of_mem hp
    have hg : fr[i]? = some p := by rw [List.getElem?_eq_getElem hi, e]
    by_cases h0 : i = 0
    · rw [h0, b.fo.h0] at hg
      cases hg
      exact List.mem_cons_self
    · obtain ⟨⟨a, ha, h⟩, _⟩ := b.fo.back i p.1 p.2 (by omega) hg
      refine List.mem_cons_of_mem _ (List.mem_flatMap.2 ⟨a, ha, ?_⟩)
      rcases h with ⟨_, h⟩ | ⟨h, _⟩ <;> simp [h]
  · rw [List.length_cons]
    have : ∀ B : List Arc, (B.flatMap fun a => [a.1, a.2.1]).length = 2 * B.length := by
      intro B
      induction B with
      | nil => rfl
      | cons a B ih => rw [List.flatMap_cons, List.length_append, ih, List.length_cons]; simp; omega
    rw [this]
    omega
end Go.AM
end

section
namespace Go.AM
/-- A slice that was made by a literal or by pushing, and popped at its front. -/
inductive QlR (lo : Nat) (h : H) (e : TypeId) (s : Nat) : Value → List (List Value) → Prop
  | at_ {b c : Nat} {l : List (List Value)} {pre : List Value} (hlo : lo ≤ b) (hb : b < h.nx) (hr : h.blk b = some (.row (pre ++ l.flatten) e true)) (hx : ∀ x ∈ l, x.length = s) (hm : l.length < 2 ^ 30) (hc : c = U + l.length ∨ c = l.length) :
      QlR lo h e s (.slice (some ⟨b, pre.length, none⟩) l.length c) l
theorem QlR.blkOf {lo : Nat} {h : H} {e : TypeId} {s : Nat} {v : Value} {l : List (List Value)} (a : QlR lo h e s v l) : ∃ b, AM.blkOf v = some b ∧ lo ≤ b ∧ b < h.nx ∧ ∃ cs, h.blk b = some (.row cs e true) := by
  cases a with
  | @at_ b _ _ _ hlo hb' hr hx hm => exact ⟨b, rfl, hlo, hb', _, hr⟩
theorem QlR.keep {lo : Nat} {h h' : H} {e : TypeId} {s : Nat} {v : Value} {l : List (List Value)} (a : QlR lo h e s v l) (hn : h.nx ≤ h'.nx) (hb : ∀ b, AM.blkOf v = some b → h'.blk b = h.blk b) : QlR lo h' e s v l := by
  cases a with
  | at_ hlo hb' hr hx hm hc => exact .at_ hlo (Nat.lt_of_lt_of_le hb' hn) ((hb _ rfl).trans hr) hx hm hc
theorem QlR.slR {lo : Nat} {h : H} {e : TypeId} {s : Nat} {v : Value} {l : List (List Value)} (a : QlR lo h e s v l) : SlR h e s v l := by
  cases a with
  | @at_ b c l pre hlo hb hr hx hm hc =>
    have h30 : (2:Nat) ^ 30 < U := by decide
    have hk : capK c = l.length := by
      rcases hc with rfl | rfl
      · exact capK_U _
      · unfold capK; rw [if_pos (by omega)]
    refine .at_ hb hr (by omega) (by omega) (by rw [List.length_append, flatten_len hx]; omega) fun i x hi => ⟨hx x (List.mem_of_getElem? hi), fun j hj => ?_⟩
    rw [Nat.add_assoc, List.getElem?_append_right (by omega), Nat.add_sub_cancel_left]
    exact flatten_get hx i x hi j hj
theorem QlR.lit {lo : Nat} {h : H} {e : TypeId} {s : Nat} {x : List Value} (hlo : lo ≤ h.nx) (hx : x.length = s) : QlR lo (h.new (.row x e true)) e s (.slice (some ⟨h.nx, 0, none⟩) 1 1) [x] :=
  QlR.at_ (l := [x]) (pre := []) hlo (Nat.lt_succ_self _) (by rw [blk_new_self]; simp) (by simp [hx]) (by simp) (.inr rfl)
theorem QlR.push {P : Program} {lo : Nat} {h : H} {e t t' t2 : TypeId} {s : Nat} {v xv : Value} {l : List (List Value)} {x : List Value} (a : QlR lo h e s v l) (ht : okApp P t e s = true) (ht' : okApp P t' e s = true)
    (hb : ∀ h : H, buildSlice P t2 1 [(0, xv)] h = some (.slice (some ⟨h.nx, 0, none⟩) 1 1, h.new (.row x e true))) (hx : x.length = s) (hsc : x.all scal = true) (hm : l.length + 1 < 2 ^ 30) (hlo : lo ≤ h.nx) :
    ∃ v' h', (∀ {R : Type} (K : Value → H → Option R), (bls P h t2 1 [(0, xv)] fun y h2 => AM.app P h2 t t' v y K) = K v' h') ∧ QlR lo h' e s v' (l ++ [x]) ∧ h.nx ≤ h'.nx ∧
      (∀ b, b < h.nx → AM.blkOf v ≠ some b → h'.blk b = h.blk b) ∧ ∃ b', AM.blkOf v' = some b' ∧ h.nx ≤ b' := by
  obtain ⟨i, z, h1, h2, h3, h4, h5, h6, h7⟩ := okApp_spec ht
  obtain ⟨_, _, h1', _⟩ := okApp_spec ht'
  have x0 := Ext.new h (.row x e true)
  have hsrc : srcCells s (.slice (some ⟨h.nx, 0, none⟩) 1 1) (h.new (.row x e true)) = some x := by
    simp only [srcCells, Nat.one_mul]
    rw [if_neg (by omega)]
    simp only [H.rd, blk_new_self]
    rw [if_pos (by omega)]
    simp [List.take_of_length_le (Nat.le_of_eq hx)]
  have hlen : lenOf (.slice (some ⟨h.nx, 0, none⟩) 1 1) = some 1 := rfl
  have h30 : (2:Nat) ^ 30 < U := by decide
  have fresh : ∀ (g : H) (old : List (List Value)), g.nx = h.nx + 1 → (∀ y ∈ old, y.length = s) → old.length + 1 < 2 ^ 30 →
      QlR lo (g.new (.row (old.flatten ++ x) e true)) e s (.slice (some ⟨h.nx + 1, 0, none⟩) (old.length + 1) (U + (old.length + 1))) (old ++ [x]) := by
    intro g old hg hox hom
    have := QlR.at_ (lo := lo) (h := g.new (.row (old.flatten ++ x) e true)) (e := e) (s := s) (b := h.nx + 1) (c := U + (old ++ [x]).length) (l := old ++ [x]) (pre := []) (by omega) (by rw [nx_new]; omega)
      (by rw [blk_new_at _ _ hg.symm]; simp) (by
      intro y hy
      rcases List.mem_append.1 hy with hy | hy
      · exact hox y hy
      · simp at hy; rw [hy]; exact hx) (by simpa using hom) (.inl rfl)
    rw [List.length_append] at this
    exact this
  cases a with
  | @at_ b c l pre hlob hb' hr hxl hm' hc =>
    have hr1 := (x0.blk _ hb').trans hr
    rcases hc with rfl | rfl
    · refine ⟨.slice (some ⟨h.nx + 1, 0, none⟩) (l.length + 1) (U + (l.length + 1)), ((h.new (.row x e true)).kill b).new (.row (l.flatten ++ x) e true), fun K => ?_, fresh _ l rfl hxl hm, by simp only [nx_new, nx_kill]; omega, fun b' hb'' hne => ?_, h.nx + 1, rfl, by omega⟩
      · rw [bls_some (hb h)]
        unfold AM.app append
        simp only [h1, h1', h2, h3, hlen, h4, hsrc, Option.bind_some]
        rw [if_pos ⟨h5, h6, h7⟩]
        simp only [capK_U]
        rw [if_neg (by omega), if_neg (by omega), if_pos (.inl hm), if_neg (by omega)]
        simp only [hr1, h4]
        rw [if_pos ⟨trivial, by rw [List.length_append, flatten_len hxl]; omega, hsc⟩]
        have : ((pre ++ l.flatten).drop pre.length).take (l.length * s) = l.flatten := by rw [List.drop_left, List.take_of_length_le (by rw [flatten_len hxl]; exact Nat.le_refl _)]
        rw [this]
        rfl
      · have : b' ≠ b := fun e1 => hne (by rw [e1]; rfl)
        rw [blk_new_ne _ _ (by rw [nx_kill, nx_new]; omega), blk_kill_ne _ _ this, blk_new_ne _ _ (by omega)]
    · refine ⟨.slice (some ⟨h.nx + 1, 0, none⟩) (l.length + 1) (U + (l.length + 1)), (h.new (.row x e true)).new (.row (l.flatten ++ x) e true), fun K => ?_, fresh _ l rfl hxl hm, by simp only [nx_new]; omega, fun b' hb'' hne => ?_, h.nx + 1, rfl, by omega⟩
      · rw [bls_some (hb h)]
        unfold AM.app append
        simp only [h1, h1', h2, h3, hlen, h4, hsrc, Option.bind_some]
        rw [if_pos ⟨h5, h6, h7⟩]
        have hck : capK l.length = l.length := by unfold capK; rw [if_pos (by omega)]
        simp only [hck]
        rw [if_neg (by omega), if_neg (by omega), if_pos (.inl hm), if_pos (by omega)]
        have hrd : (if l.length = 0 then some [] else (h.new (.row x e true)).rd b pre.length (l.length * s)) = some l.flatten := by
          split
          · rename_i h9
            rw [List.eq_nil_of_length_eq_zero h9]
            rfl
          · simp only [H.rd, hr1]
            rw [if_pos (by rw [List.length_append, flatten_len hxl]; omega), List.drop_left, List.take_of_length_le (by rw [flatten_len hxl]; exact Nat.le_refl _)]
        rw [hrd]
        rfl
      · rw [blk_new_ne _ _ (by rw [nx_new]; omega), blk_new_ne _ _ (by omega)]
/-- The first element is left out. -/
theorem QlR.tail {P : Program} {lo : Nat} {h : H} {e t : TypeId} {s : Nat} {v : Value} {l : List (List Value)} {x : List Value} (a : QlR lo h e s v (x :: l)) (hs0 : 0 < s) (hu : P.underlying t = some (.slice e)) (hs : size? P e = some s) :
    ∃ v', (∀ {R : Type} (K : Value → Option R), sli P h t v (some (.int .i64 1)) none none K = K v') ∧ (l ≠ [] → QlR lo h e s v' l) ∧ (l = [] → ∃ b o c, v' = .slice (some ⟨b, o, none⟩) 0 c) ∧ AM.blkOf v' = AM.blkOf v := by
  generalize hL : x :: l = L at a
  cases a with
  | @at_ b c L pre hlo hb hr hx hm hc =>
    subst hL
    have h30 : (2:Nat) ^ 30 < U := by decide
    have hxs : x.length = s := hx x (by simp)
    have hq : ∀ c', (c' = U + l.length ∨ c' = l.length) → QlR lo h e s (.slice (some ⟨b, (pre ++ x).length, none⟩) l.length c') l := fun c' hc' => .at_ hlo hb (by rw [hr]; simp) (fun y hy => hx y (by simp [hy])) (by simp at hm; omega) hc'
    have hlen : (x :: l).length = l.length + 1 := rfl
    rcases hc with rfl | rfl
    · refine ⟨.slice (some ⟨b, (pre ++ x).length, none⟩) l.length (U + l.length), fun K => ?_, fun _ => hq _ (.inl rfl), fun e => ⟨b, _, _, by rw [e]; rfl⟩, rfl⟩
      unfold sli slice
      simp only [hu, hr, capK_U]
      rw [if_pos ⟨trivial, by omega, rfl⟩]
      simp only [hs, Option.bind_some, bound]
      rw [if_pos ⟨by omega, by simp only [List.length_cons]; omega⟩]
      simp only [Option.bind_some, Option.isSome_none, Bool.false_eq_true, false_or]
      rw [if_neg (by omega)]
      simp [hxs]
    · have hck : capK (x :: l).length = (x :: l).length := by unfold capK; rw [if_pos (by omega)]
      by_cases hl : l = []
      · subst hl
        refine ⟨.slice (some ⟨b, pre.length, none⟩) 0 0, fun K => ?_, fun h => absurd rfl h, fun _ => ⟨b, _, _, rfl⟩, rfl⟩
        unfold sli slice
        simp only [hu, hr, hck]
        rw [if_pos ⟨trivial, by omega, rfl⟩]
        simp only [hs, Option.bind_some, bound]
        rw [if_pos ⟨by omega, by simp⟩]
        simp only [Option.bind_some, Option.isSome_none, Bool.false_eq_true, false_or]
        rw [if_pos (by omega)]
        simp
      · refine ⟨.slice (some ⟨b, (pre ++ x).length, none⟩) l.length l.length, fun K => ?_, fun _ => hq _ (.inr rfl), fun e => absurd e hl, rfl⟩
        have : 0 < l.length := List.length_pos_iff.2 hl
        unfold sli slice
        simp only [hu, hr, hck]
        rw [if_pos ⟨trivial, by omega, rfl⟩]
        simp only [hs, Option.bind_some, bound]
        rw [if_pos ⟨by omega, by simp only [List.length_cons]; omega⟩]
        simp only [Option.bind_some, Option.isSome_none, Bool.false_eq_true, false_or]
        rw [if_pos (by omega), if_neg (by simp; omega)]
        simp [hxs]
end Go.AM
end

section
namespace Go.AM
open Go.Proofs
/-- The heap of a search that began at g0: the boxes of both ends, the map, the queue. -/
structure BfsH (lo nb rb xb : Nat) (B : List Arc) (r : Sp → Sp → Int) (nxs : List (Sp × Value)) (S T : Sp) (g0 : H) (fr : List (Sp × Sp)) (q : List Sp) (qv : Value) (g : H) : Prop where
  net : NetH lo g0 nb rb xb B r nxs
  sB : g.blk g0.nx = some (.row S.cells 113 true)
  tB : g.blk (g0.nx + 1) = some (.row T.cells 113 true)
  fB : g.blk (g0.nx + 2) = some (mpOf Sp.val (kvF fr))
  qB : QlR (g0.nx + 3) g 113 3 qv (q.map Sp.cells)
  nx : g0.nx + 3 ≤ g.nx
  old : ∀ c, c < g0.nx → g.blk c = g0.blk c
theorem BfsH.netg {lo nb rb xb : Nat} {B : List Arc} {r : Sp → Sp → Int} {nxs : List (Sp × Value)} {S T : Sp} {g0 : H} {fr : List (Sp × Sp)} {q : List Sp} {qv : Value} {g : H} (a : BfsH lo nb rb xb B r nxs S T g0 fr q qv g) : NetH lo g nb rb xb B r nxs :=
  a.net.ext ⟨by have := a.nx; omega, a.old⟩
theorem BfsH.ext {lo nb rb xb : Nat} {B : List Arc} {r : Sp → Sp → Int} {nxs : List (Sp × Value)} {S T : Sp} {g0 : H} {fr : List (Sp × Sp)} {q : List Sp} {qv : Value} {g g' : H} (a : BfsH lo nb rb xb B r nxs S T g0 fr q qv g) (x : Ext g g') : BfsH lo nb rb xb B r nxs S T g0 fr q qv g' where
  net := a.net
  sB := by rw [x.blk _ (by have := a.nx; omega), a.sB]
  tB := by rw [x.blk _ (by have := a.nx; omega), a.tB]
  fB := by rw [x.blk _ (by have := a.nx; omega), a.fB]
  qB := a.qB.keep x.nx fun b hb => x.blk b (by obtain ⟨b', h1, _, h2, _⟩ := a.qB.blkOf; rw [hb] at h1; cases h1; exact h2)
  nx := by have := a.nx; have := x.nx; omega
  old c hc := by rw [x.blk c (by have := a.nx; omega), a.old c hc]
theorem valK_fr_none {fr : List (Sp × Sp)} {y : Sp} (h : y ∉ fr.map (·.1)) : valK (kvF fr) y = none := by
  unfold valK
  rw [Option.map_eq_none_iff, lookK_none]
  intro p hp e
  obtain ⟨q, hq, rfl⟩ := List.mem_map.1 hp
  exact h (List.mem_map.2 ⟨q, hq, e⟩)
theorem putK_fr {fr : List (Sp × Sp)} {y x : Sp} (h : y ∉ fr.map (·.1)) : putK (kvF fr) y x.val = kvF (fr ++ [(y, x)]) := by
  have : lookK (kvF fr) y 0 = none := by
    have := valK_fr_none h
    unfold valK at this
    simpa using this
  unfold putK
  rw [this]
  simp [kvF]
theorem BfsH.boxed {lo nb rb xb : Nat} {B : List Arc} {r : Sp → Sp → Int} {nxs : List (Sp × Value)} {S T : Sp} {g0 : H} {fr : List (Sp × Sp)} {q : List Sp} {qv : Value} {g : H} (a : BfsH lo nb rb xb B r nxs S T g0 fr q qv g) (y z : Sp) :
    ∃ g1 g2, (∀ {R : Type} (K : Nat → H → Nat → H → Option R), True) ∧ g.fresh 113 [iv 0, iv 0, .bool false] y.cells = g1 ∧ g1.fresh 113 [iv 0, iv 0, .bool false] z.cells = g2 ∧ g1.nx = g.nx + 1 ∧ g2.nx = g.nx + 2 ∧ g1.blk g.nx = some (.row y.cells 113 true) ∧ g2.blk g.nx = some (.row y.cells 113 true) ∧
      BfsH lo nb rb xb B r nxs S T g0 fr q qv g1 ∧ BfsH lo nb rb xb B r nxs S T g0 fr q qv g2 := by
  have x1 := (Ext.refl g).fresh 113 [iv 0, iv 0, .bool false] y.cells
  have b1 := blk_fresh g 113 [iv 0, iv 0, .bool false] y.cells
  generalize e1 : g.fresh 113 [iv 0, iv 0, .bool false] y.cells = g1 at x1 b1
  have n1 : g1.nx = g.nx + 1 := by rw [← e1]; rfl
  have x2 := (Ext.refl g1).fresh 113 [iv 0, iv 0, .bool false] z.cells
  generalize e2 : g1.fresh 113 [iv 0, iv 0, .bool false] z.cells = g2 at x2
  have n2 : g2.nx = g.nx + 2 := by rw [← e2]; show g1.nx + 1 = _; omega
  exact ⟨g1, g2, fun _ => trivial, rfl, e2, n1, n2, b1, by rw [x2.blk _ (by omega), b1], a.ext x1, (a.ext x1).ext x2⟩
theorem al_stS {h : H} (x : Sp) {R : Type} (K : H → Option R) : (al h 113 [.int .i64 0, .int .i64 0, .bool false] fun h3 => st Try.prog h3 113 (AM.nx h) 0 x.val K) = K (h.fresh 113 [iv 0, iv 0, .bool false] x.cells) :=
  al_st (zs := [iv 0, iv 0, .bool false]) (xs := x.cells) sz113 rfl rfl
/-- A neighbour that was reached before, or to which nothing more can flow. -/
theorem l2_skip {lo nb rb xb kk : Nat} {B : List Arc} {r : Sp → Sp → Int} {nxs : List (Sp × Value)} {S T : Sp} {g0 h0 h1 h2 : H} {fr : List (Sp × Sp)} {q : List Sp} {u y : Sp} {qv v9 a0 : Value} {g : H} {N : List Sp} {j : Nat}
    (hh2 : h2.nx = g0.nx + 2) (bh : BfsH lo nb rb xb B r nxs S T g0 fr (u :: q) qv g) (fo : FrOk B S fr) (hv : SlR g 113 3 v9 (N.map Sp.cells)) (hj : N[j]? = some y) (hjs : j < 1000) (hon : onA B u y) (h : y ∈ fr.map (·.1) ∨ r u y = 0) :
    ∃ g', f103_l2 rn kk (pt nb 0) h0 h1 h2 v9 N.length [a0, qv, iv j] g = some (.normal, [a0, qv, iv (j + 1 : Nat)], g') ∧ Ext g g' := by
  have hlt := (List.getElem?_eq_some_iff.1 hj).1
  have hget : (N.map Sp.cells)[((j : Nat) : Int).toNat]? = some y.cells := by rw [List.getElem?_map, Int.toNat_natCast, hj]; rfl
  by_cases hs : y ∈ fr.map (·.1)
  · obtain ⟨p, hp, rfl⟩ := List.mem_map.1 hs
    obtain ⟨i, hi, e⟩ := List.getElem_of_mem hp
    have hg : fr[i]? = some (p.1, p.2) := by rw [List.getElem?_eq_getElem hi, e]
    have hk := valK_fr fo.nd hg
    obtain ⟨g1, g2, _, e1, e2, n1, n2, b1, b2, bh1, bh2⟩ := bh.boxed p.1 p.2
    refine ⟨g2, ?_, ?_⟩
    · unfold f103_l2
      simp only [gv, List.getD_cons_zero, List.getD_cons_succ, asI_int, asK_int]
      rw [lt_t (by omega), ifB_true, hv.ldA ag113 sz113 (by omega) hget]
      rw [show (Value.agg p.1.cells.toArray) = p.1.val from rfl, al_stS, e1, nx_eq, ldS b1, nx_eq, hh2, lok_of keyS under133 zero113 bh1.fB, hk]
      simp only [ext, show (#[p.2.val, Value.bool true] : Array Value)[0]? = some p.2.val from rfl, show (#[p.2.val, Value.bool true] : Array Value)[1]? = some (Value.bool true) from rfl, Option.bind_some, asB_bool]
      rw [al_stS, e2, ifB_true, add64 (by omega) (by omega)]
      rfl
    · rw [← e2, ← e1]; exact ((Ext.refl g).fresh _ _ _).fresh _ _ _
  · have h0 := h.resolve_left hs
    have hk := valK_fr_none hs
    obtain ⟨g1, g2, _, e1, e2, n1, n2, b1, b2, bh1, bh2⟩ := bh.boxed y ⟨0, 0, false⟩
    have net2 := bh2.netg
    have v1 := (valK_ks B r u y).1 hon
    refine ⟨g2, ?_, ?_⟩
    · unfold f103_l2
      simp only [gv, List.getD_cons_zero, List.getD_cons_succ, asI_int, asK_int]
      rw [lt_t (by omega), ifB_true, hv.ldA ag113 sz113 (by omega) hget]
      rw [show (Value.agg y.cells.toArray) = y.val from rfl, al_stS, e1, nx_eq, ldS b1, nx_eq, hh2, lok_of keyS under133 zero113 bh1.fB, hk]
      simp only [ext, show ∀ z : Value, (#[z, Value.bool false] : Array Value)[0]? = some z from fun _ => rfl, show ∀ z : Value, (#[z, Value.bool false] : Array Value)[1]? = some (Value.bool false) from fun _ => rfl, Option.bind_some, asB_bool]
      rw [al_stS, e2, ifB_false]
      simp only [AM.nil, asP_ptr]
      rw [d115, cell_of net2.str]
      simp only [List.getElem?_cons_zero, Option.bind_some]
      rw [bh2.qB.slR.ldA ag113 sz113 (by omega) (x := u.cells) (by simp), show (Value.agg u.cells.toArray) = u.val from rfl, nx_eq, ldS b2, kA, lok_of0 keyA under115 zero3 net2.rm, v1]
      simp only [Option.getD_some, asI_int]
      rw [h0, show AM.eq 0 0 = true from rfl, ifB_true, add64 (by omega) (by omega)]
      rfl
    · rw [← e2, ← e1]; exact ((Ext.refl g).fresh _ _ _).fresh _ _ _
/-- A new spot, that is not the end. -/
theorem l2_add {lo nb rb xb kk : Nat} {B : List Arc} {r : Sp → Sp → Int} {nxs : List (Sp × Value)} {S T : Sp} {g0 h0 h1 h2 : H} {fr : List (Sp × Sp)} {q : List Sp} {u y : Sp} {qv v9 a0 : Value} {g : H} {N : List Sp} {j : Nat}
    (hh1 : h1.nx = g0.nx + 1) (hh2 : h2.nx = g0.nx + 2) (bh : BfsH lo nb rb xb B r nxs S T g0 fr (u :: q) qv g) (hv : SlR g 113 3 v9 (N.map Sp.cells)) (hj : N[j]? = some y) (hjs : j < 1000) (hq : q.length < 1000) (hon : onA B u y)
    (hs : y ∉ fr.map (·.1)) (hr : r u y ≠ 0) (hT : y ≠ T) :
    ∃ g' qv', f103_l2 rn kk (pt nb 0) h0 h1 h2 v9 N.length [a0, qv, iv j] g = some (.normal, [a0, qv', iv (j + 1 : Nat)], g') ∧ BfsH lo nb rb xb B r nxs S T g0 (fr ++ [(y, u)]) (u :: q ++ [y]) qv' g' ∧ g.nx ≤ g'.nx := by
  have hlt := (List.getElem?_eq_some_iff.1 hj).1
  have hget : (N.map Sp.cells)[((j : Nat) : Int).toNat]? = some y.cells := by rw [List.getElem?_map, Int.toNat_natCast, hj]; rfl
  have hk := valK_fr_none hs
  obtain ⟨g1, g2, _, e1, e2, n1, n2, b1, b2, bh1, bh2⟩ := bh.boxed y ⟨0, 0, false⟩
  have net2 := bh2.netg
  have v1 := (valK_ks B r u y).1 hon
  have gnx := bh.nx
  generalize e3 : g2.set (g0.nx + 2) (mpOf Sp.val (kvF (fr ++ [(y, u)]))) = g3
  have b3 : ∀ c, c ≠ g0.nx + 2 → g3.blk c = g2.blk c := fun c hc => by rw [← e3]; show (if c = g0.nx + 2 then _ else _) = _; rw [if_neg hc]
  have n3 : g3.nx = g2.nx := by rw [← e3]; rfl
  have fb3 : g3.blk (g0.nx + 2) = some (mpOf Sp.val (kvF (fr ++ [(y, u)]))) := by rw [← e3]; show (if g0.nx + 2 = g0.nx + 2 then _ else _) = _; rw [if_pos rfl]
  obtain ⟨qb, hqb, hqlo, hqlt, _⟩ := bh2.qB.blkOf
  have q3 : QlR (g0.nx + 3) g3 113 3 qv ((u :: q).map Sp.cells) := bh2.qB.keep (by omega) fun b hb => b3 b (by rw [hqb] at hb; cases hb; omega)
  obtain ⟨qv', g4, k4, q4, n4, f4, bb, hbb, hbn⟩ := q3.push (t2 := 134) (xv := y.val) (x := y.cells) app134 app134 (bls134 y) rfl (by simp [Sp.cells, scal]) (by simp; omega) (by omega)
  have old4 : ∀ c, c < g.nx → c ≠ g0.nx + 2 → c < g0.nx + 3 → g4.blk c = g2.blk c := fun c hc hne hlt => by rw [f4 c (by omega) (by rw [hqb]; intro e; cases e; omega), b3 c hne]
  refine ⟨g4, qv', ?_, ⟨bh.net, ?_, ?_, ?_, ?_, by omega, fun c hc => ?_⟩, by omega⟩
  · unfold f103_l2
    simp only [gv, List.getD_cons_zero, List.getD_cons_succ, asI_int, asK_int]
    rw [lt_t (by omega), ifB_true, hv.ldA ag113 sz113 (by omega) hget]
    rw [show (Value.agg y.cells.toArray) = y.val from rfl, al_stS, e1, nx_eq, ldS b1, nx_eq, hh2, lok_of keyS under133 zero113 bh1.fB, hk]
    simp only [ext, show ∀ z : Value, (#[z, Value.bool false] : Array Value)[0]? = some z from fun _ => rfl, show ∀ z : Value, (#[z, Value.bool false] : Array Value)[1]? = some (Value.bool false) from fun _ => rfl, Option.bind_some, asB_bool]
    rw [al_stS, e2, ifB_false]
    simp only [AM.nil, asP_ptr]
    rw [d115, cell_of net2.str]
    simp only [List.getElem?_cons_zero, Option.bind_some]
    rw [bh2.qB.slR.ldA ag113 sz113 (by omega) (x := u.cells) (by simp), show (Value.agg u.cells.toArray) = u.val from rfl, nx_eq, ldS b2, kA, lok_of0 keyA under115 zero3 net2.rm, v1]
    simp only [Option.getD_some, asI_int]
    rw [show AM.eq (r u y) 0 = false by simp [AM.eq, hr], ifB_false, ldS b2, bh2.qB.slR.ldA ag113 sz113 (by omega) (x := u.cells) (by simp), show (Value.agg u.cells.toArray) = u.val from rfl]
    rw [mup_of keyS under133 bh2.fB, putK_fr hs, e3, ldS (by rw [b3 _ (by omega), b2]), hh1, ldS (by rw [b3 _ (by omega), bh2.tB]), kEq, decide_eq_false hT, ifB_false, ldS (by rw [b3 _ (by omega), b2])]
    refine (k4 _).trans ?_
    rw [add64 (by omega) (by omega)]
    rfl
  · rw [old4 _ (by omega) (by omega) (by omega), bh2.sB]
  · rw [old4 _ (by omega) (by omega) (by omega), bh2.tB]
  · rw [f4 _ (by omega) (by rw [hqb]; intro e; cases e; omega), fb3]
  · rw [List.map_append]; exact q4
  · rw [old4 _ (by omega) (by omega) (by omega), bh2.old c hc]
/-- The end is reached: the way is turned. -/
theorem l2_found {lo nb rb xb kk k : Nat} {B : List Arc} {r : Sp → Sp → Int} {nxs : List (Sp × Value)} {S T : Sp} {g0 h0 h1 h2 : H} {fr : List (Sp × Sp)} {dn q : List Sp} {u : Sp} {qv v9 a0 : Value} {g : H} {N : List Sp} {j : Nat}
    (hh0 : h0.nx = g0.nx) (hh1 : h1.nx = g0.nx + 1) (hh2 : h2.nx = g0.nx + 2) (bh : BfsH lo nb rb xb B r nxs S T g0 fr (u :: q) qv g) (b : Bfs B r S T fr dn (u :: q)) (sbB : SimpB B) (hc : ∀ a ∈ B, a.2.2 ≤ 1000) (fl : FlowOk B r k S T)
    (hv : SlR g 113 3 v9 (N.map Sp.cells)) (hj : N[j]? = some T) (hjs : j < 1000) (hkk : fr.length < kk) (hon : onA B u T) (hr : r u T ≠ 0) :
    ∃ g' r', f103_l2 rn kk (pt nb 0) h0 h1 h2 v9 N.length [a0, qv, iv j] g = some (.ret, [.bool true, qv, iv j], g') ∧ NetH lo g' nb rb xb B r' nxs ∧ FlowOk B r' (k + 1) S T ∧ g0.nx ≤ g'.nx ∧ ∀ c, c < g0.nx → c ≠ rb → g'.blk c = g0.blk c := by
  have hlt := (List.getElem?_eq_some_iff.1 hj).1
  have hget : (N.map Sp.cells)[((j : Nat) : Int).toNat]? = some T.cells := by rw [List.getElem?_map, Int.toNat_natCast, hj]; rfl
  have hs := b.noT
  have hk := valK_fr_none hs
  obtain ⟨g1, g2, _, e1, e2, n1, n2, b1, b2, bh1, bh2⟩ := bh.boxed T ⟨0, 0, false⟩
  have net2 := bh2.netg
  have v1 := (valK_ks B r u T).1 hon
  have gnx := bh.nx
  have aug := fl.start
  have hr1 : 1 ≤ r u T := by have := (small_of aug hc u T hon).1; omega
  generalize e3 : g2.set (g0.nx + 2) (mpOf Sp.val (kvF (fr ++ [(T, u)]))) = g3
  have b3 : ∀ c, c ≠ g0.nx + 2 → g3.blk c = g2.blk c := fun c hc => by rw [← e3]; show (if c = g0.nx + 2 then _ else _) = _; rw [if_neg hc]
  have n3 : g3.nx = g2.nx := by rw [← e3]; rfl
  have fb3 : g3.blk (g0.nx + 2) = some (mpOf Sp.val (kvF (fr ++ [(T, u)]))) := by rw [← e3]; show (if g0.nx + 2 = g0.nx + 2 then _ else _) = _; rw [if_pos rfl]
  have old3 : ∀ c, c < g0.nx → g3.blk c = g0.blk c := fun c hc => by rw [b3 c (by omega), bh2.old c hc]
  have fo' := b.fo.snoc (u := u) (y := T) (by rw [b.keys]; simp) hs hon
  have nlt := bh.net.nlt
  have rlt := bh.net.rlt
  have xlt := bh.net.next.xlt
  have ti : TurnI lo nb rb xb (g0.nx + 2) g0.nx g.nx B k S T (fr ++ [(T, u)]) nxs g3 fr.length r T u g3 := by
    refine ⟨bh.net.ext ⟨by omega, old3⟩, aug, by rw [List.getElem?_append_right (Nat.le_refl _)]; simp, fun i y x hi _ h => ?_, small_of aug hc, by rw [b3 _ (by omega), b2], by rw [b3 _ (by omega), bh2.sB], fb3, rfl, fun _ _ _ => rfl⟩
    by_cases hl : i < fr.length
    · rw [List.getElem?_append_left hl] at h
      exact b.pos i y x hi h
    · have : i = fr.length := by have := (List.getElem?_eq_some_iff.1 h).1; simp at this; omega
      subst this
      rw [List.getElem?_append_right (Nat.le_refl _)] at h
      simp only [Nat.sub_self, List.getElem?_cons_zero, Option.some.injEq, Prod.mk.injEq] at h
      obtain ⟨rfl, rfl⟩ := h
      exact hr1
  obtain ⟨g', r', k1, m1, m2, m3, m4⟩ := turn_all (kk := kk) sbB hc fo' hh0 hh2 (h7 := g) rfl ⟨by omega, by omega⟩ ⟨by omega, by omega⟩ (by omega) ⟨by omega, by omega, fun h => by have := (bh.net.next.lt h).2.1; omega⟩ ti hkk
  refine ⟨g', r', ?_, m1, m2, by omega, fun c c1 c2 => by rw [m4 c c2 (by omega), old3 c c1]⟩
  unfold f103_l2
  simp only [gv, List.getD_cons_zero, List.getD_cons_succ, asI_int, asK_int]
  rw [lt_t (by omega), ifB_true, hv.ldA ag113 sz113 (by omega) hget]
  rw [show (Value.agg T.cells.toArray) = T.val from rfl, al_stS, e1, nx_eq, ldS b1, nx_eq, hh2, lok_of keyS under133 zero113 bh1.fB, hk]
  simp only [ext, show ∀ z : Value, (#[z, Value.bool false] : Array Value)[0]? = some z from fun _ => rfl, show ∀ z : Value, (#[z, Value.bool false] : Array Value)[1]? = some (Value.bool false) from fun _ => rfl, Option.bind_some, asB_bool]
  rw [al_stS, e2, ifB_false]
  simp only [AM.nil, asP_ptr]
  rw [d115, cell_of net2.str]
  simp only [List.getElem?_cons_zero, Option.bind_some]
  rw [bh2.qB.slR.ldA ag113 sz113 (by omega) (x := u.cells) (by simp), show (Value.agg u.cells.toArray) = u.val from rfl, nx_eq, ldS b2, kA, lok_of0 keyA under115 zero3 net2.rm, v1]
  simp only [Option.getD_some, asI_int]
  rw [show AM.eq (r u T) 0 = false by simp [AM.eq, hr], ifB_false, ldS b2, bh2.qB.slR.ldA ag113 sz113 (by omega) (x := u.cells) (by simp), show (Value.agg u.cells.toArray) = u.val from rfl]
  rw [mup_of keyS under133 bh2.fB, putK_fr hs, e3, ldS (by rw [b3 _ (by omega), b2]), hh1, ldS (by rw [b3 _ (by omega), bh2.tB]), kEq, decide_eq_true rfl, ifB_true]
  refine (k1 _).trans ?_
  rw [onE_exit, if_pos rfl]
  rfl
end Go.AM
end
