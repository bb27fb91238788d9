/- Parts of the proof, put together: the abstract machine, what the functions of the program answer, and plain laws. -/
import Derived.Test.YtphchobmencipaaDoorWx4

section
section
namespace Go.AM.F
open Go.Proofs
/-- A way on, call by call. -/
def runP (l : List Kl) : List Int → Int × Int × Int → Option (Int × Int × Int)
  | [], st => some st
  | i :: w, st => if 0 ≤ i ∧ i < l.length then
      match l[i.toNat]? with
      | none => none
      | some c => if goes c st.1 st.2.1 st.2.2 = true then runP l w (c.oth st.1, c.t, withP st.2.2 (c.oth st.1)) else none
    else none
theorem runP_append (l : List Kl) : ∀ (w u : List Int) (st : Int × Int × Int), runP l (w ++ u) st = (runP l w st).bind (runP l u) := by
  intro w
  induction w with
  | nil => intro u st; rfl
  | cons i w ih =>
    intro u st
    simp only [List.cons_append, runP]
    split
    · split
      · rfl
      · split
        · exact ih u _
        · rfl
    · rfl
/-- A state with a set of people below n. -/
def Wf (n : Int) (st : Int × Int × Int) : Prop := ∃ k : Nat, st.2.2 = (k : Int) ∧ k < 2 ^ 7 ∧ (0 ≤ st.1 ∧ st.1 < n) ∧ k.testBit st.1.toNat = true
theorem withP_nat {k : Nat} {p : Int} (hk : k < 2 ^ 7) (hp : 0 ≤ p ∧ p < 7) : withP (k : Int) p = ((k ||| 2 ^ p.toNat : Nat) : Int) ∧ k ||| 2 ^ p.toNat < 2 ^ 7 := by
  obtain ⟨m, rfl⟩ := Int.eq_ofNat_of_zero_le hp.1
  have hm : 2 ^ m < 2 ^ 7 := Nat.pow_lt_pow_right (by omega) (by omega)
  unfold withP
  rw [shl1_nat (by omega), or_nat (by omega) (by omega)]
  exact ⟨rfl, Nat.or_lt_two_pow hk hm⟩
theorem inP_nat {k : Nat} {p : Int} (hk : k < 2 ^ 7) (hp : 0 ≤ p ∧ p < 7) : inP (k : Int) p = k.testBit p.toNat := by
  obtain ⟨m, rfl⟩ := Int.eq_ofNat_of_zero_le hp.1
  unfold inP
  rw [bit_nat (by omega) (by omega)]
  simp only [Int.toNat_natCast]
  cases k.testBit m <;> rfl
theorem goes_spec {n : Int} {c : Kl} {st : Int × Int × Int} (hn : n ≤ 7) (hc : okC n c = true) (hg : goes c st.1 st.2.1 st.2.2 = true) : st.2.1 < c.t ∧ c.has st.1 = true ∧ inP st.2.2 (c.oth st.1) = false ∧ 0 ≤ c.oth st.1 ∧ c.oth st.1 < n := by
  simp only [goes, Bool.and_eq_true, Bool.not_eq_true', decide_eq_false_iff_not, Int.not_le] at hg
  have := oth_ok hc hg.1.2
  exact ⟨hg.1.1, hg.1.2, hg.2, this.1, this.2.1⟩
theorem run_keep {n : Int} {l : List Kl} (hv : validP n l = true) : ∀ (w : List Int) (st st' : Int × Int × Int), Wf n st → runP l w st = some st' → Wf n st' ∧ (∀ q : Nat, ∀ k k' : Nat, st.2.2 = (k : Int) → st'.2.2 = (k' : Int) → k.testBit q = true → k'.testBit q = true) ∧
    (w ≠ [] → ∀ k : Nat, st.2.2 = (k : Int) → k.testBit st'.1.toNat = false) ∧ st.2.1 ≤ st'.2.1 ∧ (∀ i ∈ w, 0 ≤ i ∧ ∃ c, l[i.toNat]? = some c ∧ c.t ≤ st'.2.1 ∧ st.2.1 < c.t) := by
  obtain ⟨hn1, hn7, hl24, hok⟩ := validP_ok hv
  intro w
  induction w with
  | nil =>
    intro st st' hw h
    cases h
    exact ⟨hw, fun q k k' h1 h2 h3 => by rw [h1] at h2; have : k = k' := by omega
                                         subst this; exact h3, fun h => absurd rfl h, Int.le_refl _, by simp⟩
  | cons i w ih =>
    intro st st' hw h
    simp only [runP] at h
    split at h
    · rename_i hi
      split at h
      · cases h
      · rename_i c hc
        split at h
        · rename_i hg
          obtain ⟨g1, g2, g3, g4, g5⟩ := goes_spec hn7 (hok _ _ hc) hg
          obtain ⟨k, hk, hk7, hp, hkp⟩ := hw
          obtain ⟨e1, e2⟩ := withP_nat (p := c.oth st.1) hk7 ⟨g4, by omega⟩
          have hw1 : Wf n (c.oth st.1, c.t, withP st.2.2 (c.oth st.1)) := ⟨_, by rw [hk]; exact e1, e2, ⟨g4, g5⟩, by simp [Nat.testBit_or, testBit_pow]⟩
          obtain ⟨q1, q2, q3, q4, q5⟩ := ih _ _ hw1 h
          refine ⟨q1, fun q k0 k' h1 h2 h3 => ?_, fun _ k0 h1 => ?_, by simp only at q4; omega, fun j hj => ?_⟩
          · have : k0 = k := by rw [hk] at h1; omega
            subst this
            exact q2 q _ k' (by simp only; rw [hk]; exact e1) h2 (by rw [Nat.testBit_or, h3]; rfl)
          · have : k0 = k := by rw [hk] at h1; omega
            subst this
            cases w with
            | nil =>
              cases h
              rw [hk, inP_nat hk7 ⟨g4, by omega⟩] at g3
              exact g3
            | cons j w =>
              have := q3 (by simp) _ (by simp only; rw [hk]; exact e1)
              rw [Nat.testBit_or] at this
              simp only [Bool.or_eq_false_iff] at this
              exact this.1
          · simp only [List.mem_cons] at hj
            rcases hj with rfl | hj
            · exact ⟨hi.1, c, hc, by simpa using q4, g1⟩
            · obtain ⟨a1, d, a2, a3, a4⟩ := q5 j hj
              exact ⟨a1, d, a2, a3, by simp only at a4; omega⟩
        · cases h
    · cases h
theorem goW_iff {n t : Int} {l : List Kl} (hv : validP n l = true) : ∀ (w : List Int) (st : Int × Int × Int), Wf n st → (goW l t w st = true ↔ ∃ st', runP l w st = some st' ∧ st'.1 = t) := by
  obtain ⟨hn1, hn7, hl24, hok⟩ := validP_ok hv
  intro w
  induction w with
  | nil => intro st _; simp [goW, runP]
  | cons i w ih =>
    intro st hw
    constructor
    · intro h
      simp only [goW] at h
      cases hs : stepP l t st i with
      | none => rw [hs] at h; cases h
      | some s' =>
        rw [hs] at h
        simp only at h
        unfold stepP at hs
        split at hs
        · cases hs
        · rename_i hb
          simp only [not_or, Int.not_lt, Int.not_le] at hb
          split at hs
          · cases hs
          · rename_i c hc
            split at hs
            · rename_i hg
              cases hs
              obtain ⟨g1, g2, g3, g4, g5⟩ := goes_spec hn7 (hok _ _ hc) hg
              obtain ⟨k, hk, hk7, hp, hkp⟩ := hw
              obtain ⟨e1, e2⟩ := withP_nat (p := c.oth st.1) hk7 ⟨g4, by omega⟩
              have hw1 : Wf n (c.oth st.1, c.t, withP st.2.2 (c.oth st.1)) := ⟨_, by rw [hk]; exact e1, e2, ⟨g4, g5⟩, by simp [Nat.testBit_or, testBit_pow]⟩
              obtain ⟨st', h1, h2⟩ := (ih _ hw1).1 h
              refine ⟨st', ?_, h2⟩
              simp only [runP]
              rw [if_pos ⟨hb.1, hb.2.1⟩, hc]
              simp only
              rw [if_pos hg]
              exact h1
            · cases hs
    · rintro ⟨st', h, h2⟩
      obtain ⟨_, _, q3, _, _⟩ := run_keep hv (i :: w) st st' hw h
      simp only [runP] at h
      split at h
      · rename_i hi
        split at h
        · cases h
        · rename_i c hc
          split at h
          · rename_i hg
            obtain ⟨g1, g2, g3, g4, g5⟩ := goes_spec hn7 (hok _ _ hc) hg
            obtain ⟨k, hk, hk7, hp, hkp⟩ := hw
            obtain ⟨e1, e2⟩ := withP_nat (p := c.oth st.1) hk7 ⟨g4, by omega⟩
            have hw1 : Wf n (c.oth st.1, c.t, withP st.2.2 (c.oth st.1)) := ⟨_, by rw [hk]; exact e1, e2, ⟨g4, g5⟩, by simp [Nat.testBit_or, testBit_pow]⟩
            have hne : st.1 ≠ t := by
              intro e
              have := q3 (by simp) k hk
              rw [h2, ← e, hkp] at this
              cases this
            have hst : stepP l t st i = some (c.oth st.1, c.t, withP st.2.2 (c.oth st.1)) := by
              unfold stepP
              rw [if_neg (by simp only [not_or, Int.not_lt, Int.not_le]; exact ⟨hi.1, hi.2, hne⟩), hc]
              simp only
              rw [if_pos hg]
            simp only [goW]
            rw [hst]
            exact (ih _ hw1).2 ⟨st', h, h2⟩
          · cases h
      · cases h
theorem mem_ways {n t : Int} {l : List Kl} (hv : validP n l = true) : ∀ (F : Nat) (p tm seen : Int) (w : List Int), 31 - tm ≤ F → p ≠ t → (w ∈ waysF l t (F + 1) p tm seen ↔ goW l t w (p, tm, seen) = true) := by
  obtain ⟨hn1, hn7, hl24, hok⟩ := validP_ok hv
  intro F
  induction F with
  | zero =>
    intro p tm seen w hF hp
    simp only [waysF]
    rw [mem_app]
    constructor
    · rintro (h | ⟨j, c, hc, h⟩)
      · simp at h
      · unfold wayStep at h
        split at h
        · rename_i hg
          have h1 : tm < c.t := by simp only [goes, Bool.and_eq_true, Bool.not_eq_true', decide_eq_false_iff_not, Int.not_le] at hg; exact hg.1.1
          have := (time_ok hv hc).2
          omega
        · simp at h
    · intro h
      cases w with
      | nil => simp [goW, hp] at h
      | cons i w =>
        simp only [goW] at h
        cases hs : stepP l t (p, tm, seen) i with
        | none => rw [hs] at h; cases h
        | some s' =>
          unfold stepP at hs
          split at hs
          · cases hs
          · split at hs
            · cases hs
            · rename_i c hc
              split at hs
              · rename_i hg
                have h1 : tm < c.t := by simp only [goes, Bool.and_eq_true, Bool.not_eq_true', decide_eq_false_iff_not, Int.not_le] at hg; exact hg.1.1
                have := (time_ok hv hc).2
                omega
              · cases hs
  | succ F ih =>
    intro p tm seen w hF hp
    rw [waysF, mem_app]
    constructor
    · rintro (h | ⟨j, c, hc, h⟩)
      · simp at h
      · have hj := (List.getElem?_eq_some_iff.1 hc).1
        rw [Nat.zero_add] at h
        unfold wayStep at h
        split at h
        · rename_i hg
          have h1 : tm < c.t := by simp only [goes, Bool.and_eq_true, Bool.not_eq_true', decide_eq_false_iff_not, Int.not_le] at hg; exact hg.1.1
          have hst : stepP l t (p, tm, seen) (j : Int) = some (c.oth p, c.t, withP seen (c.oth p)) := by
            unfold stepP
            rw [if_neg (by simp only [not_or, Int.not_lt, Int.not_le]; exact ⟨by omega, by omega, hp⟩), Int.toNat_natCast, hc]
            simp only
            rw [if_pos hg]
          split at h
          · rename_i hto
            simp at h
            subst h
            simp [goW, hst, hto]
          · rename_i hto
            simp only [List.mem_map] at h
            obtain ⟨w', hw', rfl⟩ := h
            simp only [goW, hst]
            exact (ih _ _ _ w' (by omega) hto).1 hw'
        · simp at h
    · intro h
      right
      cases w with
      | nil => simp [goW, hp] at h
      | cons i w =>
        simp only [goW] at h
        cases hs : stepP l t (p, tm, seen) i with
        | none => rw [hs] at h; cases h
        | some s' =>
          rw [hs] at h
          simp only at h
          unfold stepP at hs
          split at hs
          · cases hs
          · rename_i hb
            simp only [not_or, Int.not_lt, Int.not_le] at hb
            split at hs
            · cases hs
            · rename_i c hc
              split at hs
              · rename_i hg
                cases hs
                simp only at hg h
                have h1 : tm < c.t := by simp only [goes, Bool.and_eq_true, Bool.not_eq_true', decide_eq_false_iff_not, Int.not_le] at hg; exact hg.1.1
                refine ⟨i.toNat, c, hc, ?_⟩
                rw [Nat.zero_add]
                have hii : ((i.toNat : Nat) : Int) = i := by omega
                unfold wayStep
                rw [if_pos hg, hii]
                by_cases hto : c.oth p = t
                · rw [if_pos hto]
                  cases w with
                  | nil => simp
                  | cons j w =>
                    simp only [goW] at h
                    have : stepP l t (c.oth p, c.t, withP seen (c.oth p)) j = none := by
                      unfold stepP
                      rw [if_pos (.inr (.inr hto))]
                    rw [this] at h
                    cases h
                · rw [if_neg hto, List.mem_map]
                  exact ⟨w, (ih _ _ _ w (by omega) hto).2 h, rfl⟩
              · cases hs
/-- The first state. -/
def st0 (s : Int) : Int × Int × Int := (s, 0, shl .i64 1 s)
theorem wf0 {n s : Int} (hn : n ≤ 7) (hs : 0 ≤ s ∧ s < n) : Wf n (st0 s) := by
  obtain ⟨m, rfl⟩ := Int.eq_ofNat_of_zero_le hs.1
  exact ⟨2 ^ m, shl1_nat (by omega), Nat.pow_lt_pow_right (by omega) (by omega), hs, by simp [st0, testBit_pow]⟩
theorem mem_all {n s t : Int} {l : List Kl} (hv : validP n l = true) (hst : s ≠ t) (w : List Int) : w ∈ allWays l s t ↔ checkP l s t w = true := mem_ways hv 31 s 0 _ w (by omega) hst
theorem check_run {n s t : Int} {l : List Kl} (hv : validP n l = true) (hs : 0 ≤ s ∧ s < n) (w : List Int) : checkP l s t w = true ↔ ∃ st', runP l w (st0 s) = some st' ∧ st'.1 = t :=
  goW_iff hv w _ (wf0 (validP_ok hv).2.1 hs)
end Go.AM.F
end
section
namespace Go.AM.F
open Go.Proofs
/-- The time that a person stands with. -/
def atP (A : List Int) (p : Int) : Int := A.getD p.toNat 0
def arrK (n : Nat) (l : List Kl) (s : Int) (k : Nat) : List Int := (l.take k).foldl (fun A c => arrG c A) (arr0 n s)
theorem arrK_succ {n : Nat} {l : List Kl} {s : Int} {k : Nat} {c : Kl} (hc : l[k]? = some c) : arrK n l s (k + 1) = arrG c (arrK n l s k) := by
  unfold arrK
  rw [List.take_add_one, hc]
  simp [List.foldl_append]
theorem arrK_len {n : Nat} {l : List Kl} {s : Int} {k : Nat} : (arrK n l s k).length = n := by
  unfold arrK
  have : ∀ (l : List Kl) (A : List Int), (l.foldl (fun A c => arrG c A) A).length = A.length := by
    intro l
    induction l with
    | nil => intro A; rfl
    | cons c l ih => intro A; rw [List.foldl_cons, ih, arrG_len]
  rw [this]
  simp [arr0]
theorem arrive_K (n : Nat) (l : List Kl) (s : Int) : arriveP n l s = arrK n l s l.length := by
  unfold arriveP arrK
  rw [List.take_of_length_le (Nat.le_refl _)]
theorem at_set {A : List Int} {i : Nat} {x p : Int} (hi : i < A.length) (hp : 0 ≤ p) : atP (A.set i x) p = if p.toNat = i then x else atP A p := by
  unfold atP
  simp only [List.getD_eq_getElem?_getD, List.getElem?_set]
  by_cases h : i = p.toNat
  · subst h; simp [hi]
  · simp [h, Ne.symm h]
/-- What a call does to the arrivals. -/
theorem arrG_at {n : Int} {A : List Int} {c : Kl} (hc : okC n c = true) (hl : A.length = n.toNat) {p : Int} (hp : 0 ≤ p ∧ p < n) :
    atP (arrG c A) p = if (p = c.b ∧ atP A c.a ≠ -1 ∧ atP A c.b = -1) ∨ (p = c.a ∧ atP A c.b ≠ -1 ∧ atP A c.a = -1) then c.t else atP A p := by
  obtain ⟨ha, hb, hne, _⟩ := okC_iff.1 hc
  unfold arrG
  change atP (if atP A c.a ≠ -1 ∧ atP A c.b = -1 then A.set c.b.toNat c.t else if atP A c.b ≠ -1 ∧ atP A c.a = -1 then A.set c.a.toNat c.t else A) p = _
  by_cases h1 : atP A c.a ≠ -1 ∧ atP A c.b = -1
  · rw [if_pos h1, at_set (by omega) hp.1]
    by_cases h2 : p = c.b
    · rw [if_pos (by omega), if_pos (.inl ⟨h2, h1⟩)]
    · rw [if_neg (by omega), if_neg (by rintro (h | h); exact h2 h.1; exact h1.1 h.2.2)]
  · rw [if_neg h1]
    by_cases h3 : atP A c.b ≠ -1 ∧ atP A c.a = -1
    · rw [if_pos h3, at_set (by omega) hp.1]
      by_cases h2 : p = c.a
      · rw [if_pos (by omega), if_pos (.inr ⟨h2, h3⟩)]
      · rw [if_neg (by omega), if_neg (by rintro (h | h); exact h1 h.2; exact h2 h.1)]
    · rw [if_neg h3, if_neg (by rintro (h | h); exact h1 h.2; exact h3 h.2)]
theorem arr0_at {n s p : Int} (hs : 0 ≤ s ∧ s < n) (hp : 0 ≤ p ∧ p < n) : atP (arr0 n.toNat s) p = if p = s then 0 else -1 := by
  unfold arr0
  rw [at_set (by simp; omega) hp.1]
  by_cases h : p = s
  · subst h; simp
  · rw [if_neg (by omega), if_neg h]
    unfold atP
    simp [List.getD_eq_getElem?_getD, List.getElem?_replicate, show p.toNat < n.toNat by omega]
/-- What is known of the arrivals behind k calls. -/
structure ArrOk (n : Int) (l : List Kl) (s : Int) (k : Nat) (A : List Int) : Prop where
  run : ∀ p, 0 ≤ p ∧ p < n → atP A p ≠ -1 → ∃ (w : List Int) (m : Nat), runP l w (st0 s) = some (p, atP A p, (m : Int)) ∧ (∀ i ∈ w, 0 ≤ i ∧ i < k) ∧ ∀ q : Int, 0 ≤ q → m.testBit q.toNat = true → q < n ∧ atP A q ≠ -1
  by_ : ∀ p, 0 ≤ p ∧ p < n → atP A p ≠ -1 → (atP A p = 0 ∧ p = s) ∨ ∃ j c, j < k ∧ l[j]? = some c ∧ c.has p = true ∧ atP A p = c.t
  s0 : atP A s = 0
theorem arr_ok {n s : Int} {l : List Kl} (hv : validP n l = true) (hs : 0 ≤ s ∧ s < n) : ∀ k, k ≤ l.length → ArrOk n l s k (arrK n.toNat l s k) := by
  obtain ⟨hn1, hn7, hl24, hok⟩ := validP_ok hv
  intro k
  induction k with
  | zero =>
    intro _
    have h0 : arrK n.toNat l s 0 = arr0 n.toNat s := rfl
    rw [h0]
    refine ⟨fun p hp hne => ?_, fun p hp hne => ?_, by rw [arr0_at hs hs, if_pos rfl]⟩
    · rw [arr0_at hs hp] at hne ⊢
      by_cases h : p = s
      · subst h
        obtain ⟨m, rfl⟩ := Int.eq_ofNat_of_zero_le hs.1
        refine ⟨[], 2 ^ m, ?_, by simp, fun q hq hb => ?_⟩
        · rw [if_pos rfl]
          simp only [runP, st0]
          rw [shl1_nat (by omega)]
        · rw [testBit_pow] at hb
          have : m = q.toNat := of_decide_eq_true hb
          have hqe : q = m := by omega
          subst hqe
          exact ⟨hs.2, by rw [arr0_at hs hs, if_pos rfl]; decide⟩
      · rw [if_neg h] at hne; exact absurd rfl hne
    · rw [arr0_at hs hp] at hne ⊢
      by_cases h : p = s
      · exact .inl ⟨by rw [if_pos h], h⟩
      · rw [if_neg h] at hne; exact absurd rfl hne
  | succ k ih =>
    intro hk
    have hc : l[k]? = some l[k] := List.getElem?_eq_getElem (by omega)
    generalize l[k] = c at hc
    have hcok := hok _ _ hc
    obtain ⟨ha, hb, hne, ht1, ht2⟩ := okC_iff.1 hcok
    have I := ih (by omega)
    have hlen : (arrK n.toNat l s k).length = n.toNat := arrK_len
    rw [arrK_succ hc]
    generalize hA : arrK n.toNat l s k = A at *
    have hat := fun p hp => arrG_at (p := p) hcok hlen hp
    -- what stands stays
    have stay : ∀ p, 0 ≤ p ∧ p < n → atP A p ≠ -1 → atP (arrG c A) p = atP A p := fun p hp h => by
      rw [hat p hp, if_neg]
      rintro (⟨rfl, _, h2⟩ | ⟨rfl, _, h2⟩)
      · exact h h2
      · exact h h2
    -- one who was reached calls another one
    have ext : ∀ x y, (0 ≤ x ∧ x < n) → (0 ≤ y ∧ y < n) → c.has x = true → c.oth x = y → c.has y = true → atP A x ≠ -1 → atP A y = -1 → atP (arrG c A) y = c.t →
        ∃ (w : List Int) (m : Nat), runP l w (st0 s) = some (y, atP (arrG c A) y, (m : Int)) ∧ (∀ i ∈ w, 0 ≤ i ∧ i < (k + 1 : Nat)) ∧ ∀ q : Int, 0 ≤ q → m.testBit q.toNat = true → q < n ∧ atP (arrG c A) q ≠ -1 := by
      intro x y hx hy hxc hxy hyc hxn hyn hyt
      obtain ⟨w, m, r1, r2, r3⟩ := I.run x hx hxn
      have wf := (run_keep hv w _ _ (wf0 hn7 hs) r1).1
      obtain ⟨m', e1, e2, _, _⟩ := wf
      simp only at e1
      have : m = m' := by omega
      subst this
      have hlt : atP A x < c.t := by
        rcases I.by_ x hx hxn with ⟨h0, _⟩ | ⟨j, d, hj, hd, hdx, hdt⟩
        · omega
        · have hs2 := validP_sorted hv hj hd hc
          rw [hdt]
          rcases Int.lt_or_eq_of_le hs2.1 with h | h
          · exact h
          · exfalso
            have hcl := hs2.2
            unfold clash at hcl
            rw [h] at hcl
            simp only [beq_self_eq_true, Bool.true_and, Bool.or_eq_false_iff] at hcl
            simp only [Kl.has, Bool.or_eq_true, beq_iff_eq] at hxc
            rcases hxc with h1 | h1
            · rw [h1, hdx] at hcl; cases hcl.1
            · rw [h1, hdx] at hcl; cases hcl.2
      have hin : inP (m : Int) y = false := by
        rw [inP_nat e2 ⟨hy.1, by omega⟩]
        cases hb : m.testBit y.toNat with
        | false => rfl
        | true => exact absurd hyn (r3 y hy.1 hb).2
      obtain ⟨f1, f2⟩ := withP_nat (p := y) e2 ⟨hy.1, by omega⟩
      refine ⟨w ++ [(k : Int)], m ||| 2 ^ y.toNat, ?_, fun i hi => ?_, fun q hq hb => ?_⟩
      · rw [runP_append, r1, Option.bind_some]
        simp only [runP]
        rw [if_pos ⟨by omega, by omega⟩, Int.toNat_natCast, hc]
        simp only
        rw [if_pos (by simp only [goes, hxc, hxy, hin]; simp; omega), hxy, hyt, f1]
      · simp only [List.mem_append, List.mem_cons, List.not_mem_nil, or_false] at hi
        rcases hi with hi | rfl
        · have := r2 i hi; omega
        · omega
      · rw [Nat.testBit_or, testBit_pow] at hb
        by_cases hqy : y.toNat = q.toNat
        · have : q = y := by omega
          subst this
          exact ⟨hy.2, by rw [hyt]; omega⟩
        · simp only [hqy, decide_false, Bool.or_false] at hb
          have := r3 q hq hb
          exact ⟨this.1, by rw [stay q ⟨hq, this.1⟩ this.2]; exact this.2⟩
    have hha : c.has c.a = true := by simp [Kl.has]
    have hhb : c.has c.b = true := by simp [Kl.has]
    have hoa : c.oth c.a = c.b := by unfold Kl.oth; omega
    have hob : c.oth c.b = c.a := by unfold Kl.oth; omega
    refine ⟨fun p hp hne' => ?_, fun p hp hne' => ?_, by rw [stay s hs (by rw [I.s0]; decide)]; exact I.s0⟩
    · by_cases hold : atP A p = -1
      · have h1 := hat p hp
        by_cases hcase : (p = c.b ∧ atP A c.a ≠ -1 ∧ atP A c.b = -1) ∨ (p = c.a ∧ atP A c.b ≠ -1 ∧ atP A c.a = -1)
        · rw [if_pos hcase] at h1
          rcases hcase with ⟨rfl, h2, h3⟩ | ⟨rfl, h2, h3⟩
          · exact ext c.a c.b ha hb hha hoa hhb h2 h3 h1
          · exact ext c.b c.a hb ha hhb hob hha h2 h3 h1
        · rw [if_neg hcase, hold] at h1; exact absurd h1 hne'
      · obtain ⟨w, m, r1, r2, r3⟩ := I.run p hp hold
        refine ⟨w, m, by rw [stay p hp hold]; exact r1, fun i hi => by have := r2 i hi; omega, fun q hq hb => ?_⟩
        have := r3 q hq hb
        exact ⟨this.1, by rw [stay q ⟨hq, this.1⟩ this.2]; exact this.2⟩
    · by_cases hold : atP A p = -1
      · have h1 := hat p hp
        by_cases hcase : (p = c.b ∧ atP A c.a ≠ -1 ∧ atP A c.b = -1) ∨ (p = c.a ∧ atP A c.b ≠ -1 ∧ atP A c.a = -1)
        · rw [if_pos hcase] at h1
          right
          rcases hcase with ⟨rfl, h2, h3⟩ | ⟨rfl, h2, h3⟩
          · exact ⟨k, c, by omega, hc, hhb, h1⟩
          · exact ⟨k, c, by omega, hc, hha, h1⟩
        · rw [if_neg hcase, hold] at h1; exact absurd h1 hne'
      · rw [stay p hp hold]
        rcases I.by_ p hp hold with h | ⟨j, d, h1, h2⟩
        · exact .inl h
        · exact .inr ⟨j, d, by omega, h2⟩
theorem arr_stay {n s : Int} {l : List Kl} (hv : validP n l = true) : ∀ (k m : Nat), k ≤ m → m ≤ l.length → ∀ p, 0 ≤ p ∧ p < n → atP (arrK n.toNat l s k) p ≠ -1 → atP (arrK n.toNat l s m) p = atP (arrK n.toNat l s k) p := by
  intro k m hkm
  induction hkm with
  | refl => intro _ p _ _; rfl
  | @step m hkm ih =>
    intro hm p hp hne
    have hc : l[m]? = some l[m] := List.getElem?_eq_getElem (by omega)
    rw [arrK_succ hc, arrG_at ((validP_ok hv).2.2.2 _ _ hc) arrK_len hp, if_neg, ih (by omega) p hp hne]
    have := ih (by omega) p hp hne
    rintro (⟨rfl, _, h2⟩ | ⟨rfl, _, h2⟩)
    · rw [this] at h2; exact hne h2
    · rw [this] at h2; exact hne h2
/-- Whoever a way ends at has been reached, not later. -/
theorem run_arr {n s : Int} {l : List Kl} (hv : validP n l = true) (hs : 0 ≤ s ∧ s < n) : ∀ (m : Nat) (w : List Int), w.length = m → ∀ (st' : Int × Int × Int) (k : Nat), k ≤ l.length → runP l w (st0 s) = some st' → (∀ i ∈ w, 0 ≤ i ∧ i < k) →
    atP (arrK n.toNat l s k) st'.1 ≠ -1 ∧ atP (arrK n.toNat l s k) st'.1 ≤ st'.2.1 := by
  obtain ⟨hn1, hn7, hl24, hok⟩ := validP_ok hv
  intro m
  induction m with
  | zero =>
    intro w hw st' k hk hr _
    rw [List.eq_nil_of_length_eq_zero hw] at hr
    cases hr
    have := (arr_ok hv hs k hk).s0
    simp only [st0]
    rw [this]
    exact ⟨by decide, Int.le_refl _⟩
  | succ m ih =>
    intro w hw st' k hk hr hik
    have hne : w ≠ [] := by intro e; rw [e] at hw; cases hw
    obtain ⟨u, i, rfl⟩ : ∃ u i, w = u ++ [i] := ⟨w.dropLast, w.getLast hne, (List.dropLast_concat_getLast hne).symm⟩
    rw [runP_append] at hr
    cases hu : runP l u (st0 s) with
    | none => rw [hu] at hr; cases hr
    | some st1 =>
      rw [hu] at hr
      simp only [Option.bind_some, runP] at hr
      split at hr
      · rename_i hi
        split at hr
        · cases hr
        · rename_i c hc
          split at hr
          · rename_i hg
            cases hr
            have hcok := hok _ _ hc
            obtain ⟨g1, g2, g3, g4, g5⟩ := goes_spec hn7 hcok hg
            have hku := run_keep hv u _ _ (wf0 hn7 hs) hu
            obtain ⟨mm, _, _, hp1, _⟩ := hku.1
            -- the calls ahead of this one
            have hlt : ∀ j ∈ u, 0 ≤ j ∧ j < (i.toNat : Int) := fun j hj => by
              obtain ⟨h0, d, hd, hdt, _⟩ := hku.2.2.2.2 j hj
              refine ⟨h0, ?_⟩
              rcases Nat.lt_or_ge j.toNat i.toNat with h | h
              · omega
              · exfalso
                rcases Nat.lt_or_ge i.toNat j.toNat with h' | h'
                · have := (validP_sorted hv h' hc hd).1; omega
                · have : j.toNat = i.toNat := by omega
                  rw [this, hc] at hd
                  cases hd
                  omega
            obtain ⟨q1, q2⟩ := ih u (by simpa using hw) st1 i.toNat (by omega) hu hlt
            have hik' := hik i (by simp)
            obtain ⟨ha, hb, hnab, ht1, ht2⟩ := okC_iff.1 hcok
            have ix : i.toNat < k := by omega
            -- behind this call
            have key : atP (arrK n.toNat l s (i.toNat + 1)) (c.oth st1.1) ≠ -1 ∧ atP (arrK n.toNat l s (i.toNat + 1)) (c.oth st1.1) ≤ c.t := by
              rw [arrK_succ hc, arrG_at hcok arrK_len ⟨g4, g5⟩]
              have hcase : (st1.1 = c.a ∧ c.oth st1.1 = c.b) ∨ (st1.1 = c.b ∧ c.oth st1.1 = c.a) := by
                simp only [Kl.has, Bool.or_eq_true, beq_iff_eq] at g2
                unfold Kl.oth
                rcases g2 with h | h
                · left; omega
                · right; omega
              by_cases hset : (c.oth st1.1 = c.b ∧ atP (arrK n.toNat l s i.toNat) c.a ≠ -1 ∧ atP (arrK n.toNat l s i.toNat) c.b = -1) ∨ (c.oth st1.1 = c.a ∧ atP (arrK n.toNat l s i.toNat) c.b ≠ -1 ∧ atP (arrK n.toNat l s i.toNat) c.a = -1)
              · rw [if_pos hset]; omega
              · rw [if_neg hset]
                have hnn : atP (arrK n.toNat l s i.toNat) (c.oth st1.1) ≠ -1 := by
                  intro h
                  apply hset
                  rcases hcase with ⟨h1, h2⟩ | ⟨h1, h2⟩
                  · left; rw [h1] at q1; rw [h2] at h; exact ⟨h2, q1, h⟩
                  · right; rw [h1] at q1; rw [h2] at h; exact ⟨h2, q1, h⟩
                refine ⟨hnn, ?_⟩
                rcases (arr_ok hv hs i.toNat (by omega)).by_ _ ⟨g4, g5⟩ hnn with ⟨h1, _⟩ | ⟨j, d, h1, h2, _, h3⟩
                · omega
                · rw [h3]; exact (validP_sorted hv h1 h2 hc).1
            have hst := arr_stay (s := s) hv (i.toNat + 1) k (by omega) hk _ ⟨g4, g5⟩ key.1
            simp only
            rw [hst]
            exact key
          · cases hr
      · cases hr
end Go.AM.F
end
end

section
section
namespace Go.AM.F
open Go.Proofs
/-- A call, and whether it is there. -/
abbrev Cs := List (Kl × Bool)
/-- Those who hear, with the two of a call. -/
def addX (X : Int → Bool) (c : Kl) : Int → Bool := fun p => X p || (p == c.a || p == c.b)
/-- Must the call be left out, if these hear ahead of it and those behind it? -/
def penC (c : Kl) (X Y : Int → Bool) : Nat := if (X c.a || X c.b) && !(Y c.a && Y c.b) then 1 else 0
/-- How many calls must be left out so that t does not hear (K: it is too late). -/
def GM (K : Nat) (t : Int) : Cs → (Int → Bool) → Nat
  | [], X => if X t then K else 0
  | (c, true) :: cs, X => if X c.a || X c.b then min (GM K t cs (addX X c)) (GM K t cs X + penC c X X) else GM K t cs X
  | (_, false) :: cs, X => GM K t cs X
def SubX (X Y : Int → Bool) : Prop := ∀ p, X p = true → Y p = true
theorem SubX.refl (X : Int → Bool) : SubX X X := fun _ h => h
theorem SubX.trans {X Y Z : Int → Bool} (a : SubX X Y) (b : SubX Y Z) : SubX X Z := fun p h => b p (a p h)
theorem sub_add (X : Int → Bool) (c : Kl) : SubX X (addX X c) := fun p h => by simp [addX, h]
theorem penC_le (c : Kl) (X Y : Int → Bool) : penC c X Y ≤ 1 := by unfold penC; split <;> omega
/-- The penalty, where the call may be missing. -/
def penB (c : Kl × Bool) (X Y : Int → Bool) : Nat := if c.2 then penC c.1 X Y else 0
theorem penB_le (c : Kl × Bool) (X Y : Int → Bool) : penB c X Y ≤ 1 := by unfold penB; split; exact penC_le _ _ _; omega
section
variable {K : Nat} {t : Int}
theorem GM_mono : ∀ (cs : Cs) {X Y : Int → Bool}, SubX X Y → GM K t cs X ≤ GM K t cs Y := by
  intro cs
  induction cs with
  | nil =>
    intro X Y h
    simp only [GM]
    cases hX : X t with
    | false => simp
    | true => simp [h t hX]
  | cons c cs ih =>
    intro X Y h
    obtain ⟨c, b⟩ := c
    cases b with
    | false => simp only [GM]; exact ih h
    | true =>
      simp only [GM]
      have hadd : SubX (addX X c) (addX Y c) := fun p hp => by
        simp only [addX, Bool.or_eq_true] at hp ⊢
        rcases hp with hp | hp
        · exact .inl (h p hp)
        · exact .inr hp
      by_cases hx : (X c.a || X c.b) = true
      · have hy : (Y c.a || Y c.b) = true := by
          simp only [Bool.or_eq_true] at hx ⊢
          rcases hx with hx | hx
          · exact .inl (h _ hx)
          · exact .inr (h _ hx)
        rw [if_pos hx, if_pos hy]
        have h1 := ih hadd
        have h2 := ih h
        by_cases hyy : (Y c.a && Y c.b) = true
        · have h3 : SubX (addX X c) Y := fun p hp => by
            simp only [addX, Bool.or_eq_true, beq_iff_eq] at hp
            simp only [Bool.and_eq_true] at hyy
            rcases hp with hp | rfl | rfl
            · exact h p hp
            · exact hyy.1
            · exact hyy.2
          have h4 := ih h3
          omega
        · have : penC c Y Y = 1 := by unfold penC; rw [hy, Bool.eq_false_iff.2 hyy]; rfl
          have := penC_le c X X
          omega
      · rw [if_neg hx]
        have h2 := ih h
        split
        · have := ih (h.trans (sub_add Y c))
          omega
        · exact h2
theorem GM_le (c : Kl × Bool) (cs : Cs) {X Y : Int → Bool} (h : SubX X Y) : GM K t (c :: cs) X ≤ penB c X Y + GM K t cs Y := by
  obtain ⟨c, b⟩ := c
  cases b with
  | false => simp only [GM, penB]; have := GM_mono (K := K) (t := t) cs h; simp; omega
  | true =>
    simp only [GM, penB, if_true]
    split
    · rename_i hx
      by_cases hyy : (Y c.a && Y c.b) = true
      · have h3 : SubX (addX X c) Y := fun p hp => by
          simp only [addX, Bool.or_eq_true, beq_iff_eq] at hp
          simp only [Bool.and_eq_true] at hyy
          rcases hp with hp | rfl | rfl
          · exact h p hp
          · exact hyy.1
          · exact hyy.2
        have h4 := GM_mono (K := K) (t := t) cs h3
        omega
      · have : penC c X Y = 1 := by unfold penC; rw [hx, Bool.eq_false_iff.2 hyy]; rfl
        have := penC_le c X X
        have := GM_mono (K := K) (t := t) cs h
        omega
    · have := GM_mono (K := K) (t := t) cs h
      omega
theorem GM_ex (c : Kl × Bool) (cs : Cs) (X : Int → Bool) : ∃ Y, SubX X Y ∧ GM K t (c :: cs) X = penB c X Y + GM K t cs Y ∧ (Y = X ∨ (Y = addX X c.1 ∧ c.2 = true ∧ (X c.1.a || X c.1.b) = true)) := by
  obtain ⟨c, b⟩ := c
  cases b with
  | false => exact ⟨X, .refl _, by simp [GM, penB], .inl rfl⟩
  | true =>
    simp only [GM, penB, if_true]
    split
    · rename_i hx
      rcases Nat.le_total (GM K t cs (addX X c)) (GM K t cs X + penC c X X) with h | h
      · refine ⟨addX X c, sub_add X c, ?_, .inr ⟨rfl, trivial, hx⟩⟩
        rw [Nat.min_eq_left h]
        have : penC c X (addX X c) = 0 := by simp [penC, addX]
        omega
      · exact ⟨X, .refl _, by rw [Nat.min_eq_right h]; omega, .inl rfl⟩
    · rename_i hx
      refine ⟨X, .refl _, ?_, .inl rfl⟩
      have : penC c X X = 0 := by unfold penC; rw [if_neg]; simp only [Bool.and_eq_true]; exact fun h => hx h.1
      omega
def unionX (X Y : Int → Bool) : Int → Bool := fun p => X p || Y p
def interX (X Y : Int → Bool) : Int → Bool := fun p => X p && Y p
theorem pen_sub {c : Kl × Bool} {X Y X' Y' : Int → Bool} : penB c (unionX X Y) (unionX X' Y') + penB c (interX X Y) (interX X' Y') ≤ penB c X X' + penB c Y Y' := by
  unfold penB
  split
  · unfold penC unionX interX
    cases X c.1.a <;> cases X c.1.b <;> cases Y c.1.a <;> cases Y c.1.b <;> cases X' c.1.a <;> cases X' c.1.b <;> cases Y' c.1.a <;> cases Y' c.1.b <;> simp
  · omega
theorem GM_submod : ∀ (cs : Cs) (X Y : Int → Bool), GM K t cs (unionX X Y) + GM K t cs (interX X Y) ≤ GM K t cs X + GM K t cs Y := by
  intro cs
  induction cs with
  | nil =>
    intro X Y
    simp only [GM, unionX, interX]
    by_cases hx : X t = true <;> by_cases hy : Y t = true <;> simp [hx, hy]
  | cons c cs ih =>
    intro X Y
    obtain ⟨X', hX, eX, _⟩ := GM_ex (K := K) (t := t) c cs X
    obtain ⟨Y', hY, eY, _⟩ := GM_ex (K := K) (t := t) c cs Y
    have hU : SubX (unionX X Y) (unionX X' Y') := fun p h => by
      simp only [unionX, Bool.or_eq_true] at h ⊢
      exact h.imp (hX p) (hY p)
    have hI : SubX (interX X Y) (interX X' Y') := fun p h => by
      simp only [interX, Bool.and_eq_true] at h ⊢
      exact ⟨hX p h.1, hY p h.2⟩
    have h1 := GM_le (K := K) (t := t) c cs hU
    have h2 := GM_le (K := K) (t := t) c cs hI
    have h3 := ih X' Y'
    have h4 := pen_sub (c := c) (X := X) (Y := Y) (X' := X') (Y' := Y')
    omega
/-- The penalties of a sequence of sets. -/
def penS (cs : Cs) (X : Nat → Int → Bool) : Nat := ((List.range cs.length).map fun i => match cs[i]? with
  | some c => penB c (X i) (X (i + 1))
  | none => 0).sum
theorem penS_cons (c : Kl × Bool) (cs : Cs) (X : Nat → Int → Bool) : penS (c :: cs) X = penB c (X 0) (X 1) + penS cs (fun i => X (i + 1)) := by
  unfold penS
  rw [List.length_cons, List.range_succ_eq_map, List.map_cons, List.sum_cons, List.map_map]
  rfl
theorem GM_penS : ∀ (cs : Cs) (X : Nat → Int → Bool), (∀ i, i < cs.length → SubX (X i) (X (i + 1))) → X cs.length t = false → GM K t cs (X 0) ≤ penS cs X := by
  intro cs
  induction cs with
  | nil => intro X _ h; simp only [List.length_nil] at h; simp [GM, h, penS]
  | cons c cs ih =>
    intro X h1 h2
    rw [penS_cons]
    have h3 := GM_le (K := K) (t := t) c cs (h1 0 (by simp))
    have h4 := ih (fun i => X (i + 1)) (fun i hi => h1 (i + 1) (by simpa using hi)) h2
    simp only [Nat.zero_add] at h3 h4
    omega
theorem GM_seq : ∀ (cs : Cs) (X0 : Int → Bool), GM K t cs X0 < K → ∃ X : Nat → Int → Bool, X 0 = X0 ∧ (∀ i c, cs[i]? = some c → X (i + 1) = X i ∨ (X (i + 1) = addX (X i) c.1 ∧ c.2 = true ∧ (X i c.1.a || X i c.1.b) = true)) ∧ X cs.length t = false ∧ penS cs X = GM K t cs X0 := by
  intro cs
  induction cs with
  | nil =>
    intro X0 h
    refine ⟨fun _ => X0, rfl, fun i c hc => by simp at hc, ?_, ?_⟩
    · simp only [GM] at h
      cases hX : X0 t with
      | false => exact hX
      | true => rw [hX] at h; simp at h
    · simp only [GM] at h ⊢
      cases hX : X0 t with
      | false => simp [penS]
      | true => rw [hX] at h; simp at h
  | cons c cs ih =>
    intro X0 h
    obtain ⟨Y, hY, e, hc⟩ := GM_ex (K := K) (t := t) c cs X0
    obtain ⟨X, h1, h2, h3, h4⟩ := ih Y (by omega)
    refine ⟨fun i => match i with | 0 => X0 | i + 1 => X i, rfl, fun i d hd => ?_, h3, ?_⟩
    · cases i with
      | zero =>
        simp only [List.getElem?_cons_zero, Option.some.injEq] at hd
        subst hd
        show X 0 = X0 ∨ (X 0 = addX X0 c.1 ∧ _)
        rw [h1]
        exact hc
      | succ i =>
        rw [List.getElem?_cons_succ] at hd
        exact h2 i d hd
    · rw [penS_cons, e]
      show penB c X0 (X 0) + penS cs X = _
      rw [h1, h4]
theorem seq_mono {cs : Cs} {X : Nat → Int → Bool} (h : ∀ i c, cs[i]? = some c → X (i + 1) = X i ∨ (X (i + 1) = addX (X i) c.1 ∧ c.2 = true ∧ (X i c.1.a || X i c.1.b) = true)) (i : Nat) (hi : i < cs.length) : SubX (X i) (X (i + 1)) := by
  rcases h i _ (List.getElem?_eq_getElem hi) with e | ⟨e, _⟩ <;> rw [e]
  · exact .refl _
  · exact sub_add _ _
/-- Where somebody is behind some calls. -/
def runW (cs : Cs) : List Nat → Int → Option Int
  | [], p => some p
  | i :: w, p => match cs[i]? with
    | some (c, true) => if c.a = p then runW cs w c.b else if c.b = p then runW cs w c.a else none
    | _ => none
/-- Calls in order, from one on. -/
def Asc : Nat → List Nat → Prop
  | _, [] => True
  | m, i :: w => m ≤ i ∧ Asc (i + 1) w
theorem Asc.le {m n : Nat} (h : n ≤ m) : ∀ {w : List Nat}, Asc m w → Asc n w := by
  intro w hw
  cases w with
  | nil => trivial
  | cons i w => exact ⟨Nat.le_trans h hw.1, hw.2⟩
theorem Asc.mem : ∀ {w : List Nat} {m : Nat}, Asc m w → ∀ i ∈ w, m ≤ i := by
  intro w
  induction w with
  | nil => intro m _ i hi; cases hi
  | cons j w ih =>
    intro m h i hi
    rcases List.mem_cons.1 hi with rfl | hi
    · exact h.1
    · have := ih h.2 i hi
      have := h.1
      omega
/-- How many of k tokens are outside of a set. -/
def outX (k : Nat) (ps : Nat → Int) (X : Int → Bool) : Nat := (List.range k).countP fun j => !X (ps j)
def upd (ps : Nat → Int) (j0 : Nat) (q : Int) : Nat → Int := fun j => if j = j0 then q else ps j
theorem out_upd {k : Nat} {ps : Nat → Int} {j0 : Nat} {q : Int} {X : Int → Bool} (hj : j0 < k) :
    outX k (upd ps j0 q) X + (if X (ps j0) then 0 else 1) = outX k ps X + (if X q then 0 else 1) := by
  induction k with
  | zero => omega
  | succ k ih =>
    unfold outX
    rw [List.range_succ, List.countP_append, List.countP_append]
    simp only [List.countP_cons, List.countP_nil, Nat.zero_add]
    by_cases h : j0 = k
    · subst h
      have : (List.range j0).countP (fun j => !X (upd ps j0 q j)) = (List.range j0).countP (fun j => !X (ps j)) := by
        apply List.countP_congr
        intro j hj
        have : j ≠ j0 := by have := List.mem_range.1 hj; omega
        simp [upd, this]
      rw [this]
      simp only [upd, if_true]
      cases X (ps j0) <;> cases X q <;> simp
    · have := ih (by omega)
      unfold outX at this
      have h2 : upd ps j0 q k = ps k := by simp [upd, Ne.symm h]
      rw [h2]
      omega
theorem out_mod {k : Nat} {ps : Nat → Int} {X Y : Int → Bool} : outX k ps (unionX X Y) + outX k ps (interX X Y) = outX k ps X + outX k ps Y := by
  induction k with
  | zero => rfl
  | succ k ih =>
    unfold outX at ih ⊢
    simp only [List.range_succ, List.countP_append, List.countP_cons, List.countP_nil, Nat.zero_add]
    have : (if (!unionX X Y (ps k)) = true then 1 else 0) + (if (!interX X Y (ps k)) = true then 1 else 0) = (if (!X (ps k)) = true then 1 else 0) + (if (!Y (ps k)) = true then 1 else 0) := by
      unfold unionX interX
      cases X (ps k) <;> cases Y (ps k) <;> simp
    omega
theorem out_minus {k : Nat} {ps : Nat → Int} {X : Int → Bool} {p : Int} (h : ∀ j, j < k → ps j ≠ p) : outX k ps (fun x => X x && x != p) = outX k ps X := by
  unfold outX
  apply List.countP_congr
  intro j hj
  have := h j (List.mem_range.1 hj)
  simp [this]
/-- Tokens are moved through the calls: as_ many come to t as_ no cut forbids. -/
theorem tokens (cs : Cs) {k μ : Nat} : ∀ (n i0 : Nat) (ps : Nat → Int), i0 + n = cs.length → (∀ X, μ ≤ outX k ps X + GM K t (cs.drop i0) X) →
    ∃ (ws : Nat → List Nat) (es : Nat → Int), (∀ j, j < k → runW cs (ws j) (ps j) = some (es j) ∧ Asc i0 (ws j)) ∧ (∀ j j', j < k → j' < k → j ≠ j' → ∀ i ∈ ws j, i ∉ ws j') ∧ μ ≤ (List.range k).countP fun j => decide (es j = t) := by
  intro n
  induction n with
  | zero =>
    intro i0 ps hi h
    refine ⟨fun _ => [], ps, fun j _ => ⟨rfl, trivial⟩, (by intro j j' _ _ _ i hi; simp at hi), ?_⟩
    have := h fun p => p != t
    rw [List.drop_of_length_le (by omega)] at this
    simp only [GM, bne_self_eq_false, Bool.false_eq_true, if_false, Nat.add_zero] at this
    refine Nat.le_trans this (Nat.le_of_eq ?_)
    unfold outX
    apply List.countP_congr
    intro j _
    simp [bne]
  | succ n ih =>
    intro i0 ps hi h
    have hlt : i0 < cs.length := by omega
    have hd : cs.drop i0 = cs[i0] :: cs.drop (i0 + 1) := List.drop_eq_getElem_cons hlt
    rw [hd] at h
    by_cases hA : ∀ X, μ ≤ outX k ps X + GM K t (cs.drop (i0 + 1)) X
    · obtain ⟨ws, es, h1, h2, h3⟩ := ih (i0 + 1) ps (by omega) hA
      exact ⟨ws, es, fun j hj => ⟨(h1 j hj).1, (h1 j hj).2.le (by omega)⟩, h2, h3⟩
    · obtain ⟨X0, hX0⟩ := Classical.not_forall.1 hA
      have g0 := h X0
      have l0 := GM_le (K := K) (t := t) cs[i0] (cs.drop (i0 + 1)) (SubX.refl X0)
      obtain ⟨⟨c, b⟩, hc⟩ : ∃ c, cs[i0] = c := ⟨_, rfl⟩
      rw [hc] at h l0 g0
      have hp1 : penB (c, b) X0 X0 = 1 := by have := penB_le (c, b) X0 X0; omega
      have hb : b = true := by
        cases b with
        | true => rfl
        | false => simp [penB] at hp1
      subst hb
      -- the one of the call who hears, and the one who does not
      obtain ⟨p, q, hpq, hX0p, hX0q⟩ : ∃ p q, ((c.a = p ∧ c.b = q) ∨ (c.a = q ∧ c.b = p)) ∧ X0 p = true ∧ X0 q = false := by
        simp only [penB, if_true, penC] at hp1
        cases ha : X0 c.a <;> cases hb : X0 c.b <;> simp only [ha, hb] at hp1 <;> simp at hp1
        · exact ⟨c.b, c.a, .inr ⟨rfl, rfl⟩, hb, ha⟩
        · exact ⟨c.a, c.b, .inl ⟨rfl, rfl⟩, ha, hb⟩
      have pen0 : ∀ X : Int → Bool, X p = X q → penB (c, true) X X = 0 := by
        intro X hX
        simp only [penB, if_true, penC]
        rcases hpq with ⟨h1, h2⟩ | ⟨h1, h2⟩ <;> rw [h1, h2] <;> cases hp : X p <;> rw [hp] at hX <;> simp [← hX]
      have hpqne : p ≠ q := by rintro rfl; rw [hX0p] at hX0q; cases hX0q
      have upTo : ∀ X : Int → Bool, X p = X q → μ ≤ outX k ps X + GM K t (cs.drop (i0 + 1)) X := by
        intro X hX
        have h1 := h X
        have h2 := GM_le (K := K) (t := t) (c, true) (cs.drop (i0 + 1)) (SubX.refl X)
        rw [pen0 X hX] at h2
        omega
      have upOne : ∀ X : Int → Bool, μ ≤ outX k ps X + 1 + GM K t (cs.drop (i0 + 1)) X := by
        intro X
        have h1 := h X
        have h2 := GM_le (K := K) (t := t) (c, true) (cs.drop (i0 + 1)) (SubX.refl X)
        have h3 := penB_le (c, true) X X
        omega
      -- there is a token at p
      obtain ⟨j0, hj0, hps⟩ : ∃ j0, j0 < k ∧ ps j0 = p := by
        refine Classical.byContradiction fun hno => ?_
        have hno' : ∀ j, j < k → ps j ≠ p := fun j hj e => hno ⟨j, hj, e⟩
        have h1 := upTo (fun x => X0 x && x != p) (by simp [hX0q])
        rw [out_minus hno'] at h1
        have h2 := GM_mono (K := K) (t := t) (cs.drop (i0 + 1)) (X := fun x => X0 x && x != p) (Y := X0) (fun x hx => by simp only [Bool.and_eq_true] at hx; exact hx.1)
        omega
      have hB : ∀ X, μ ≤ outX k (upd ps j0 q) X + GM K t (cs.drop (i0 + 1)) X := by
        intro X1
        refine Classical.byContradiction fun hno => ?_
        have hu := out_upd (ps := ps) (q := q) (X := X1) hj0
        rw [hps] at hu
        by_cases hpq1 : X1 p = X1 q
        · have := upTo X1 hpq1
          rw [hpq1] at hu
          omega
        · cases h1 : X1 p with
          | true =>
            have h2 : X1 q = false := by cases hq : X1 q with | false => rfl | true => rw [h1, hq] at hpq1; exact absurd rfl hpq1
            rw [h1, h2] at hu
            have := upOne X1
            simp at hu
            omega
          | false =>
            have h2 : X1 q = true := by cases hq : X1 q with | true => rfl | false => rw [h1, hq] at hpq1; exact absurd rfl hpq1
            rw [h1, h2] at hu
            simp at hu
            have a1 := upTo (unionX X0 X1) (by simp [unionX, hX0p, h2])
            have a2 := upTo (interX X0 X1) (by simp [interX, hX0q, h1])
            have a3 := out_mod (k := k) (ps := ps) (X := X0) (Y := X1)
            have a4 := GM_submod (K := K) (t := t) (cs.drop (i0 + 1)) X0 X1
            omega
      obtain ⟨ws, es, h1, h2, h3⟩ := ih (i0 + 1) (upd ps j0 q) (by omega) hB
      have hget : cs[i0]? = some (c, true) := by rw [List.getElem?_eq_getElem hlt, hc]
      refine ⟨fun j => if j = j0 then i0 :: ws j0 else ws j, es, fun j hj => ?_, fun j j' hj hj' hne i hi => ?_, h3⟩
      · by_cases e : j = j0
        · subst e
          simp only [if_true]
          obtain ⟨r1, r2⟩ := h1 j hj
          refine ⟨?_, Nat.le_refl _, r2⟩
          simp only [upd, if_true] at r1
          simp only [runW, hget, hps]
          rcases hpq with ⟨e1, e2⟩ | ⟨e1, e2⟩
          · rw [if_pos e1, e2]; exact r1
          · rw [if_neg (by rw [e1]; exact Ne.symm hpqne), if_pos e2, e1]; exact r1
        · simp only [if_neg e]
          obtain ⟨r1, r2⟩ := h1 j hj
          simp only [upd, if_neg e] at r1
          exact ⟨r1, r2.le (by omega)⟩
      · have low : ∀ j, j < k → ∀ i ∈ ws j, i0 + 1 ≤ i := fun j hj i hi => (h1 j hj).2.mem i hi
        by_cases e : j = j0
        · subst e
          have e' : j' ≠ j := Ne.symm hne
          simp only [if_true, if_neg e'] at hi ⊢
          rcases List.mem_cons.1 hi with rfl | hi
          · intro hm; have := low j' hj' _ hm; omega
          · exact h2 j j' hj hj' hne i hi
        · simp only [if_neg e] at hi
          by_cases e' : j' = j0
          · subst e'
            simp only [if_true]
            intro hm
            rcases List.mem_cons.1 hm with e3 | hm
            · have h7 := low j hj i hi; omega
            · exact h2 j j' hj hj' hne i hi hm
          · simp only [if_neg e']
            exact h2 j j' hj hj' hne i hi
/-- Menger: as_ many walks apart as_ calls must be left out. -/
theorem menger (cs : Cs) {s : Int} {k : Nat} (h : k ≤ GM K t cs (fun p => p == s)) :
    ∃ ws : Nat → List Nat, (∀ j, j < k → runW cs (ws j) s = some t ∧ Asc 0 (ws j)) ∧ ∀ j j', j < k → j' < k → j ≠ j' → ∀ i ∈ ws j, i ∉ ws j' := by
  obtain ⟨ws, es, h1, h2, h3⟩ := tokens (K := K) (t := t) (k := k) (μ := k) cs cs.length 0 (fun _ => s) (by omega) (fun X => by
    rw [List.drop_zero]
    cases hX : X s with
    | false => 
      have : outX k (fun _ => s) X = k := by unfold outX; rw [List.countP_eq_length.2 (fun j _ => by simp [hX]), List.length_range]
      omega
    | true =>
      have := GM_mono (K := K) (t := t) cs (X := fun p => p == s) (Y := X) (fun p hp => by rw [beq_iff_eq] at hp; rw [hp]; exact hX)
      omega)
  have hall : ∀ j, j < k → es j = t := by
    intro j hj
    have h4 : (List.range k).countP (fun j => decide (es j = t)) = (List.range k).length := by
      have := List.countP_le_length (p := fun j => decide (es j = t)) (l := List.range k)
      rw [List.length_range] at this ⊢
      omega
    have := List.countP_eq_length.1 h4 j (List.mem_range.2 hj)
    exact of_decide_eq_true this
  exact ⟨ws, fun j hj => by have := h1 j hj; rw [hall j hj] at this; exact this, h2⟩
/-- A walk meets a call that is left out. -/
theorem walk_pen {cs : Cs} {X : Nat → Int → Bool} (hX : ∀ i, i < cs.length → SubX (X i) (X (i + 1))) (hend : X cs.length t = false) :
    ∀ (w : List Nat) (m : Nat) (p : Int), m ≤ cs.length → Asc m w → X m p = true → runW cs w p = some t → ∃ i ∈ w, ∃ c, cs[i]? = some c ∧ penB c (X i) (X (i + 1)) = 1 := by
  have up : ∀ (d m : Nat), m + d ≤ cs.length → SubX (X m) (X (m + d)) := by
    intro d
    induction d with
    | zero => intro m _; exact .refl _
    | succ d ih => intro m h; exact (ih m (by omega)).trans (hX (m + d) (by omega))
  intro w
  induction w with
  | nil =>
    intro m p hm _ hp hr
    cases hr
    have := up (cs.length - m) m (by omega) _ hp
    rw [show m + (cs.length - m) = cs.length by omega, hend] at this
    cases this
  | cons i w ih =>
    intro m p hm ha hp hr
    simp only [runW] at hr
    split at hr
    · rename_i c hc
      have hi : i < cs.length := by
        rcases Nat.lt_or_ge i cs.length with h | h
        · exact h
        · rw [List.getElem?_eq_none h] at hc; cases hc
      have hip : X i p = true := by
        have := up (i - m) m (by have := ha.1; omega) _ hp
        rwa [show m + (i - m) = i by have := ha.1; omega] at this
      by_cases hpen : penB (c, true) (X i) (X (i + 1)) = 1
      · exact ⟨i, List.mem_cons_self, _, hc, hpen⟩
      · have key : (X (i + 1) c.a && X (i + 1) c.b) = true ∨ (c.a ≠ p ∧ c.b ≠ p) := by
          refine Classical.byContradiction fun hno => ?_
          have h1 := fun h => hno (.inl h)
          refine hpen ?_
          simp only [penB, if_true, penC]
          rw [if_pos]
          simp only [Bool.and_eq_true, Bool.or_eq_true, Bool.not_eq_true']
          refine ⟨?_, by simpa using h1⟩
          refine Classical.byContradiction fun h2 => hno (.inr ⟨fun e => h2 (.inl (by rw [e]; exact hip)), fun e => h2 (.inr (by rw [e]; exact hip))⟩)
        have next : ∀ q, X (i + 1) q = true → runW cs w q = some t → ∃ i' ∈ i :: w, ∃ c, cs[i']? = some c ∧ penB c (X i') (X (i' + 1)) = 1 := by
          intro q hq hr
          obtain ⟨i', h1, h2⟩ := ih (i + 1) q (by omega) ha.2 hq hr
          exact ⟨i', List.mem_cons_of_mem _ h1, h2⟩
        split at hr
        · rename_i e
          rcases key with h | h
          · simp only [Bool.and_eq_true] at h
            exact next _ h.2 hr
          · exact absurd e h.1
        · split at hr
          · rename_i e
            rcases key with h | h
            · simp only [Bool.and_eq_true] at h
              exact next _ h.1 hr
            · exact absurd e h.2
          · cases hr
    · cases hr
end
end Go.AM.F
end
section
namespace Go.AM.F
open Go.Proofs
def sumR (n : Nat) (f : Nat → Nat) : Nat := ((List.range n).map f).sum
theorem sumR_succ (n : Nat) (f : Nat → Nat) : sumR (n + 1) f = sumR n f + f n := by
  unfold sumR
  rw [List.range_succ, List.map_append, List.sum_append]
  simp
theorem sumR_le {f g : Nat → Nat} : ∀ {n : Nat}, (∀ i, i < n → f i ≤ g i) → sumR n f ≤ sumR n g := by
  intro n
  induction n with
  | zero => intro _; exact Nat.le_refl _
  | succ n ih =>
    intro h
    rw [sumR_succ, sumR_succ]
    have := ih fun i hi => h i (by omega)
    have := h n (by omega)
    omega
theorem sumR_lt {f g : Nat → Nat} {j : Nat} : ∀ {n : Nat}, (∀ i, i < n → f i ≤ g i) → j < n → f j < g j → sumR n f < sumR n g := by
  intro n
  induction n with
  | zero => intro _ h; omega
  | succ n ih =>
    intro h hj hlt
    rw [sumR_succ, sumR_succ]
    by_cases e : j = n
    · subst e
      have := sumR_le (n := j) fun i hi => h i (by omega)
      omega
    · have := ih (fun i hi => h i (by omega)) (by omega) hlt
      have := h n (by omega)
      omega
theorem countP_le1 {p : Nat → Bool} : ∀ {k : Nat}, (∀ j j', j < k → j' < k → p j = true → p j' = true → j = j') → (List.range k).countP p ≤ 1 := by
  intro k
  induction k with
  | zero => intro _; simp
  | succ k ih =>
    intro h
    rw [List.range_succ, List.countP_append, List.countP_cons, List.countP_nil]
    by_cases hk : p k = true
    · have : (List.range k).countP p = 0 := by
        rw [List.countP_eq_zero]
        intro j hj hp
        have hj' := List.mem_range.1 hj
        have := h j k (by omega) (by omega) hp hk
        omega
      rw [if_pos hk]; omega
    · have := ih fun j j' a b => h j j' (by omega) (by omega)
      rw [if_neg hk]; omega
/-- Different places with something at each. -/
theorem sumR_many {f : Nat → Nat} {k : Nat} {g : Nat → Nat} (hd : ∀ j j', j < k → j' < k → g j = g j' → j = j') (hf : ∀ j, j < k → 1 ≤ f (g j)) : ∀ n, (List.range k).countP (fun j => decide (g j < n)) ≤ sumR n f := by
  intro n
  induction n with
  | zero => simp [sumR]
  | succ n ih =>
    rw [sumR_succ]
    have h1 : (List.range k).countP (fun j => decide (g j < n + 1)) = (List.range k).countP (fun j => decide (g j < n)) + (List.range k).countP (fun j => decide (g j = n)) := by
      clear hd hf ih
      induction k with
      | zero => rfl
      | succ k ih =>
        rw [List.range_succ]
        simp only [List.countP_append, List.countP_cons, List.countP_nil, ih, decide_eq_true_eq]
        by_cases a : g k < n
        · rw [if_pos (show g k < n + 1 by omega), if_pos a, if_neg (show ¬ g k = n by omega)]; omega
        · by_cases b : g k = n
          · rw [if_pos (show g k < n + 1 by omega), if_neg a, if_pos b]; omega
          · rw [if_neg (show ¬ g k < n + 1 by omega), if_neg a, if_neg b]; omega
    by_cases hex : ∃ j, j < k ∧ g j = n
    · obtain ⟨j, hj, e⟩ := hex
      have h2 := hf j hj
      rw [e] at h2
      have h3 : (List.range k).countP (fun j => decide (g j = n)) ≤ 1 := countP_le1 fun j j' a b p q => hd j j' a b (by rw [of_decide_eq_true p, of_decide_eq_true q])
      omega
    · have h3 : (List.range k).countP (fun j => decide (g j = n)) = 0 := by
        rw [List.countP_eq_zero]
        intro j hj hp
        exact hex ⟨j, List.mem_range.1 hj, of_decide_eq_true hp⟩
      omega
theorem penS_sum (cs : Cs) (X : Nat → Int → Bool) : penS cs X = sumR cs.length fun i => match cs[i]? with
  | some c => penB c (X i) (X (i + 1))
  | none => 0 := rfl
/-- The calls, but those that are gone. -/
def maskL (l : List Kl) (d : Nat → Bool) : Cs := l.zipIdx.map fun q => (q.1, !d q.2)
theorem maskL_len (l : List Kl) (d : Nat → Bool) : (maskL l d).length = l.length := by simp [maskL]
theorem maskL_get (l : List Kl) (d : Nat → Bool) (i : Nat) : (maskL l d)[i]? = (l[i]?).map fun c => (c, !d i) := by
  unfold maskL
  rw [List.getElem?_map, List.getElem?_zipIdx]
  cases l[i]? <;> simp
theorem penS_mask (l : List Kl) (d : Nat → Bool) (X : Nat → Int → Bool) : penS (maskL l d) X = sumR l.length fun i => match l[i]? with
  | some c => if d i then 0 else penC c (X i) (X (i + 1))
  | none => 0 := by
  rw [penS_sum, maskL_len]
  congr 1
  funext i
  rw [maskL_get]
  cases l[i]? with
  | none => rfl
  | some c => simp only [Option.map_some, penB]; cases d i <;> rfl
section
variable {K : Nat} {t : Int}
theorem GM_len {cs : Cs} {X : Int → Bool} (h : X t = false) : GM K t cs X ≤ cs.length := by
  refine Nat.le_trans (GM_penS cs (fun _ => X) (fun _ _ => .refl _) h) ?_
  rw [penS_sum]
  refine Nat.le_trans (sumR_le (g := fun _ => 1) fun i _ => ?_) ?_
  · split
    · exact penB_le _ _ _
    · omega
  · generalize cs.length = n
    induction n with
    | zero => simp [sumR]
    | succ n ih => rw [sumR_succ]; omega
/-- As many walks apart, as_ many calls must be left out. -/
theorem GM_ge {cs : Cs} {s : Int} {k : Nat} {ws : Nat → List Nat} (hw : ∀ j, j < k → runW cs (ws j) s = some t ∧ Asc 0 (ws j)) (hd : ∀ j j', j < k → j' < k → j ≠ j' → ∀ i ∈ ws j, i ∉ ws j') (hK : k ≤ K) :
    k ≤ GM K t cs (fun p => p == s) := by
  rcases Nat.lt_or_ge (GM K t cs (fun p => p == s)) K with h1 | h1
  · obtain ⟨Xs, e0, hs, he, hp⟩ := GM_seq cs _ h1
    rw [← hp]
    have hm := seq_mono hs
    have pick : ∀ j, ∃ i, j < k → i ∈ ws j ∧ ∃ c, cs[i]? = some c ∧ penB c (Xs i) (Xs (i + 1)) = 1 := by
      intro j
      by_cases hj : j < k
      · obtain ⟨i, h2, h3⟩ := walk_pen hm he (ws j) 0 s (Nat.zero_le _) (hw j hj).2 (by rw [e0]; simp) (hw j hj).1
        exact ⟨i, fun _ => ⟨h2, h3⟩⟩
      · exact ⟨0, fun h => absurd h hj⟩
    obtain ⟨g, hg⟩ := Classical.skolem.1 pick
    have lt : ∀ j, j < k → g j < cs.length := fun j hj => by
      obtain ⟨_, c, hc, _⟩ := hg j hj
      exact (List.getElem?_eq_some_iff.1 hc).1
    have := sumR_many (f := fun i => match cs[i]? with
      | some c => penB c (Xs i) (Xs (i + 1))
      | none => 0) (k := k) (g := g) (fun j j' hj hj' e => Classical.byContradiction fun hne => hd j j' hj hj' hne (g j) (hg j hj).1 (by rw [e]; exact (hg j' hj').1)) (fun j hj => by
        obtain ⟨_, c, hc, hpen⟩ := hg j hj
        simp only [hc, hpen]
        exact Nat.le_refl _) cs.length
    rw [List.countP_eq_length.2 (fun j hj => by simpa using lt j (List.mem_range.1 hj)), List.length_range] at this
    rw [penS_sum]
    exact this
  · omega
/-- Without a walk's calls one less must be left out. -/
theorem GM_walk {l : List Kl} {d d' : Nat → Bool} {s : Int} {w : List Nat} (hw : runW (maskL l d) w s = some t) (ha : Asc 0 w) (hst : s ≠ t) (hl : l.length < K) (hd : ∀ i, d' i = true ↔ d i = true ∨ i ∈ w) :
    GM K t (maskL l d') (fun p => p == s) + 1 ≤ GM K t (maskL l d) (fun p => p == s) := by
  have hX : (fun p => p == s) t = false := by simpa using Ne.symm hst
  have h1 : GM K t (maskL l d) (fun p => p == s) < K := by have := GM_len (K := K) (t := t) (cs := maskL l d) (X := fun p => p == s) hX; rw [maskL_len] at this; omega
  obtain ⟨Xs, e0, hs, he, hp⟩ := GM_seq (maskL l d) _ h1
  have hm := seq_mono hs
  obtain ⟨i, hi, c, hc, hpen⟩ := walk_pen hm he w 0 s (Nat.zero_le _) ha (by rw [e0]; simp) hw
  have h2 := GM_penS (K := K) (t := t) (maskL l d') Xs (fun i hi => hm i (by rw [maskL_len] at hi ⊢; exact hi)) (by rw [maskL_len] at he ⊢; exact he)
  rw [e0] at h2
  rw [← hp]
  refine Nat.lt_of_le_of_lt h2 ?_
  rw [penS_mask, penS_mask]
  have hil : i < l.length := by have := (List.getElem?_eq_some_iff.1 hc).1; rwa [maskL_len] at this
  refine sumR_lt (j := i) (fun i' _ => ?_) hil ?_
  · cases l[i']? with
    | none => exact Nat.le_refl _
    | some c' =>
      simp only
      cases hd1 : d i' with
      | true => rw [(hd i').2 (.inl hd1)]; simp
      | false => cases d' i' <;> simp
  · rw [maskL_get] at hc
    cases hli : l[i]? with
    | none => rw [hli] at hc; cases hc
    | some c' =>
      rw [hli] at hc
      simp only [Option.map_some, Option.some.injEq] at hc
      subst hc
      simp only
      rw [(hd i).2 (.inr hi)]
      simp only [penB] at hpen
      cases hdi : d i with
      | true => rw [hdi] at hpen; simp at hpen
      | false => rw [hdi] at hpen; simp at hpen ⊢; omega
/-- The calls that are there, alone. -/
theorem GM_filter : ∀ (cs : Cs) (X : Int → Bool), GM K t (cs.filter (·.2)) X = GM K t cs X := by
  intro cs
  induction cs with
  | nil => intro X; rfl
  | cons c cs ih =>
    intro X
    obtain ⟨c, b⟩ := c
    cases b with
    | false => simp only [List.filter_cons, Bool.false_eq_true, if_false, GM]; exact ih X
    | true => simp only [List.filter_cons, if_true, GM]; rw [ih, ih]
end
/-- Where one comes along, person by person. -/
def visits (cs : Cs) : List Nat → Int → List Int
  | [], _ => []
  | i :: w, p => match cs[i]? with
    | some (c, true) => if c.a = p then c.b :: visits cs w c.b else if c.b = p then c.a :: visits cs w c.a else []
    | _ => []
theorem walk_drop {cs : Cs} {t : Int} : ∀ (w : List Nat) (q p : Int) (m : Nat), runW cs w q = some t → Asc m w → (q :: visits cs w q).Nodup → p ∈ visits cs w q →
    ∃ w', runW cs w' p = some t ∧ Asc m w' ∧ (p :: visits cs w' p).Nodup ∧ w'.length ≤ w.length ∧ ∀ i ∈ w', i ∈ w := by
  intro w
  induction w with
  | nil => intro q p m _ _ _ hp; cases hp
  | cons i w ih =>
    intro q p m hr ha hn hp
    simp only [runW] at hr
    simp only [visits] at hn hp
    split at hr
    · rename_i c hc
      simp only [hc] at hn hp
      have fin : ∀ x, runW cs w x = some t → (q :: x :: visits cs w x).Nodup → p ∈ x :: visits cs w x → ∃ w', runW cs w' p = some t ∧ Asc m w' ∧ (p :: visits cs w' p).Nodup ∧ w'.length ≤ (i :: w).length ∧ ∀ i' ∈ w', i' ∈ i :: w := by
        intro x h1 h2 h3
        rcases List.mem_cons.1 h3 with rfl | h3
        · exact ⟨w, h1, ha.2.le (by have := ha.1; omega), (List.nodup_cons.1 h2).2, by simp, fun i' hi' => List.mem_cons_of_mem _ hi'⟩
        · obtain ⟨w', g1, g2, g3, g4, g5⟩ := ih x p (i + 1) h1 ha.2 (List.nodup_cons.1 h2).2 h3
          exact ⟨w', g1, g2.le (by have := ha.1; omega), g3, by simp; omega, fun i' hi' => List.mem_cons_of_mem _ (g5 i' hi')⟩
      split at hr
      · rename_i e
        rw [if_pos e] at hn hp
        exact fin _ hr hn hp
      · rename_i e
        rw [if_neg e] at hn hp
        split at hr
        · rename_i e2
          rw [if_pos e2] at hn hp
          exact fin _ hr hn hp
        · cases hr
    · cases hr
theorem walk_way {cs : Cs} {t : Int} (hne : ∀ (i : Nat) (c : Kl × Bool), cs[i]? = some c → c.1.a ≠ c.1.b) : ∀ (w : List Nat) (p : Int) (m : Nat), runW cs w p = some t → Asc m w →
    ∃ w', runW cs w' p = some t ∧ Asc m w' ∧ (p :: visits cs w' p).Nodup ∧ ∀ i ∈ w', i ∈ w := by
  intro w
  induction w with
  | nil => intro p m h _; exact ⟨[], h, trivial, by simp [visits], fun i hi => hi⟩
  | cons i w ih =>
    intro p m hr ha
    have hr0 := hr
    simp only [runW] at hr
    split at hr
    · rename_i c hc
      have fin : ∀ x, runW cs w x = some t → x ≠ p → (∀ w', runW cs (i :: w') p = runW cs w' x ∧ visits cs (i :: w') p = x :: visits cs w' x) → ∃ w', runW cs w' p = some t ∧ Asc m w' ∧ (p :: visits cs w' p).Nodup ∧ ∀ i' ∈ w', i' ∈ i :: w := by
        intro x h1 hxp hst
        obtain ⟨w', g1, g2, g3, g4⟩ := ih x (i + 1) h1 ha.2
        by_cases hp : p ∈ visits cs w' x
        · obtain ⟨w2, k1, k2, k3, _, k5⟩ := walk_drop w' x p (i + 1) g1 g2 g3 hp
          exact ⟨w2, k1, k2.le (by have := ha.1; omega), k3, fun i' hi' => List.mem_cons_of_mem _ (g4 _ (k5 _ hi'))⟩
        · refine ⟨i :: w', by rw [(hst w').1]; exact g1, ⟨ha.1, g2⟩, ?_, fun i' hi' => ?_⟩
          · rw [(hst w').2]
            refine List.nodup_cons.2 ⟨?_, g3⟩
            simp only [List.mem_cons, not_or]
            exact ⟨Ne.symm hxp, hp⟩
          · rcases List.mem_cons.1 hi' with rfl | hi'
            · exact List.mem_cons_self
            · exact List.mem_cons_of_mem _ (g4 _ hi')
      have hab := hne i _ hc
      split at hr
      · rename_i e
        refine fin c.b hr (by rw [← e]; exact Ne.symm hab) fun w' => ?_
        simp only [runW, visits, hc, if_pos e, and_self]
      · rename_i e
        split at hr
        · rename_i e2
          refine fin c.a hr e fun w' => ?_
          simp only [runW, visits, hc, if_neg e, if_pos e2, and_self]
        · cases hr
    · cases hr
end Go.AM.F
end
section
namespace Go.AM.F
open Go.Proofs
/-- Which calls are gone. -/
abbrev goneD (g : Nat) : Nat → Bool := fun i => g.testBit i
end Go.AM.F
end
section
namespace Go.AM.F
open Go.Proofs
/-- How many calls more must be left out. -/
def mcP (l : List Kl) (s t : Int) (gone : Nat) : Nat := GM 1000 t (maskL l (goneD gone)) (fun p => p == s)
theorem pairP_parts {n s t : Int} {l : List Kl} (h : pairP n l s t = true) : validP n l = true ∧ (0 ≤ s ∧ s < n) ∧ (0 ≤ t ∧ t < n) ∧ s ≠ t := by
  unfold pairP at h
  simp only [Bool.and_eq_true, decide_eq_true_eq, Bool.not_eq_true', beq_eq_false_iff_ne] at h
  exact ⟨h.1.1.1, h.1.1.2, h.1.2, h.2⟩
theorem mcP_le {l : List Kl} {s t : Int} (hst : s ≠ t) (gone : Nat) : mcP l s t gone ≤ l.length := by
  have := GM_len (K := 1000) (t := t) (cs := maskL l (goneD gone)) (X := fun p => p == s) (by simpa using Ne.symm hst)
  rwa [maskL_len] at this
theorem k58 {R : Type} {n s t : Int} {sl : Value} {l : List Kl} {h : H} (hs : SlR h 53 3 sl (l.map Kl.cells)) (K : Value → H → Option R) : calls rn h 58 [.agg #[iv n, sl], iv s, iv t] K = K (.bool (pairP n l s t)) h := by
  refine calls_eq (xs := [_, _, _]) ?_
  have x1 : Ext h (h.new (.row [iv n, sl] 50 true)) := .new _ _
  refine p58 (k := 0) (h1 := h.new (.row [iv n, sl] 50 true)) ?_ rfl x1
  have hb : ∀ (m o : Nat), (h.new (.row [iv n, sl] 50 true)).rd h.nx o m = if o + m ≤ 2 then some (([iv n, sl].drop o).take m) else none := fun m o => rd_of (blk_new_self _ _)
  unfold f58
  rw [bx_eq]
  simp only [nx_eq, d50, Value.cells]
  rw [hb, if_pos (by omega), Option.bind_some]
  show calls rn _ 66 [.agg #[iv n, sl]] _ = _
  rw [k66 (hs.ext x1), asB_bool]
  cases hv : validP n l with
  | false => simp only [ifB_false, pairP, hv]; rfl
  | true =>
    rw [ifB_true, hb, if_pos (by omega), Option.bind_some]
    show calls rn _ 67 [.agg #[iv n, sl], iv s] _ = _
    rw [k67, asB_bool]
    by_cases hsn : 0 ≤ s ∧ s < n
    · rw [decide_eq_true hsn, ifB_true, hb, if_pos (by omega), Option.bind_some]
      show calls rn _ 67 [.agg #[iv n, sl], iv t] _ = _
      rw [k67, asB_bool]
      by_cases htn : 0 ≤ t ∧ t < n
      · rw [decide_eq_true htn, ifB_true]
        simp only [pairP, hv, decide_eq_true hsn, decide_eq_true htn]
        rfl
      · rw [decide_eq_false htn, ifB_false]
        simp only [pairP, decide_eq_false htn]
        simp
    · rw [decide_eq_false hsn, ifB_false]
      simp only [pairP, decide_eq_false hsn]
      simp
end Go.AM.F
end
end

section
section
namespace Go.AM.F
open Go.Proofs
variable {R : Type}
abbrev flatK (l : List Kl) : List Value := (l.map Kl.cells).flatten
theorem flatK_cons (c : Kl) (l : List Kl) : flatK (c :: l) = iv c.a :: iv c.b :: iv c.t :: flatK l := rfl
theorem flatK_len : ∀ l : List Kl, (flatK l).length = l.length * 3
  | [] => rfl
  | c :: l => by rw [flatK_cons]; simp only [List.length_cons, flatK_len l]; omega
theorem setAt_flat : ∀ (l : List Kl) (i : Nat) (x : Kl), i < l.length → setAt (flatK l) (i * 3) x.cells = flatK (l.set i x)
  | [], _, _, h => by simp at h
  | c :: l, 0, x, _ => rfl
  | c :: l, i + 1, x, h => by
    have := setAt_flat l i x (by simpa using h)
    rw [List.set_cons_succ, flatK_cons, flatK_cons, ← this]
    rw [show (i + 1) * 3 = i * 3 + 1 + 1 + 1 by omega]
    simp only [setAt, Kl.cells, List.set_cons_succ, Nat.add_succ, Nat.add_zero]
structure KA (h : H) (b : Nat) (v : Value) (l : List Kl) : Prop where
  val : ∃ c, v = .slice (some ⟨b, 0, none⟩) l.length c ∧ l.length ≤ capK c ∧ capK c < U
  lt : b < h.nx
  row : h.blk b = some (.row (flatK l) 53 true)
theorem KA.wrc {h : H} {b : Nat} {v : Value} {l : List Kl} (a : KA h b v l) {i : Nat} (hi : i < l.length) (x : Kl) : AM.wrc 3 h b (i * 3) (.agg #[iv x.a, iv x.b, iv x.t]) = some (h.set b (.row (flatK (l.set i x)) 53 true)) := by
  unfold AM.wrc
  rw [a.row]
  simp only
  rw [if_pos ⟨rfl, by rw [flatK_len]; simp [Value.cells]; omega, by rfl⟩, ← setAt_flat l i x hi]
  rfl
end Go.AM.F
end
section
namespace Go.AM.F
/-- No two calls at one time share a person. -/
def apartK (c d : Kl) : Prop := c.t ≤ d.t ∧ (c.t = d.t → c.a ≠ d.a ∧ c.a ≠ d.b ∧ c.b ≠ d.a ∧ c.b ≠ d.b)
structure VP (n : Int) (l : List Kl) : Prop where
  n1 : 1 ≤ n
  n7 : n ≤ 7
  len : l.length ≤ 24
  ok : ∀ c ∈ l, okC n c = true
  two : l.Pairwise apartK
theorem clash_f {c d : Kl} : clash c d = false ↔ (d.t = c.t → d.a ≠ c.a ∧ d.a ≠ c.b ∧ d.b ≠ c.a ∧ d.b ≠ c.b) := by
  unfold clash Kl.has
  simp
  constructor
  · intro h e
    have := h e
    grind
  · intro h e
    have := h e
    grind
theorem vp_iff {n : Int} {l : List Kl} : validP n l = true ↔ VP n l := by
  constructor
  · intro h
    obtain ⟨h1, h2, h3, h4⟩ := validP_ok h
    refine ⟨h1, h2, by omega, fun c hc => ?_, ?_⟩
    · obtain ⟨i, hi⟩ := List.getElem?_of_mem hc
      have := h4 i c hi
      first | exact this | exact this.1
    · rw [List.pairwise_iff_getElem]
      intro i j hi hj hij
      obtain ⟨q1, q2⟩ := validP_sorted h hij (List.getElem?_eq_getElem hi) (List.getElem?_eq_getElem hj)
      exact ⟨q1, fun e => (clash_f.1 q2) e⟩
  · rintro ⟨h1, h2, h3, h4, h5⟩
    unfold validP
    simp only [Bool.and_eq_true, Bool.not_eq_true', decide_eq_false_iff_not, Int.not_lt, List.all_eq_true, List.mem_range]
    refine ⟨⟨⟨h1, h2⟩, by omega⟩, fun i hi => ?_⟩
    unfold rowOk
    rw [List.getElem?_eq_getElem hi]
    simp only [Bool.and_eq_true, Bool.not_eq_true']
    refine ⟨⟨h4 _ (List.getElem_mem hi), ?_⟩, ?_⟩
    · by_cases h0 : 0 < i
      · have h6 : i - 1 < l.length := by omega
        have := (List.pairwise_iff_getElem.1 h5 (i - 1) i h6 hi (by omega)).1
        simp [h6]
        omega
      · simp [h0]
    · rw [List.any_eq_false]
      intro d hd
      obtain ⟨j, hj⟩ := List.getElem?_of_mem hd
      have hji : j < i := by have := (List.getElem?_eq_some_iff.1 hj).1; rw [List.length_take] at this; omega
      rw [List.getElem?_take_of_lt hji] at hj
      obtain ⟨hj1, rfl⟩ := List.getElem?_eq_some_iff.1 hj
      have := (List.pairwise_iff_getElem.1 h5 j i hj1 hi hji).2
      rw [Bool.not_eq_true, clash_f]
      exact this
end Go.AM.F
end
section
namespace Go.AM.F
open Go.Proofs
/-- The set of a way's calls. -/
def maskN (w : List Int) : Nat := w.foldl (fun a i => a ||| 2 ^ i.toNat) 0
theorem maskN_go : ∀ (w : List Int) (a j : Nat), (w.foldl (fun a i => a ||| 2 ^ i.toNat) a).testBit j = (a.testBit j || w.any fun i => i.toNat == j) := by
  intro w
  induction w with
  | nil => intro a j; simp
  | cons i w ih =>
    intro a j
    rw [List.foldl_cons, ih, Nat.testBit_or, Nat.testBit_two_pow, List.any_cons, Bool.or_assoc]
    congr 2
theorem maskN_bit (w : List Int) (j : Nat) : (maskN w).testBit j = true ↔ ∃ i ∈ w, i.toNat = j := by
  unfold maskN
  rw [maskN_go]
  simp
theorem oth_a {c : Kl} {p : Int} (h : c.a = p) : c.oth p = c.b := by unfold Kl.oth; omega
theorem oth_b {c : Kl} {p : Int} (h : c.b = p) : c.oth p = c.a := by unfold Kl.oth; omega
theorem two_get {l : List Kl} (h : l.Pairwise apartK) {i j : Nat} {c d : Kl} (hc : l[i]? = some c) (hd : l[j]? = some d) (hij : i < j) : apartK c d := by
  obtain ⟨hi, e1⟩ := List.getElem?_eq_some_iff.1 hc
  obtain ⟨hj, e2⟩ := List.getElem?_eq_some_iff.1 hd
  have := List.pairwise_iff_getElem.1 h i j hi hj hij
  rw [e1, e2] at this
  exact this
/-- A way in time is a walk. -/
theorem run_walk {n : Int} {l : List Kl} (v : VP n l) {d : Nat → Bool} : ∀ (w : List Int) (st st' : Int × Int × Int) (m : Nat), (∀ (k : Nat) (c : Kl), k < m → l[k]? = some c → c.t ≤ st.2.1) → runP l w st = some st' → (∀ i ∈ w, d i.toNat = false) →
    runW (maskL l d) (w.map Int.toNat) st.1 = some st'.1 ∧ Asc m (w.map Int.toNat) := by
  intro w
  induction w with
  | nil => intro st st' m _ h _; cases h; exact ⟨rfl, trivial⟩
  | cons i w ih =>
    intro st st' m hm h hd
    simp only [runP] at h
    split at h
    · rename_i hi
      split at h
      · cases h
      · rename_i c hc
        split at h
        · rename_i hg
          obtain ⟨g1, g2, g3, _⟩ := goes_spec v.n7 (v.ok c (List.mem_of_getElem? hc)) hg
          have hdi := hd i List.mem_cons_self
          obtain ⟨r1, r2⟩ := ih _ st' (i.toNat + 1) (fun k c' hk hc' => by
            simp only
            rcases Nat.lt_or_ge k i.toNat with h1 | h1
            · exact (two_get v.two hc' hc h1).1
            · have : k = i.toNat := by omega
              subst this
              rw [hc] at hc'; cases hc'; exact Int.le_refl _) h fun j hj => hd j (List.mem_cons_of_mem _ hj)
          simp only at r1
          refine ⟨?_, ?_, r2⟩
          · simp only [List.map_cons, runW, maskL_get, hc, Option.map_some, hdi, Bool.not_false]
            unfold Kl.has at g2
            simp only [Bool.or_eq_true, beq_iff_eq] at g2
            by_cases ha : c.a = st.1
            · rw [if_pos ha]; rw [oth_a ha] at r1; exact r1
            · rw [if_neg ha]
              have hb := g2.resolve_left ha
              rw [if_pos hb]; rw [oth_b hb] at r1; exact r1
          · rcases Nat.lt_or_ge i.toNat m with h1 | h1
            · have := hm _ _ h1 hc; omega
            · exact h1
        · cases h
    · cases h
theorem vis_nn {n : Int} {l : List Kl} (v : VP n l) {d : Nat → Bool} : ∀ (w : List Nat) (q x : Int), x ∈ visits (maskL l d) w q → 0 ≤ x := by
  intro w
  induction w with
  | nil => intro q x hx; cases hx
  | cons j w ihw =>
    intro q x hx
    simp only [visits, maskL_get] at hx
    cases hj : l[j]? with
    | none => rw [hj] at hx; cases hx
    | some c' =>
      rw [hj] at hx
      obtain ⟨o1, o2, _⟩ := okC_iff.1 (v.ok c' (List.mem_of_getElem? hj))
      simp only [Option.map_some] at hx
      cases hdj : d j with
      | true => rw [hdj] at hx; cases hx
      | false =>
        rw [hdj] at hx
        simp only [Bool.not_false] at hx
        split at hx
        · rcases List.mem_cons.1 hx with h | h
          · rw [h]; exact o2.1
          · exact ihw _ _ h
        · split at hx
          · rcases List.mem_cons.1 hx with h | h
            · rw [h]; exact o1.1
            · exact ihw _ _ h
          · cases hx
/-- A walk that meets nobody twice is a way in time. -/
theorem walk_run {n : Int} {l : List Kl} (v : VP n l) {d : Nat → Bool} {t : Int} : ∀ (w : List Nat) (p tm : Int) (K m : Nat), K < 2 ^ 7 → runW (maskL l d) w p = some t → Asc m w →
    (∀ (k : Nat) (c : Kl), m ≤ k → l[k]? = some c → c.has p = true → tm < c.t) → (∀ q ∈ visits (maskL l d) w p, K.testBit q.toNat = false) → (visits (maskL l d) w p).Nodup →
    ∃ st', runP l (w.map fun (i : Nat) => (i : Int)) (p, tm, (K : Int)) = some st' ∧ st'.1 = t := by
  intro w
  induction w with
  | nil => intro p tm K m _ h _ _ _ _; cases h; exact ⟨_, rfl, rfl⟩
  | cons i w ih =>
    intro p tm K m hK h ha hT hs hn
    simp only [runW, maskL_get] at h
    simp only [visits, maskL_get] at hs hn
    cases hc : l[i]? with
    | none => rw [hc] at h; cases h
    | some c =>
      rw [hc] at h hs hn
      simp only [Option.map_some] at h hs hn
      cases hd : d i with
      | true => rw [hd] at h; cases h
      | false =>
        rw [hd] at h hs hn
        simp only [Bool.not_false] at h hs hn
        have hil := (List.getElem?_eq_some_iff.1 hc).1
        have hok := v.ok c (List.mem_of_getElem? hc)
        obtain ⟨ok1, ok2, ok3, _⟩ := okC_iff.1 hok
        have n7 := v.n7
        have fin : ∀ q, c.has p = true → c.oth p = q → (0 ≤ q ∧ q < n) → c.has q = true → runW (maskL l d) w q = some t → (∀ x ∈ q :: visits (maskL l d) w q, K.testBit x.toNat = false) → (q :: visits (maskL l d) w q).Nodup → ∃ st', runP l ((i :: w).map fun (i : Nat) => (i : Int)) (p, tm, (K : Int)) = some st' ∧ st'.1 = t := by
          intro q hp hq hqn hqc hr hs hn
          obtain ⟨e1, e2⟩ := withP_nat (p := q) hK ⟨hqn.1, by omega⟩
          rw [List.nodup_cons] at hn
          obtain ⟨st', r1, r2⟩ := ih q c.t (K ||| 2 ^ q.toNat) (i + 1) e2 hr ha.2 (fun k c' hk hc' hq' => by
            have h2 := two_get v.two hc hc' (show i < k by omega)
            rcases Int.lt_or_eq_of_le h2.1 with h3 | h3
            · exact h3
            · exfalso
              obtain ⟨h4, h5, h6, h7⟩ := h2.2 h3
              unfold Kl.has at hqc hq'
              simp only [Bool.or_eq_true, beq_iff_eq] at hqc hq'
              rcases hqc with h | h <;> rcases hq' with h' | h'
              · exact h4 (by rw [h, h'])
              · exact h5 (by rw [h, h'])
              · exact h6 (by rw [h, h'])
              · exact h7 (by rw [h, h'])) (fun x hx => by
            rw [Nat.testBit_or, hs x (List.mem_cons_of_mem _ hx), Nat.testBit_two_pow]
            simp only [Bool.false_or, decide_eq_false_iff_not]
            intro e
            have hx0 : 0 ≤ x := by
              exact vis_nn v _ _ x hx
            have e2 : x = q := by omega
            rw [e2] at hx
            exact hn.1 hx) hn.2
          refine ⟨st', ?_, r2⟩
          simp only [List.map_cons, runP]
          rw [if_pos ⟨by omega, by omega⟩, Int.toNat_natCast, hc]
          simp only
          have hgo : goes c p tm (K : Int) = true := by
            unfold goes
            rw [hq, inP_nat hK ⟨hqn.1, by omega⟩, hs q List.mem_cons_self, hp]
            have := hT i c ha.1 hc hp
            simp; omega
          rw [if_pos hgo, hq, e1]
          exact r1
        have hasA : c.has c.a = true := by simp [Kl.has]
        have hasB : c.has c.b = true := by simp [Kl.has]
        by_cases h1 : c.a = p
        · rw [if_pos h1] at h hs hn
          exact fin c.b (by rw [← h1]; exact hasA) (oth_a h1) ok2 hasB h hs hn
        · rw [if_neg h1] at h hs hn
          by_cases h2 : c.b = p
          · rw [if_pos h2] at h hs hn
            exact fin c.a (by rw [← h2]; exact hasB) (oth_b h2) ok1 hasA h hs hn
          · rw [if_neg h2] at h; cases h
theorem way_walk {n s t : Int} {l : List Kl} (v : VP n l) (hs : 0 ≤ s ∧ s < n) (hst : s ≠ t) {d : Nat → Bool} {w : List Int} (hw : w ∈ allWays l s t) (hd : ∀ i ∈ w, d i.toNat = false) :
    runW (maskL l d) (w.map Int.toNat) s = some t ∧ Asc 0 (w.map Int.toNat) := by
  obtain ⟨st', h1, h2⟩ := (check_run (vp_iff.2 v) hs w).1 ((mem_all (vp_iff.2 v) hst w).1 hw)
  obtain ⟨r1, r2⟩ := run_walk v w (st0 s) st' 0 (fun k c hk => by omega) h1 hd
  rw [h2] at r1
  exact ⟨r1, r2⟩
/-- A walk holds a way in time. -/
theorem walk_ways {n s t : Int} {l : List Kl} (v : VP n l) (hs : 0 ≤ s ∧ s < n) (hst : s ≠ t) {d : Nat → Bool} {w : List Nat} (hw : runW (maskL l d) w s = some t) (ha : Asc 0 w) :
    ∃ w' ∈ allWays l s t, ∀ i ∈ w', 0 ≤ i ∧ i.toNat ∈ w := by
  have hne : ∀ (i : Nat) (c : Kl × Bool), (maskL l d)[i]? = some c → c.1.a ≠ c.1.b := by
    intro i c hc
    rw [maskL_get] at hc
    cases hi : l[i]? with
    | none => rw [hi] at hc; cases hc
    | some c' =>
      rw [hi] at hc
      cases hc
      exact (okC_iff.1 (v.ok c' (List.mem_of_getElem? hi))).2.2.1
  obtain ⟨u, h1, h2, h3, h4⟩ := walk_way hne w s 0 hw ha
  rw [List.nodup_cons] at h3
  have n7 := v.n7
  obtain ⟨k, rfl⟩ := Int.eq_ofNat_of_zero_le hs.1
  have hk : 2 ^ k < 2 ^ 7 := Nat.pow_lt_pow_right (by decide) (by omega)
  have vis0 : ∀ q ∈ visits (maskL l d) u (k : Int), 0 ≤ q := vis_nn v _ _
  obtain ⟨st', r1, r2⟩ := walk_run v u (k : Int) 0 (2 ^ k) 0 hk h1 h2 (fun i c _ hc _ => by
    have := (okC_iff.1 (v.ok c (List.mem_of_getElem? hc))).2.2.2.1
    omega) (fun q hq => by
    rw [Nat.testBit_two_pow, decide_eq_false_iff_not]
    intro e
    have := vis0 q hq
    have e2 : q = (k : Int) := by omega
    rw [e2] at hq
    exact h3.1 hq) h3.2
  refine ⟨u.map fun (i : Nat) => (i : Int), (mem_all (vp_iff.2 v) hst _).2 ((check_run (vp_iff.2 v) hs _).2 ⟨st', ?_, r2⟩), fun i hi => ?_⟩
  · unfold st0
    rw [shl1_nat (by omega)]
    exact r1
  · obtain ⟨j, hj, rfl⟩ := List.mem_map.1 hi
    exact ⟨by omega, by rw [Int.toNat_natCast]; exact h4 j hj⟩
theorem runW_mask {l : List Kl} {d d' : Nat → Bool} : ∀ (w : List Nat) (p : Int), (∀ i ∈ w, d' i = d i) → runW (maskL l d') w p = runW (maskL l d) w p := by
  intro w
  induction w with
  | nil => intro p _; rfl
  | cons i w ih =>
    intro p h
    have hi := h i List.mem_cons_self
    have ih' := fun p => ih p fun j hj => h j (List.mem_cons_of_mem _ hj)
    simp only [runW, maskL_get, hi, ih']
/-- A way that can be taken so that the others still are enough. -/
theorem pick_way {n s t : Int} {l : List Kl} (v : VP n l) (hs : 0 ≤ s ∧ s < n) (hst : s ≠ t) {r : Nat} (h : mcP l s t 0 = r + 1) : ∃ w ∈ allWays l s t, mcP l s t (maskN w) = r := by
  have hX : (fun p => p == s) t = false := by simpa using Ne.symm hst
  have l24 := v.len
  obtain ⟨ws, h1, h2⟩ := menger (K := 1000) (t := t) (maskL l (goneD 0)) (s := s) (k := r + 1) (Nat.le_of_eq h.symm)
  obtain ⟨w', hw', hsub⟩ := walk_ways v hs hst (h1 0 (by omega)).1 (h1 0 (by omega)).2
  refine ⟨w', hw', ?_⟩
  have lo : r ≤ mcP l s t (maskN w') := by
    refine GM_ge (ws := fun j => ws (j + 1)) (fun j hj => ⟨?_, (h1 (j + 1) (by omega)).2⟩) (fun j j' hj hj' hne => h2 _ _ (by omega) (by omega) (by omega)) (by have := mcP_le (l := l) hst 0; omega)
    rw [runW_mask (d := goneD 0)]
    · exact (h1 (j + 1) (by omega)).1
    · intro i hi
      have : goneD (maskN w') i = false := by
        rw [Bool.eq_false_iff]
        intro hb
        obtain ⟨x, hx, e⟩ := (maskN_bit w' i).1 hb
        have := (hsub x hx).2
        rw [e] at this
        exact h2 0 (j + 1) (by omega) (by omega) (by omega) i this hi
      rw [this]; simp
  have hi : mcP l s t (maskN w') + 1 ≤ mcP l s t 0 := by
    obtain ⟨q1, q2⟩ := way_walk v hs hst (d := goneD 0) hw' (fun i _ => by simp)
    refine GM_walk q1 q2 hst (by omega) fun i => ?_
    rw [maskN_bit]
    simp
  omega
/-- The calls of a set, with their places. -/
def partZ (l : List Kl) (left : Nat) : List (Kl × Nat) := l.zipIdx.filter fun q => left.testBit q.2
def partL (l : List Kl) (left : Nat) : List Kl := (partZ l left).map (·.1)
theorem partZ_get {l : List Kl} {left j : Nat} {q : Kl × Nat} (h : (partZ l left)[j]? = some q) : l[q.2]? = some q.1 ∧ left.testBit q.2 = true := by
  have h1 := List.mem_filter.1 (List.mem_of_getElem? h)
  have h2 := List.mem_zipIdx_iff_getElem?.1 h1.1
  exact ⟨h2, h1.2⟩
theorem partL_sub (l : List Kl) (left : Nat) : (partL l left).Sublist l := by
  unfold partL partZ
  have : (l.zipIdx.filter fun q => left.testBit q.2).Sublist l.zipIdx := List.filter_sublist
  have := this.map (·.1)
  rwa [List.zipIdx_map_fst] at this
theorem VP.part {n : Int} {l : List Kl} (v : VP n l) (left : Nat) : VP n (partL l left) :=
  ⟨v.n1, v.n7, Nat.le_trans (partL_sub l left).length_le v.len, fun c hc => v.ok c ((partL_sub l left).subset hc), v.two.sublist (partL_sub l left)⟩
/-- The places of a part's calls. -/
def placeZ (l : List Kl) (left : Nat) (i : Int) : Int := ((((partZ l left)[i.toNat]?).map (·.2)).getD 0 : Nat)
theorem placeZ_get {l : List Kl} {left : Nat} {i : Int} (h : i.toNat < (partL l left).length) : l[(placeZ l left i).toNat]? = (partL l left)[i.toNat]? ∧ left.testBit (placeZ l left i).toNat = true := by
  have hz : i.toNat < (partZ l left).length := by simpa [partL] using h
  obtain ⟨q, hq⟩ : ∃ q, (partZ l left)[i.toNat]? = some q := ⟨_, List.getElem?_eq_getElem hz⟩
  obtain ⟨h1, h2⟩ := partZ_get hq
  unfold placeZ partL
  rw [hq, List.getElem?_map, hq]
  simp only [Option.map_some, Option.getD_some, Int.toNat_natCast]
  exact ⟨h1, h2⟩
theorem GM_part {K : Nat} {t : Int} {l : List Kl} {left : Nat} {D : Nat → Bool} (hD : ∀ i, left.testBit i = false → D i = true) (X : Int → Bool) :
    GM K t (maskL l D) X = GM K t (maskL (partL l left) fun j => D (placeZ l left (j : Int)).toNat) X := by
  rw [← GM_filter (maskL l D), ← GM_filter (maskL (partL l left) _)]
  congr 1
  have e1 : maskL (partL l left) (fun j => D (placeZ l left (j : Int)).toNat) = (partZ l left).map fun q => (q.1, !D q.2) := by
    refine List.ext_getElem? fun j => ?_
    rw [maskL_get, List.getElem?_map]
    unfold partL placeZ
    rw [List.getElem?_map, Int.toNat_natCast]
    cases h : (partZ l left)[j]? <;> simp [h]
  rw [e1]
  unfold maskL partZ
  rw [List.filter_map, List.filter_map, List.filter_filter]
  congr 1
  refine List.filter_congr fun q _ => ?_
  simp only [Function.comp]
  cases hb : left.testBit q.2 with
  | true => simp
  | false => simp [hD q.2 hb]
theorem place_run {l : List Kl} {left : Nat} : ∀ (w : List Int) (st st' : Int × Int × Int), runP (partL l left) w st = some st' → runP l (w.map (placeZ l left)) st = some st' := by
  intro w
  induction w with
  | nil => intro st st' h; exact h
  | cons i w ih =>
    intro st st' h
    simp only [runP] at h
    split at h
    · rename_i hi
      have hg := placeZ_get (l := l) (left := left) (i := i) (by omega)
      split at h
      · cases h
      · rename_i c hc
        split at h
        · rename_i hgo
          rw [hc] at hg
          have hlt := (List.getElem?_eq_some_iff.1 hg.1).1
          simp only [List.map_cons, runP]
          have h0 : 0 ≤ placeZ l left i := by unfold placeZ; omega
          rw [if_pos ⟨h0, by omega⟩, hg.1]
          simp only
          rw [if_pos hgo]
          exact ih _ _ h
        · cases h
    · cases h
theorem place_way {n s t : Int} {l : List Kl} (v : VP n l) (hs : 0 ≤ s ∧ s < n) (hst : s ≠ t) {left : Nat} {w : List Int} (hw : w ∈ allWays (partL l left) s t) : w.map (placeZ l left) ∈ allWays l s t := by
  obtain ⟨st', h1, h2⟩ := (check_run (vp_iff.2 (v.part left)) hs w).1 ((mem_all (vp_iff.2 (v.part left)) hst w).1 hw)
  exact (mem_all (vp_iff.2 v) hst _).2 ((check_run (vp_iff.2 v) hs _).2 ⟨st', place_run w _ _ h1, h2⟩)
end Go.AM.F
end
section
namespace Go.AM.F
open Go.Proofs
theorem part_mc {l : List Kl} {s t : Int} {left : Nat} : mcP (partL l left) s t 0 = GM 1000 t (maskL l fun i => !left.testBit i) (fun p => p == s) := by
  rw [GM_part (left := left) (D := fun i => !left.testBit i) (fun i h => by simp [h])]
  unfold mcP
  congr 1
  refine List.ext_getElem? fun j => ?_
  rw [maskL_get, maskL_get]
  cases hj : (partL l left)[j]? with
  | none => rfl
  | some c =>
    have := (placeZ_get (l := l) (left := left) (i := (j : Int)) (by rw [Int.toNat_natCast]; exact (List.getElem?_eq_some_iff.1 hj).1)).2
    simp [this]
end Go.AM.F
end
section
namespace Go.AM.F
open Go.Proofs
/-- Where nothing flows, there is no way. -/
theorem no_way {n s t : Int} {l : List Kl} (v : VP n l) (hs : 0 ≤ s ∧ s < n) (hst : s ≠ t) {w : List Int} (hw : w ∈ allWays l s t) {d : Nat → Bool} (hd : ∀ i ∈ w, d i.toNat = false) : 0 < GM 1000 t (maskL l d) (fun p => p == s) := by
  obtain ⟨h1, h2⟩ := way_walk v hs hst (d := d) hw hd
  exact GM_ge (k := 1) (ws := fun _ => w.map Int.toNat) (fun _ _ => ⟨h1, h2⟩) (fun j j' hj hj' hne => by omega) (by decide)
end Go.AM.F
end
section
namespace Go.AM.F
open Go.Proofs
/-- The two people of a call. -/
def endsK (pl : List Kl) (x : Int) : Nat :=
  match pl[x.toNat]? with
  | some c => 2 ^ c.a.toNat ||| 2 ^ c.b.toNat
  | none => 0
/-- All people of a way. -/
def orW (pl : List Kl) (w : List Int) : Nat := w.foldl (fun a x => a ||| endsK pl x) 0
/-- Those between. -/
def betM (pl : List Kl) (s t : Int) (w : List Int) : Nat := without (without (orW pl w) (2 ^ s.toNat)) (2 ^ t.toNat)
def insK (ks : List Nat) (x : Nat) : List Nat := if x ∈ ks then ks else ks ++ [x]
/-- What a way adds. -/
def wideS (pl : List Kl) (s t : Int) (σ : Int × List Nat) (w : List Int) : Int × List Nat := if w.length = 1 then (AM.add .i64 σ.1 1, σ.2) else (σ.1, insK σ.2 (betM pl s t w))
theorem two_lt {p : Int} (h : 0 ≤ p ∧ p < 7) : 2 ^ p.toNat < 2 ^ 7 := Nat.pow_lt_pow_right (by decide) (by omega)
theorem endsK_lt {n : Int} {pl : List Kl} (hv : validP n pl = true) (x : Int) : endsK pl x < 2 ^ 7 := by
  obtain ⟨h1, h2, h3, h4⟩ := validP_ok hv
  unfold endsK
  split
  · rename_i c hc
    obtain ⟨a1, a2, _⟩ := okC_iff.1 (h4 _ c hc)
    exact Nat.or_lt_two_pow (two_lt (by omega)) (two_lt (by omega))
  · decide
theorem orW_lt {n : Int} {pl : List Kl} (hv : validP n pl = true) (w : List Int) : orW pl w < 2 ^ 7 := by
  unfold orW
  have : ∀ (w : List Int) (a : Nat), a < 2 ^ 7 → w.foldl (fun a x => a ||| endsK pl x) a < 2 ^ 7 := by
    intro w
    induction w with
    | nil => intro a h; exact h
    | cons x w ih => intro a h; exact ih _ (Nat.or_lt_two_pow h (endsK_lt hv x))
  exact this w 0 (by decide)
theorem betM_lt {n : Int} {pl : List Kl} (hv : validP n pl = true) (s t : Int) (w : List Int) : betM pl s t w < 2 ^ 7 := without_le _ _ (without_le _ _ (orW_lt hv w))
theorem putW (ks : List Nat) (x : Nat) : putK (kvW ks) x (.bool true) = kvW (insK ks x) := by
  unfold putK insK
  cases hl : lookK (kvW ks) x 0 with
  | none =>
    have hm : ¬ x ∈ ks := fun h => (lookK_none (kvW ks) 0).1 hl _ (List.mem_map.2 ⟨x, h, rfl⟩) rfl
    rw [if_neg hm]
    simp [kvW]
  | some r =>
    obtain ⟨i, v⟩ := r
    obtain ⟨j, h1, h2⟩ := lookK_some (kvW ks) 0 _ hl
    simp only [Nat.zero_add] at h1
    subst h1
    have h3 := h2
    unfold kvW at h3
    rw [List.getElem?_map] at h3
    cases hk : ks[i]? with
    | none => rw [hk] at h3; cases h3
    | some y =>
      rw [hk] at h3
      simp only [Option.map_some, Option.some.injEq, Prod.mk.injEq] at h3
      obtain ⟨rfl, rfl⟩ := h3
      rw [if_pos (List.mem_of_getElem? hk)]
      exact set_self h2
theorem under101 : Tryd.prog.underlying 101 = some (.map 3 4) := by kernel_rfl
/-- What the search for the width holds. -/
def WideI (g6 : H) (db mb : Nat) (σ : Int × List Nat) (D : List Nat) (g : H) : Prop :=
  D = [] ∧ g6.nx ≤ g.nx ∧ (∀ b, b < g6.nx → b ≠ db → b ≠ mb → g.blk b = g6.blk b) ∧ g.blk db = some (.row [iv σ.1] 3 true) ∧ g.blk mb = some (mpOf encN (kvW σ.2))
theorem l88 {k : Nat} {wv slp : Value} {w : List Int} {pl : List Kl} {n : Int} {g : H} {pb : Nat} (hv : validP n pl = true) (hw : SlR g 3 1 wv (cellsI w)) (hr : ∀ x ∈ w, 0 ≤ x ∧ x < pl.length) (hpb : g.blk pb = some (.row [iv n, slp] 50 true)) (hsl : SlR g 53 3 slp (pl.map Kl.cells)) (hk : w.length < k) :
    ∃ ws, lpGo (f60_l1 rn k wv (pt pb 0) w.length) k [iv 0, iv 0] g = some (.exit 0, ws, g) ∧ gv ws 0 = iv (orW pl w) := by
  have hlen := hw.lt62
  rw [List.length_map] at hlen
  obtain ⟨h1, h2, h3, h4⟩ := validP_ok hv
  obtain ⟨ws', g', q1, _, rfl, rfl⟩ := lp_for (k := k) (l := w) (F := f60_l1 rn k wv (pt pb 0) w.length) (fun _ (x : Int) (a : Nat) => a ||| endsK pl x)
    (fun i a ws g' => a < 2 ^ 7 ∧ g' = g ∧ ws = [iv a, iv i]) 0 (ws := [iv 0, iv 0]) (h := g) (s0 := 0) ⟨by decide, rfl, rfl⟩ hk
    (fun a ws g' hI => by
      obtain ⟨_, rfl, rfl⟩ := hI
      unfold f60_l1
      simp only [gv, List.getD_cons_zero, List.getD_cons_succ, asI_int]
      rw [lt_f (by omega), ifB_false]; rfl)
    (fun i x a ws g' hx hI => by
      obtain ⟨ha, rfl, rfl⟩ := hI
      have hi := (List.getElem?_eq_some_iff.1 hx).1
      obtain ⟨x0, xl⟩ := hr x (List.mem_of_getElem? hx)
      obtain ⟨c, hc⟩ : ∃ c, pl[x.toNat]? = some c := ⟨_, List.getElem?_eq_getElem (by omega)⟩
      obtain ⟨a1, a2, _⟩ := okC_iff.1 (h4 _ c hc)
      have p1 := two_lt (p := c.a) (by omega)
      have p2 := two_lt (p := c.b) (by omega)
      have ee : endsK pl x = 2 ^ c.a.toNat ||| 2 ^ c.b.toNat := by unfold endsK; rw [hc]
      have eb : endsK pl x < 2 ^ 7 := endsK_lt hv x
      refine ⟨[iv (a ||| endsK pl x : Nat), iv (i + 1 : Nat)], g', ?_, Nat.or_lt_two_pow ha eb, rfl, by simp⟩
      unfold f60_l1
      simp only [gv, List.getD_cons_zero, List.getD_cons_succ, asI_int, asK_int, asP_ptr]
      rw [lt_t (by omega), ifB_true]
      simp only [d3, d48]
      rw [hw.c0 (by omega) (x := [iv x]) (by simp [hx]) rfl, asI_int]
      simp only [cell_of hpb, off, Nat.zero_add, List.getElem?_cons_succ, List.getElem?_cons_zero, Option.bind_some]
      rw [hsl.c0 x0 (x := c.cells) (by simp [hc]) (y := iv c.a) rfl, asI_int]
      rw [nn_ge a1.1]
      rw [hsl.cF x0 (x := c.cells) (by simp [hc]) (j := 1) (y := iv c.b) rfl, asI_int]
      rw [nn_ge a2.1]
      have e1 : AM.shl .i64 1 c.a = ((2 ^ c.a.toNat : Nat) : Int) := by
        have := shl1_nat (p := c.a.toNat) (by omega)
        rwa [Int.toNat_of_nonneg a1.1] at this
      have e2 : AM.shl .i64 1 c.b = ((2 ^ c.b.toNat : Nat) : Int) := by
        have := shl1_nat (p := c.b.toNat) (by omega)
        rwa [Int.toNat_of_nonneg a2.1] at this
      rw [e1, e2, or_nat (by omega) (by omega), ← ee, or_nat (by omega) (by omega), add64 (by omega) (by omega)]
      rfl)
  refine ⟨_, q1, ?_⟩
  rw [foldI_foldl]
  rfl
theorem wide_cb {g6 : H} {db mb pb vb sb tb : Nat} {n : Int} {pl : List Kl} {slp : Value} {s t : Int} (hdb : db < g6.nx) (hmb : mb < g6.nx) (hdm : db ≠ mb)
    (hpb : pb < g6.nx ∧ pb ≠ db ∧ pb ≠ mb ∧ g6.blk pb = some (.row [iv n, slp] 50 true)) (hvb : vb < g6.nx ∧ vb ≠ db ∧ vb ≠ mb ∧ g6.blk vb = some (.row [.map (some mb)] 101 true))
    (hsb : sb < g6.nx ∧ sb ≠ db ∧ sb ≠ mb ∧ g6.blk sb = some (.row [iv s] 3 true)) (htb : tb < g6.nx ∧ tb ≠ db ∧ tb ≠ mb ∧ g6.blk tb = some (.row [iv t] 3 true))
    (hsl : SlR g6 53 3 slp (pl.map Kl.cells)) (hslb : ∀ b, blkOf slp = some b → b < g6.nx ∧ b ≠ db ∧ b ≠ mb) (hp : pairP n pl s t = true) :
    Cb (.func (.func 60) #[] #[pt db 0, pt pb 0, pt vb 0, pt sb 0, pt tb 0]) g6.nx (fun b => b = db ∨ b = mb) (okW pl) (WideI g6 db mb) (wideS pl s t) := by
  have hv := (pairP_parts hp).1
  obtain ⟨hv1, hv2, hv3, hv4⟩ := validP_ok hv
  obtain ⟨_, hs, ht, hst⟩ := pairP_parts hp
  refine ⟨?_, ?_, ?_⟩
  · rintro σ D g g' ⟨h1, h2, h3, h4, h5⟩ hn hlo hD
    exact ⟨h1, by omega, fun b hb hb1 hb2 => (hlo b hb).trans (h3 b hb hb1 hb2), (hlo _ hdb).trans h4, (hlo _ hmb).trans h5⟩
  · rintro σ D g ⟨rfl, _⟩ b hb
    cases hb
  · rintro σ D g wv w ⟨rfl, h2, h3, h4, h5⟩ hn hwv ⟨hw0, hwl, hwr⟩ hdis hlow
    obtain ⟨cnt, ks⟩ := σ
    have hlen : ∀ {R : Type} (K : Int → Option R), len wv K = K w.length := fun K => by rw [hwv.len]; simp
    by_cases h1 : w.length = 1
    · have hst : wrc 1 g db 0 (iv (AM.add .i64 cnt 1)) = some (g.set db (.row [iv (AM.add .i64 cnt 1)] 3 true)) := by rw [wrc_one h4 rfl rfl (by simp)]; rfl
      refine ⟨g.set db (.row [iv (AM.add .i64 cnt 1)] 3 true), [], x60 (k := 0) ?_ rfl, ?_, by rw [nx_set]; exact Nat.le_refl _, fun b _ hb _ => blk_set_ne _ _ _ (fun e => hb (.inl e)), fun b hb => .inl hb⟩
      · show f60 rn 0 wv (pt db 0) (pt pb 0) (pt vb 0) (pt sb 0) (pt tb 0) g = _
        unfold f60
        rw [hlen, eq_t (by omega), ifB_true]
        simp only [asP_ptr]
        rw [d3, cell_of h4]
        simp only [List.getElem?_cons_zero, Option.bind_some, asI_int]
        rw [w3, hst]
        rfl
      · unfold wideS
        rw [if_pos h1]
        exact ⟨rfl, by rw [nx_set]; exact h2, fun b hb hb1 hb2 => (blk_set_ne _ _ _ hb1).trans (h3 b hb hb1 hb2), blk_set_self _ _ _, (blk_set_ne _ _ _ (Ne.symm hdm)).trans h5⟩
    · have pbg := (h3 _ hpb.1 hpb.2.1 hpb.2.2.1).trans hpb.2.2.2
      have vbg := (h3 _ hvb.1 hvb.2.1 hvb.2.2.1).trans hvb.2.2.2
      have sbg := (h3 _ hsb.1 hsb.2.1 hsb.2.2.1).trans hsb.2.2.2
      have tbg := (h3 _ htb.1 htb.2.1 htb.2.2.1).trans htb.2.2.2
      have slg : SlR g 53 3 slp (pl.map Kl.cells) := slR_keep hsl h2 fun b hb => h3 b (hslb b hb).1 (hslb b hb).2.1 (hslb b hb).2.2
      obtain ⟨ws1, q1, q2⟩ := l88 (k := 1000) hv hwv hwr pbg slg hwl
      have ow := orW_lt hv w
      have ps := two_lt (p := s) (by omega)
      have pt_ := two_lt (p := t) (by omega)
      have e1 : AM.shl .i64 1 s = ((2 ^ s.toNat : Nat) : Int) := by
        have := shl1_nat (p := s.toNat) (by omega)
        rwa [Int.toNat_of_nonneg hs.1] at this
      have e2 : AM.shl .i64 1 t = ((2 ^ t.toNat : Nat) : Int) := by
        have := shl1_nat (p := t.toNat) (by omega)
        rwa [Int.toNat_of_nonneg ht.1] at this
      have wl := without_le (orW pl w) (2 ^ s.toNat) ow
      have em : AM.andNot .i64 (AM.andNot .i64 ((orW pl w : Nat) : Int) (AM.shl .i64 1 s)) (AM.shl .i64 1 t) = ((betM pl s t w : Nat) : Int) := by
        rw [e1, e2, andNot_nat (by omega) (by omega), andNot_nat (by omega) (by omega)]
        rfl
      refine ⟨g.set mb (mpOf encN (kvW (insK ks (betM pl s t w)))), [], x60 (k := 1000) ?_ rfl, ?_, by rw [nx_set]; exact Nat.le_refl _, fun b _ hb _ => blk_set_ne _ _ _ (fun e => hb (.inr e)), fun b hb => .inl hb⟩
      · show f60 rn 1000 wv (pt db 0) (pt pb 0) (pt vb 0) (pt sb 0) (pt tb 0) g = _
        unfold f60
        rw [hlen, eq_f (by omega), ifB_false, hlen, lp_eq q1, onE_exit, if_pos rfl, q2]
        simp only [asP_ptr, asI_int]
        rw [d101, cell_of vbg]
        simp only [List.getElem?_cons_zero, Option.bind_some]
        rw [d3, cell_of sbg]
        simp only [List.getElem?_cons_zero, Option.bind_some, asI_int]
        rw [nn_ge hs.1, d3, cell_of tbg]
        simp only [List.getElem?_cons_zero, Option.bind_some, asI_int]
        rw [nn_ge ht.1, em, ← putW]
        exact mup_of key3 under101 h5
      · unfold wideS
        rw [if_neg h1]
        exact ⟨rfl, by rw [nx_set]; exact h2, fun b hb hb1 hb2 => (blk_set_ne _ _ _ hb2).trans (h3 b hb hb1 hb2), (blk_set_ne _ _ _ hdm).trans h4, blk_set_self _ _ _⟩
end Go.AM.F
end
section
namespace Go.AM.F
open Go.Proofs
variable {k : Nat} {R : Type}
theorem mk25 {n : Nat} (hn : n < 2 ^ 30) (h : H) (K : Value → H → Option R) : mks Tryd.prog h 22 n n K = K (.slice (some ⟨h.nx, 0, none⟩) n n) (h.new (.row ((List.replicate n 0).map iv) 3 true)) :=
  mks_ints app22 (by kernel_rfl) hn K
theorem ia_newz {n : Nat} (hn : n < 2 ^ 30) (h : H) (x : Int) : IA (h.new (.row ((List.replicate n x).map iv) 3 true)) h.nx (.slice (some ⟨h.nx, 0, none⟩) n n) (List.replicate n x) := by
  have h30 : (2:Nat)^30 < U := by decide
  have hk : capK n = n := by unfold capK; rw [if_pos (by omega)]
  exact ⟨⟨n, by simp, by simp; omega, by omega⟩, Nat.lt_succ_self _, blk_new_self _ _⟩
attribute [local simp] nx_eq nx_new nx_set blk_new blk_set asI_int asK_int asB_bool asP_ptr al_eq bx_eq len_slice onE_exit onE_ret onR_ret Value.cells d3 d48 d50 d53 d46 d52 d44 cell_new cell_set rd_new rd_set off eq lt le ifB gv out eqF1 eqF2 eqF3 eqF4 eqF5 eqF6 eqF7 eqF8 w3
end Go.AM.F
end
end

section
section
namespace Go.AM.F
open Go.Proofs
/-- The table behind the first sets. -/
def tabT (ks : List Nat) (N : Nat) : Nat → List Int
  | 0 => List.replicate N 0
  | i + 1 => (tabT ks N i).set i (sumT (tabT ks N i) i ks).1
theorem tabT_len (ks : List Nat) (N : Nat) : ∀ i, (tabT ks N i).length = N := by
  intro i
  induction i with
  | zero => simp [tabT]
  | succ i ih => simp [tabT, ih]
theorem sumT_le {row : List Int} {set : Nat} (hr : ∀ (j : Nat) x, row[j]? = some x → 0 ≤ x ∧ x ≤ j) : ∀ (l : List Nat) (a : Int × Nat), (∀ x ∈ l, 0 < x) → (0 ≤ a.1 ∧ a.1 ≤ set) → 0 ≤ (l.foldl (stepT row set) a).1 ∧ (l.foldl (stepT row set) a).1 ≤ set := by
  intro l
  induction l with
  | nil => intro a _ h; exact h
  | cons x l ih =>
    intro a hl h
    rw [List.foldl_cons]
    refine ih _ (fun y hy => hl y (List.mem_cons_of_mem _ hy)) ?_
    unfold stepT
    split
    · rename_i h0
      have hlt := without_lt h0 (hl x List.mem_cons_self)
      have : 0 ≤ row.getD (without set x) 0 ∧ row.getD (without set x) 0 ≤ (without set x : Nat) := by
        rw [List.getD_eq_getElem?_getD]
        cases hx : row[without set x]? with
        | none => simp
        | some y => exact hr _ y hx
      simp only
      omega
    · exact h
theorem tabT_bnd {ks : List Nat} (hk : ∀ x ∈ ks, 0 < x) (N : Nat) : ∀ (i : Nat) (j : Nat) x, (tabT ks N i)[j]? = some x → 0 ≤ x ∧ x ≤ j := by
  intro i
  induction i with
  | zero =>
    intro j x h
    unfold tabT at h
    have := List.mem_of_getElem? h
    have := List.eq_of_mem_replicate this
    omega
  | succ i ih =>
    intro j x h
    unfold tabT at h
    rw [List.getElem?_set] at h
    split at h
    · rename_i e
      subst e
      split at h
      · cases h
        refine sumT_le ih ks _ hk ?_
        simp only
        rw [List.getD_eq_getElem?_getD]
        cases hx : (tabT ks N i)[i]? with
        | none => simp
        | some y => exact ih _ y hx
      · cases h
    · exact ih j x h
/-- The count of direct calls, and the sets between. -/
def wideF (pl : List Kl) (s t : Int) : Int × List Nat := (allWays pl s t).foldl (wideS pl s t) (0, [])
def fullN (n : Int) : Nat := 2 ^ n.toNat
def wideP (n : Int) (pl : List Kl) (s t : Int) : Int := AM.add .i64 (wideF pl s t).1 ((tabT (wideF pl s t).2 (fullN n) (fullN n)).getD (fullN n - 1) 0)
theorem l53 {mb vb b : Nat} {h7 h10 g0 : H} {mv : Value} {ks : List Nat} {N : Nat} (hN : 0 < N ∧ N ≤ 128) (hk : ∀ x ∈ ks, 0 < x ∧ x < 2 ^ 20) (h7v : h7.nx = vb) (hvb : vb < h10.nx) (hmb : mb < h10.nx) (hb : b = h10.nx)
    (hv : h10.blk vb = some (.row [.map (some mb)] 101 true)) (hm : h10.blk mb = some (mpOf encN (kvW ks))) (hg : g0.nx = h10.nx + 1 ∧ ∀ b, b < h10.nx → g0.blk b = h10.blk b) (ia : IA g0 b mv (List.replicate N 0)) :
    ∃ ws g', lpGo (f25H_l1 rn 1000 RG53 h7 mv N) 1000 [iv 0] g0 = some (.exit 0, ws, g') ∧ h10.nx ≤ g'.nx ∧ (∀ b, b < h10.nx → g'.blk b = h10.blk b) ∧ IA g' b mv (tabT ks N N) := by
  obtain ⟨ws', g', q1, q2, q3, q4, _⟩ := lp_for (k := 1000) (l := List.replicate N ()) (F := f25H_l1 rn 1000 RG53 h7 mv N) (fun _ _ (u : Unit) => u)
    (fun i _ ws g => h10.nx ≤ g.nx ∧ (∀ b, b < h10.nx → g.blk b = h10.blk b) ∧ IA g b mv (tabT ks N i) ∧ ws = [iv i]) 0 (ws := [iv 0]) (h := g0) (s0 := ()) ⟨by omega, hg.2, by unfold tabT; exact ia, rfl⟩ (by simp; omega)
    (fun _ ws g hI => by
      obtain ⟨_, _, _, rfl⟩ := hI
      unfold f25H_l1
      simp only [gv, List.getD_cons_zero, asI_int, List.length_replicate]
      rw [lt_f (by omega), ifB_false]; rfl)
    (fun i x _ ws g hx hI => by
      obtain ⟨c1, c2, c3, rfl⟩ := hI
      have hi : i < N := by
        have := (List.getElem?_eq_some_iff.1 hx).1
        simpa using this
      have hl := tabT_len ks N i
      have hbn := tabT_bnd (fun x hx => (hk x hx).1) N i
      have rg : Rg53 [pt vb 0, mv, iv (i : Nat)] g (RgH g b (tabT ks N i) i (sumT (tabT ks N i) i ks)) :=
        ⟨vb, mb, b, ks, tabT ks N i, i, mv, rfl, (c2 _ hvb).trans hv, (c2 _ hmb).trans hm, c3, by omega, by omega, by omega, hk, fun x hx => by
          obtain ⟨j, hj⟩ := List.mem_iff_getElem?.1 hx
          have := hbn j x hj
          have := (List.getElem?_eq_some_iff.1 hj).1
          omega, rfl⟩
      have hrg := RG53_of rg
      have hlp : lpGo RG53 1000 [pt vb 0, mv, iv (i : Nat)] g = some (.ret, [], RgH g b (tabT ks N i) i (sumT (tabT ks N i) i ks)) := by
        unfold lpGo
        rw [hrg]
        rfl
      refine ⟨[iv (i + 1 : Nat)], _, ?_, ?_, ?_, RgH_ia c3 _ _, rfl⟩
      · unfold f25H_l1
        simp only [gv, List.getD_cons_zero, asI_int, nx_eq, h7v]
        rw [lt_t (by omega), ifB_true, lp_eq hlp, add64 (by omega) (by omega)]
        rfl
      · show h10.nx ≤ g.nx + 1
        omega
      · intro q hq
        have : q ≠ b := by omega
        show (if q = b then _ else g.blk q) = _
        rw [if_neg this]
        exact c2 q hq)
  rw [List.length_replicate] at q4
  exact ⟨ws', g', q1, q2, q3, q4⟩
theorem s25_bad {n s t : Int} {sl : Value} {l : List Kl} {h : H} (hs : SlR h 53 3 sl (l.map Kl.cells)) (hp : pairP n l s t = false) : ∃ h', f25H RG53 rn 1000 (.agg #[iv n, sl]) s t h = some (.tuple #[iv 0, iv 2], h') ∧ Ext h h' := by
  let h3 : H := ((h.new (.row [iv n, sl] 50 true)).new (.row [iv s] 3 true)).new (.row [iv t] 3 true)
  have x3 : Ext h h3 := (((Ext.refl h).new' _).new' _).new' _
  have b0 : h3.blk h.nx = some (.row [iv n, sl] 50 true) := by
    show (if h.nx = h.nx + 1 + 1 then _ else if h.nx = h.nx + 1 then _ else if h.nx = h.nx then _ else _) = _
    rw [if_neg (by omega), if_neg (by omega), if_pos rfl]
  have b1 : h3.blk (h.nx + 1) = some (.row [iv s] 3 true) := by
    show (if h.nx + 1 = h.nx + 1 + 1 then _ else if h.nx + 1 = h.nx + 1 then _ else _) = _
    rw [if_neg (by omega), if_pos rfl]
  have b2 : h3.blk (h.nx + 1 + 1) = some (.row [iv t] 3 true) := by
    show (if h.nx + 1 + 1 = h.nx + 1 + 1 then _ else _) = _
    rw [if_pos rfl]
  refine ⟨h3, ?_, x3⟩
  unfold f25H
  rw [bx_eq, bx_eq, bx_eq]
  simp only [Value.cells, nx_eq, nx_new]
  show ld Tryd.prog h3 50 h.nx 0 _ = _
  rw [d50, rd_all (n := 2) b0 rfl, Option.bind_some]
  show ld Tryd.prog h3 3 (h.nx + 1) 0 _ = _
  rw [d3, cell_of b1]
  simp only [List.getElem?_cons_zero, Option.bind_some, asI_int]
  show ld Tryd.prog h3 3 (h.nx + 1 + 1) 0 _ = _
  rw [d3, cell_of b2]
  simp only [List.getElem?_cons_zero, Option.bind_some, asI_int]
  refine (k58 (hs.ext x3) _).trans ?_
  rw [asB_bool, hp]
  rfl
theorem wideF_pos {pl : List Kl} {s t : Int} (hb : ∀ w ∈ allWays pl s t, w.length ≠ 1 → 0 < betM pl s t w) (hlt : ∀ w, betM pl s t w < 2 ^ 7) : ∀ x ∈ (wideF pl s t).2, 0 < x ∧ x < 2 ^ 20 := by
  have : ∀ (ws : List (List Int)) (σ : Int × List Nat), (∀ w ∈ ws, w.length ≠ 1 → 0 < betM pl s t w) → (∀ x ∈ σ.2, 0 < x ∧ x < 2 ^ 20) → ∀ x ∈ (ws.foldl (wideS pl s t) σ).2, 0 < x ∧ x < 2 ^ 20 := by
    intro ws
    induction ws with
    | nil => intro σ _ h; exact h
    | cons w ws ih =>
      intro σ hw h
      rw [List.foldl_cons]
      refine ih _ (fun w' hw' => hw w' (List.mem_cons_of_mem _ hw')) ?_
      unfold wideS
      split
      · exact h
      · rename_i h1
        have := hw w List.mem_cons_self h1
        have := hlt w
        intro x hx
        unfold insK at hx
        simp only at hx
        split at hx
        · exact h x hx
        · rcases List.mem_append.1 hx with hx | hx
          · exact h x hx
          · rw [List.mem_singleton.1 hx]; omega
  exact this _ _ hb (by simp)
theorem s25H {n s t : Int} {sl : Value} {l : List Kl} {h : H} (hs : SlR h 53 3 sl (l.map Kl.cells)) (hp : pairP n l s t = true) (hb : ∀ w ∈ allWays l s t, w.length ≠ 1 → 0 < betM l s t w) :
    ∃ h', f25H RG53 rn 1000 (.agg #[iv n, sl]) s t h = some (.tuple #[iv (wideP n l s t), iv 0], h') ∧ Ext h h' := by
  obtain ⟨hv, hsn, htn, hst⟩ := pairP_parts hp
  obtain ⟨hn1, hn7, _⟩ := validP_ok hv
  let h3 : H := ((h.new (.row [iv n, sl] 50 true)).new (.row [iv s] 3 true)).new (.row [iv t] 3 true)
  have x3 : Ext h h3 := (((Ext.refl h).new' _).new' _).new' _
  let h6 : H := (h3.new (.row [iv 0] 3 true)).set (h.nx + 3) (.row [iv 0] 3 true)
  let h7 : H := h6.new (.mp [] 0)
  let h9 : H := (h7.new (.row [.map none] 101 true)).set (h.nx + 5) (.row [.map (some (h.nx + 4))] 101 true)
  have n3 : h3.nx = h.nx + 3 := rfl
  have n7 : h7.nx = h.nx + 5 := rfl
  have n9 : h9.nx = h.nx + 6 := rfl
  have c0 : h3.blk h.nx = some (.row [iv n, sl] 50 true) := by
    show (if h.nx = h.nx + 1 + 1 then _ else if h.nx = h.nx + 1 then _ else if h.nx = h.nx then _ else _) = _
    rw [if_neg (by omega), if_neg (by omega), if_pos rfl]
  have c1 : h3.blk (h.nx + 1) = some (.row [iv s] 3 true) := by
    show (if h.nx + 1 = h.nx + 1 + 1 then _ else if h.nx + 1 = h.nx + 1 then _ else _) = _
    rw [if_neg (by omega), if_pos rfl]
  have c2 : h3.blk (h.nx + 2) = some (.row [iv t] 3 true) := by
    show (if h.nx + 1 + 1 = h.nx + 1 + 1 then _ else _) = _
    rw [if_pos rfl]
  have lo9 : ∀ q, q < h.nx + 3 → h9.blk q = h3.blk q := by
    intro q hq
    show (if q = h.nx + 5 then _ else if q = h7.nx then _ else if q = h6.nx then _ else if q = h.nx + 3 then _ else if q = h3.nx then _ else h3.blk q) = _
    have e6 : h6.nx = h.nx + 4 := rfl
    rw [if_neg (by omega), if_neg (by omega), if_neg (by omega), if_neg (by omega), if_neg (by omega)]
  have e0 := (lo9 h.nx (by omega)).trans c0
  have e1 := (lo9 (h.nx + 1) (by omega)).trans c1
  have e2 := (lo9 (h.nx + 2) (by omega)).trans c2
  have e3 : h9.blk (h.nx + 3) = some (.row [iv 0] 3 true) := by
    show (if h.nx + 3 = h.nx + 5 then _ else if h.nx + 3 = h7.nx then _ else if h.nx + 3 = h6.nx then _ else if h.nx + 3 = h.nx + 3 then _ else _) = _
    have e6 : h6.nx = h.nx + 4 := rfl
    rw [if_neg (by omega), if_neg (by omega), if_neg (by omega), if_pos rfl]
  have e4 : h9.blk (h.nx + 4) = some (.mp [] 0) := by
    show (if h.nx + 4 = h.nx + 5 then _ else if h.nx + 4 = h7.nx then _ else if h.nx + 4 = h6.nx then _ else _) = _
    rw [if_neg (by omega), if_neg (by omega), if_pos (show h.nx + 4 = h6.nx from rfl)]
  have e5 : h9.blk (h.nx + 5) = some (.row [.map (some (h.nx + 4))] 101 true) := blk_set_self _ _ _
  have x9 : Ext h h9 := ⟨by omega, fun q hq => (lo9 q (by omega)).trans (x3.blk q hq)⟩
  have hs9 := hs.ext x9
  have hslb : ∀ b, blkOf sl = some b → b < h.nx := fun b hb => slR_bel hs hb
  have cb := wide_cb (g6 := h9) (db := h.nx + 3) (mb := h.nx + 4) (pb := h.nx) (vb := h.nx + 5) (sb := h.nx + 1) (tb := h.nx + 2) (by omega) (by omega) (by omega) ⟨by omega, by omega, by omega, e0⟩ ⟨by omega, by omega, by omega, e5⟩ ⟨by omega, by omega, by omega, e1⟩ ⟨by omega, by omega, by omega, e2⟩ hs9 (fun b hb => by have := hslb b hb; omega) hp
  obtain ⟨h10, D', q85, ⟨_, i2, i3, i4, i5⟩, n10, f10⟩ := s59 (sl := sl) (σ0 := ((0 : Int), ([] : List Nat))) cb (by rintro b (rfl | rfl) <;> omega) hv hsn hs9 (fun b hb e => by have := hslb b hb; omega) ⟨rfl, Nat.le_refl _, fun _ _ _ _ => rfl, e3, e4⟩ rfl rfl allWays_ok
  have hN : 0 < fullN n ∧ fullN n ≤ 128 := ⟨Nat.two_pow_pos _, by
    unfold fullN
    exact Nat.le_trans (Nat.pow_le_pow_right (by decide) (show n.toNat ≤ 7 by omega)) (by decide)⟩
  have hpos := wideF_pos hb (betM_lt hv s t)
  let g0 : H := h10.new (.row ((List.replicate (fullN n) 0).map iv) 3 true)
  have a0 := (i3 h.nx (by omega) (by omega) (by omega)).trans e0
  have a5 := (i3 (h.nx + 5) (by omega) (by omega) (by omega)).trans e5
  obtain ⟨ws1, g', q1, q2, q3, q4⟩ := l53 (mb := h.nx + 4) (vb := h.nx + 5) (b := h10.nx) (h7 := h7) (h10 := h10) (g0 := g0) hN hpos n7 (by omega) (by omega) rfl a5 i5 ⟨rfl, fun b hb => blk_new_ne _ _ (by omega)⟩ (ia_newz (by omega) h10 0)
  refine ⟨g', ?_, ⟨by omega, fun q hq => by rw [q3 q (by omega), f10 q (by omega) (by omega)]; exact x9.blk q hq⟩⟩
  have hst1 : wrc 1 (h3.new (.row [iv 0] 3 true)) (h.nx + 3) 0 (iv 0) = some h6 := by
    exact (wrc_one (c := [iv 0]) (e := 3) (blk_new_at _ _ rfl) rfl rfl (by simp)).trans rfl
  have hst2 : wrc 1 (h7.new (.row [.map none] 101 true)) (h.nx + 5) 0 (.map (some (h.nx + 4))) = some h9 := by
    exact (wrc_one (c := [.map none]) (e := 101) (blk_new_at _ _ rfl) rfl rfl (by simp)).trans rfl
  have k58' : ∀ (K : Value → H → Option (Value × H)), calls rn h3 58 [.agg #[iv n, sl], iv s, iv t] K = K (.bool true) h3 := fun K => by rw [k58 (hs.ext x3), hp]
  have hsh : AM.shl .i64 1 n = ((fullN n : Nat) : Int) := by
    have := shl1_nat (p := n.toNat) (by omega)
    rwa [Int.toNat_of_nonneg (by omega)] at this
  unfold f25H
  rw [bx_eq, bx_eq, bx_eq]
  simp only [Value.cells, nx_eq, nx_new]
  show ld Tryd.prog h3 50 h.nx 0 _ = _
  rw [d50, rd_all (n := 2) c0 rfl, Option.bind_some]
  show ld Tryd.prog h3 3 (h.nx + 1) 0 _ = _
  rw [d3, cell_of c1]
  simp only [List.getElem?_cons_zero, Option.bind_some, asI_int]
  show ld Tryd.prog h3 3 (h.nx + 1 + 1) 0 _ = _
  rw [d3, cell_of c2]
  simp only [List.getElem?_cons_zero, Option.bind_some, asI_int]
  refine (k58' _).trans ?_
  rw [asB_bool, Bool.not_true, ifB_false, al_eq]
  show st Tryd.prog (h3.new (.row [iv 0] 3 true)) 3 (h.nx + 3) 0 (iv 0) _ = _
  rw [w3, hst1, Option.bind_some, mkm_eq, al_eq]
  show st Tryd.prog (h7.new (.row [.map none] 101 true)) 101 (h.nx + 5) 0 (.map (some (h.nx + 4))) _ = _
  rw [w101, hst2, Option.bind_some]
  show ld Tryd.prog h9 50 h.nx 0 _ = _
  rw [d50, rd_all (n := 2) e0 rfl, Option.bind_some]
  show ld Tryd.prog h9 3 (h.nx + 1) 0 _ = _
  rw [d3, cell_of e1]
  simp only [List.getElem?_cons_zero, Option.bind_some, asI_int]
  show ld Tryd.prog h9 3 (h.nx + 2) 0 _ = _
  rw [d3, cell_of e2]
  simp only [List.getElem?_cons_zero, Option.bind_some, asI_int]
  refine (calls_eq (xs := [_, _, _, _]) q85).trans ?_
  show ld Tryd.prog h10 3 h.nx 0 _ = _
  rw [d3, cell_of a0]
  simp only [List.getElem?_cons_zero, Option.bind_some, asI_int]
  rw [nn_ge (by omega), hsh, mk25 (by omega)]
  show len (.slice (some ⟨h10.nx, 0, none⟩) (fullN n) (fullN n)) _ = _
  have hlen := (ia_newz (n := fullN n) (by omega) h10 0).len (R := Value × H)
  rw [hlen, List.length_replicate, lp_eq q1, onE_exit, if_pos rfl]
  show ld Tryd.prog g' 3 (h.nx + 3) 0 _ = _
  have b4 : g'.blk (h.nx + 3) = some (.row [iv (wideF l s t).1] 3 true) := (q3 _ (by omega)).trans i4
  rw [d3, cell_of b4]
  simp only [List.getElem?_cons_zero, Option.bind_some, asI_int]
  rw [hlen, List.length_replicate, sub64 (by omega) (by omega)]
  simp only [d3]
  have hgl := tabT_len (wideF l s t).2 (fullN n) (fullN n)
  have hget : (tabT (wideF l s t).2 (fullN n) (fullN n))[((fullN n : Nat) - 1 : Int).toNat]? = some ((tabT (wideF l s t).2 (fullN n) (fullN n)).getD (fullN n - 1) 0) := by
    rw [show ((fullN n : Nat) - 1 : Int).toNat = fullN n - 1 by omega, List.getD_eq_getElem?_getD, List.getElem?_eq_getElem (by omega)]
    rfl
  rw [q4.get (by omega) hget, asI_int]
  rfl
end Go.AM.F
end
section
namespace Go.AM.F
open Go.Proofs
theorem orW_bit (pl : List Kl) (i : Nat) : ∀ (w : List Int) (a : Nat), (w.foldl (fun a x => a ||| endsK pl x) a).testBit i = (a.testBit i || w.any fun x => (endsK pl x).testBit i) := by
  intro w
  induction w with
  | nil => intro a; simp
  | cons x w ih => intro a; rw [List.foldl_cons, ih, Nat.testBit_or, List.any_cons, Bool.or_assoc]
theorem endsK_bit {n : Int} {pl : List Kl} (hv : validP n pl = true) {x : Int} {c : Kl} (hc : pl[x.toNat]? = some c) {p : Int} (hp : 0 ≤ p) : (endsK pl x).testBit p.toNat = c.has p := by
  obtain ⟨h1, h2, h3, h4⟩ := validP_ok hv
  obtain ⟨a1, a2, _⟩ := okC_iff.1 (h4 _ c hc)
  unfold endsK
  rw [hc]
  simp only
  rw [Nat.testBit_or, Nat.testBit_two_pow, Nat.testBit_two_pow]
  unfold Kl.has
  have e1 : decide (c.a.toNat = p.toNat) = (c.a == p) := by
    rw [Bool.eq_iff_iff]; simp only [decide_eq_true_eq, beq_iff_eq]; omega
  have e2 : decide (c.b.toNat = p.toNat) = (c.b == p) := by
    rw [Bool.eq_iff_iff]; simp only [decide_eq_true_eq, beq_iff_eq]; omega
  rw [e1, e2]
/-- Who stands between. -/
theorem betM_bit {pl : List Kl} {s t : Int} (hs : 0 ≤ s) (ht : 0 ≤ t) {w : List Int} {i : Nat} : (betM pl s t w).testBit i = ((w.any fun x => (endsK pl x).testBit i) && !decide (s.toNat = i) && !decide (t.toNat = i)) := by
  unfold betM orW
  rw [testBit_without, testBit_without, orW_bit, Nat.testBit_two_pow, Nat.testBit_two_pow]
  simp
theorem has_or {c : Kl} {p q : Int} (h1 : c.has p = true) (h2 : c.has q = true) : q = p ∨ q = c.oth p := by
  unfold Kl.has at h1 h2
  unfold Kl.oth
  simp only [Bool.or_eq_true, beq_iff_eq] at h1 h2
  omega
theorem way_one_go {n s t : Int} {pl : List Kl} (hp : pairP n pl s t = true) {w : List Int} {f : Nat} {sd : Int} (hw : w ∈ waysF pl t (f + 1) s 0 sd) : betM pl s t w = 0 ↔ w.length = 1 := by
  obtain ⟨hv, hs, ht, hst⟩ := pairP_parts hp
  obtain ⟨hv1, hv2, hv3, hv4⟩ := validP_ok hv
  simp only [waysF] at hw
  rw [mem_app] at hw
  rcases hw with hw | ⟨j, c, hc, hw⟩
  · cases hw
  · rw [Nat.zero_add] at hw
    obtain ⟨a1, a2, a3, _⟩ := okC_iff.1 (hv4 _ c hc)
    unfold wayStep at hw
    split at hw
    · rename_i hg
      simp only [goes, Bool.and_eq_true] at hg
      have hhas := hg.1.2
      have hcj : pl[(j : Int).toNat]? = some c := by rw [Int.toNat_natCast]; exact hc
      split at hw
      · rename_i ho
        simp only [List.mem_singleton] at hw
        subst hw
        refine ⟨fun _ => rfl, fun _ => ?_⟩
        apply Nat.eq_of_testBit_eq
        intro i
        rw [betM_bit hs.1 ht.1, Nat.zero_testBit]
        simp only [List.any_cons, List.any_nil, Bool.or_false]
        have hb := endsK_bit hv hcj (p := (i : Int)) (by omega)
        rw [Int.toNat_natCast] at hb
        rw [hb]
        cases hh : c.has (i : Int) with
        | false => rfl
        | true =>
          rcases has_or hhas hh with e | e
          · rw [decide_eq_true (show s.toNat = i by omega)]; rfl
          · rw [decide_eq_true (show t.toNat = i by omega)]; simp
      · rename_i ho
        obtain ⟨w', hw', rfl⟩ := List.mem_map.1 hw
        obtain ⟨q1, _, _⟩ := waysF_ok (n := 0) _ _ _ _ w' hw'
        refine ⟨fun h => ?_, fun h => ?_⟩
        · exfalso
          have hq : 0 ≤ c.oth s ∧ c.oth s ≠ s ∧ c.has (c.oth s) = true := by
            unfold Kl.has Kl.oth at *
            simp only [Bool.or_eq_true, beq_iff_eq] at hhas ⊢
            omega
          have hb := betM_bit (pl := pl) hs.1 ht.1 (w := (j : Int) :: w') (i := (c.oth s).toNat)
          rw [h, Nat.zero_testBit, List.any_cons, endsK_bit hv hcj hq.1, hq.2.2, decide_eq_false (by omega), decide_eq_false (by omega)] at hb
          cases hb
        · cases w' with
          | nil => exact absurd rfl q1
          | cons _ _ => simp at h
    · cases hw
theorem way_one {n s t : Int} {pl : List Kl} (hp : pairP n pl s t = true) {w : List Int} (hw : w ∈ allWays pl s t) : betM pl s t w = 0 ↔ w.length = 1 := way_one_go (f := 31) hp hw
theorem way_pos {n s t : Int} {pl : List Kl} (hp : pairP n pl s t = true) : ∀ w ∈ allWays pl s t, w.length ≠ 1 → 0 < betM pl s t w := fun w hw h => by
  have := way_one hp hw
  omega
/-- So many sets, apart from each other, find room. -/
def hold (ks : List Nat) : Nat → Nat → Prop
  | 0, _ => True
  | m + 1, A => ∃ x ∈ ks, without x A = 0 ∧ hold ks m (without A x)
theorem without_comm (A x y : Nat) : without (without A x) y = without (without A y) x := by
  apply Nat.eq_of_testBit_eq
  intro i
  simp only [testBit_without]
  cases A.testBit i <;> cases x.testBit i <;> cases y.testBit i <;> rfl
theorem sub_without {x A y : Nat} : without x (without A y) = 0 ↔ without x A = 0 ∧ x &&& y = 0 := by
  rw [without_zero, without_zero]
  constructor
  · intro h
    refine ⟨fun i hi => ?_, ?_⟩
    · have := h i hi
      rw [testBit_without] at this
      simp only [Bool.and_eq_true] at this
      exact this.1
    · apply Nat.eq_of_testBit_eq
      intro i
      rw [Nat.testBit_and, Nat.zero_testBit]
      cases hx : x.testBit i with
      | false => rfl
      | true =>
        have := h i hx
        rw [testBit_without] at this
        simp only [Bool.and_eq_true, Bool.not_eq_true'] at this
        rw [this.2]; rfl
  · rintro ⟨h1, h2⟩ i hi
    rw [testBit_without, h1 i hi]
    have := congrArg (fun n => Nat.testBit n i) h2
    simp only [Nat.testBit_and, Nat.zero_testBit, hi, Bool.true_and] at this
    rw [this]; rfl
/-- The most, set by set as_ they come. -/
def packF : List Nat → Nat → Nat
  | [], _ => 0
  | x :: l, u => max (if x &&& u = 0 then 1 + packF l (u ||| x) else 0) (packF l u)
theorem hold_mono {ks ks' : List Nat} (h : ∀ x ∈ ks, x ∈ ks') : ∀ m A, hold ks m A → hold ks' m A := by
  intro m
  induction m with
  | zero => intro A _; trivial
  | succ m ih =>
    rintro A ⟨x, hx, h1, h2⟩
    exact ⟨x, h x hx, h1, ih _ h2⟩
theorem hold_cons {x : Nat} (hx : 0 < x) {l : List Nat} : ∀ m A, hold (x :: l) m A → hold l m A ∨ (without x A = 0 ∧ ∃ m', m = m' + 1 ∧ hold l m' (without A x)) := by
  intro m
  induction m with
  | zero => intro A _; exact .inl trivial
  | succ m ih =>
    rintro A ⟨y, hy, h1, h2⟩
    rcases List.mem_cons.1 hy with rfl | hy
    · rcases ih _ h2 with h | ⟨h, _⟩
      · exact .inr ⟨h1, m, rfl, h⟩
      · have := (sub_without.1 h).2
        rw [Nat.and_self] at this
        omega
    · rcases ih _ h2 with h | ⟨h, m', rfl, h3⟩
      · exact .inl ⟨y, hy, h1, h⟩
      · obtain ⟨h4, h5⟩ := sub_without.1 h
        refine .inr ⟨h4, m' + 1, rfl, y, hy, ?_, ?_⟩
        · rw [sub_without]
          exact ⟨h1, by rw [Nat.and_comm]; exact h5⟩
        · rw [without_comm]; exact h3
theorem pack_ge : ∀ (l : List Nat), (∀ x ∈ l, 0 < x) → ∀ m A u, A &&& u = 0 → hold l m A → m ≤ packF l u := by
  intro l
  induction l with
  | nil =>
    intro _ m A u _ h
    cases m with
    | zero => exact Nat.zero_le _
    | succ m =>
      obtain ⟨x, hx, _⟩ := h
      cases hx
  | cons x l ih =>
    intro hl m A u hA h
    have hl' := fun y hy => hl y (List.mem_cons_of_mem _ hy)
    unfold packF
    rcases hold_cons (hl x List.mem_cons_self) m A h with h | ⟨h1, m', rfl, h2⟩
    · have := ih hl' m A u hA h
      omega
    · have hA' : ∀ i, A.testBit i = true → u.testBit i = false := by
        intro i hi
        have := congrArg (fun n => Nat.testBit n i) hA
        simpa only [Nat.testBit_and, Nat.zero_testBit, hi, Bool.true_and] using this
      have hxu : x &&& u = 0 := by
        apply Nat.eq_of_testBit_eq
        intro i
        rw [Nat.testBit_and, Nat.zero_testBit]
        cases hx : x.testBit i with
        | false => rfl
        | true => rw [hA' i (without_zero.1 h1 i hx)]; rfl
      have := ih hl' m' (without A x) (u ||| x) (by
        apply Nat.eq_of_testBit_eq
        intro i
        rw [Nat.testBit_and, testBit_without, Nat.testBit_or, Nat.zero_testBit]
        cases ha : A.testBit i with
        | false => rfl
        | true => rw [hA' i ha]; cases x.testBit i <;> rfl) h2
      rw [if_pos hxu]
      omega
theorem pack_hold {F : Nat} : ∀ (l : List Nat), (∀ x ∈ l, without x F = 0) → ∀ u, hold l (packF l u) (without F u) := by
  intro l
  induction l with
  | nil => intro _ u; trivial
  | cons x l ih =>
    intro hl u
    have hl' := fun y hy => hl y (List.mem_cons_of_mem _ hy)
    have h2 := hold_mono (ks' := x :: l) (fun y hy => List.mem_cons_of_mem _ hy) _ _ (ih hl' u)
    unfold packF
    by_cases hxu : x &&& u = 0
    · rw [if_pos hxu]
      rcases Nat.le_total (1 + packF l (u ||| x)) (packF l u) with h | h
      · rw [Nat.max_eq_right h]; exact h2
      · rw [Nat.max_eq_left h, Nat.add_comm]
        refine ⟨x, List.mem_cons_self, sub_without.2 ⟨hl x List.mem_cons_self, hxu⟩, ?_⟩
        have h3 := hold_mono (ks' := x :: l) (fun y hy => List.mem_cons_of_mem _ hy) _ _ (ih hl' (u ||| x))
        have e : without F (u ||| x) = without (without F u) x := by
          apply Nat.eq_of_testBit_eq
          intro i
          simp only [testBit_without, Nat.testBit_or]
          cases F.testBit i <;> cases u.testBit i <;> cases x.testBit i <;> rfl
        rw [← e]; exact h3
    · rw [if_neg hxu, Nat.zero_max]; exact h2
/-- What all sets come to. -/
theorem sumT_facts {row : List Int} {set : Nat} : ∀ (l : List Nat) (a : Int × Nat),
    a.1 ≤ (l.foldl (stepT row set) a).1 ∧ (∀ x ∈ l, without x set = 0 → row.getD (without set x) 0 + 1 ≤ (l.foldl (stepT row set) a).1) ∧ ((l.foldl (stepT row set) a).1 = a.1 ∨ ∃ x ∈ l, without x set = 0 ∧ (l.foldl (stepT row set) a).1 = row.getD (without set x) 0 + 1) := by
  intro l
  induction l with
  | nil => intro a; exact ⟨Int.le_refl _, fun x hx => (by cases hx), .inl rfl⟩
  | cons y l ih =>
    intro a
    obtain ⟨h1, h2, h3⟩ := ih (stepT row set a y)
    simp only [List.foldl_cons]
    by_cases hy : without y set = 0
    · have e : (stepT row set a y).1 = max a.1 (row.getD (without set y) 0 + 1) := by unfold stepT; rw [if_pos hy]
      rw [e] at h1 h3
      refine ⟨by omega, fun x hx hxs => ?_, ?_⟩
      · rcases List.mem_cons.1 hx with rfl | hx
        · omega
        · exact h2 x hx hxs
      · rcases h3 with h3 | ⟨x, hx, h4, h5⟩
        · rcases Int.le_total a.1 (row.getD (without set y) 0 + 1) with h | h
          · exact .inr ⟨y, List.mem_cons_self, hy, by rw [h3]; omega⟩
          · exact .inl (by rw [h3]; omega)
        · exact .inr ⟨x, List.mem_cons_of_mem _ hx, h4, h5⟩
    · have e : stepT row set a y = a := by unfold stepT; rw [if_neg hy]
      rw [e] at h1 h2 h3 ⊢
      refine ⟨h1, fun x hx hxs => ?_, ?_⟩
      · rcases List.mem_cons.1 hx with rfl | hx
        · exact absurd hxs hy
        · exact h2 x hx hxs
      · exact h3.imp id fun ⟨x, hx, h⟩ => ⟨x, List.mem_cons_of_mem _ hx, h⟩
/-- The table holds the most. -/
theorem tab_hold {ks : List Nat} (hk : ∀ x ∈ ks, 0 < x) (N : Nat) : ∀ i, i ≤ N → (∀ j, i ≤ j → (tabT ks N i).getD j 0 = 0) ∧ ∀ j, j < i → ∃ m : Nat, (tabT ks N i).getD j 0 = m ∧ hold ks m j ∧ ∀ m', hold ks m' j → m' ≤ m := by
  intro i
  induction i with
  | zero =>
    intro _
    refine ⟨fun j _ => ?_, fun j h => by omega⟩
    unfold tabT
    rw [List.getD_eq_getElem?_getD, List.getElem?_replicate]
    split <;> rfl
  | succ i ih =>
    intro hi
    obtain ⟨h1, h2⟩ := ih (by omega)
    have hl := tabT_len ks N i
    have hne : ∀ j, j ≠ i → (tabT ks N (i + 1)).getD j 0 = (tabT ks N i).getD j 0 := by
      intro j hj
      rw [show tabT ks N (i + 1) = (tabT ks N i).set i (sumT (tabT ks N i) i ks).1 from rfl]
      rw [List.getD_eq_getElem?_getD, List.getElem?_set_ne (Ne.symm hj), List.getD_eq_getElem?_getD]
    refine ⟨fun j hj => by rw [hne j (by omega)]; exact h1 j (by omega), fun j hj => ?_⟩
    by_cases hji : j = i
    · subst hji
      have e : (tabT ks N (j + 1)).getD j 0 = (sumT (tabT ks N j) j ks).1 := by
        rw [tabT, List.getD_eq_getElem?_getD, List.getElem?_set_self (by omega)]
        rfl
      obtain ⟨f1, f2, f3⟩ := sumT_facts (row := tabT ks N j) (set := j) ks ((tabT ks N j).getD j 0, 0)
      have e' : (List.foldl (stepT (tabT ks N j) j) ((tabT ks N j).getD j 0, 0) ks).1 = (sumT (tabT ks N j) j ks).1 := rfl
      rw [e'] at f1 f2 f3
      have z := h1 j (Nat.le_refl _)
      simp only [z] at f1 f3
      have low : ∀ x ∈ ks, without x j = 0 → ∃ m : Nat, (tabT ks N j).getD (without j x) 0 = m ∧ hold ks m (without j x) ∧ ∀ m', hold ks m' (without j x) → m' ≤ m := fun x hx h => h2 _ (without_lt h (hk x hx))
      rw [e]
      refine ⟨(sumT (tabT ks N j) j ks).1.toNat, by omega, ?_, fun m' hm' => ?_⟩
      · rcases f3 with f3 | ⟨x, hx, hxj, f3⟩
        · rw [f3]; trivial
        · obtain ⟨m, g1, g2, g3⟩ := low x hx hxj
          rw [f3, g1, show ((m : Int) + 1).toNat = m + 1 by omega]
          exact ⟨x, hx, hxj, g2⟩
      · cases m' with
        | zero => exact Nat.zero_le _
        | succ m' =>
          obtain ⟨x, hx, hxj, hm⟩ := hm'
          obtain ⟨m, g1, g2, g3⟩ := low x hx hxj
          have := f2 x hx hxj
          have := g3 m' hm
          rw [g1] at *
          omega
    · rw [hne j hji]
      exact h2 j (by omega)
theorem tab_pack {ks : List Nat} {N : Nat} (hN : 0 < N) (hk : ∀ x ∈ ks, 0 < x ∧ without x (N - 1) = 0) : (tabT ks N N).getD (N - 1) 0 = (packF ks 0 : Nat) := by
  obtain ⟨_, h2⟩ := tab_hold (fun x hx => (hk x hx).1) N N (Nat.le_refl _)
  obtain ⟨m, e, h3, h4⟩ := h2 (N - 1) (by omega)
  rw [e]
  have a := pack_ge ks (fun x hx => (hk x hx).1) m (N - 1) 0 (Nat.and_zero _) h3
  have b := h4 _ (by
    have := pack_hold (F := N - 1) ks (fun x hx => (hk x hx).2) 0
    have e0 : without (N - 1) 0 = N - 1 := by
      unfold without
      simp
    rwa [e0] at this)
  omega
end Go.AM.F
end
section
namespace Go.AM.F
open Go.Proofs
end Go.AM.F
end
section
namespace Go.AM.F
open Go.Proofs
theorem betM_ltn {n s t : Int} {pl : List Kl} (hv : validP n pl = true) (w : List Int) : betM pl s t w < 2 ^ n.toNat := by
  obtain ⟨h1, h2, h3, h4⟩ := validP_ok hv
  refine without_le _ _ (without_le _ _ ?_)
  unfold orW
  have : ∀ (w : List Int) (a : Nat), a < 2 ^ n.toNat → w.foldl (fun a x => a ||| endsK pl x) a < 2 ^ n.toNat := by
    intro w
    induction w with
    | nil => intro a h; exact h
    | cons x w ih =>
      intro a h
      refine ih _ (Nat.or_lt_two_pow h ?_)
      unfold endsK
      split
      · rename_i c hc
        obtain ⟨a1, a2, _⟩ := okC_iff.1 (h4 _ c hc)
        exact Nat.or_lt_two_pow (Nat.pow_lt_pow_right (by decide) (by omega)) (Nat.pow_lt_pow_right (by decide) (by omega))
      · exact Nat.two_pow_pos _
  exact this w 0 (Nat.two_pow_pos _)
theorem wideF_mem {pl : List Kl} {s t : Int} : ∀ x ∈ (wideF pl s t).2, ∃ w ∈ allWays pl s t, w.length ≠ 1 ∧ x = betM pl s t w := by
  have : ∀ (ws : List (List Int)) (σ : Int × List Nat), (∀ w ∈ ws, w ∈ allWays pl s t) → (∀ x ∈ σ.2, ∃ w ∈ allWays pl s t, w.length ≠ 1 ∧ x = betM pl s t w) → ∀ x ∈ (ws.foldl (wideS pl s t) σ).2, ∃ w ∈ allWays pl s t, w.length ≠ 1 ∧ x = betM pl s t w := by
    intro ws
    induction ws with
    | nil => intro σ _ h; exact h
    | cons w ws ih =>
      intro σ hw h
      rw [List.foldl_cons]
      refine ih _ (fun w' hw' => hw w' (List.mem_cons_of_mem _ hw')) ?_
      unfold wideS
      split
      · exact h
      · rename_i h1
        intro x hx
        unfold insK at hx
        simp only at hx
        split at hx
        · exact h x hx
        · rcases List.mem_append.1 hx with hx | hx
          · exact h x hx
          · exact ⟨w, hw w List.mem_cons_self, h1, List.mem_singleton.1 hx⟩
  exact this _ _ (fun w h => h) (by simp)
theorem sub_full {x m : Nat} (h : x < 2 ^ m) : without x (2 ^ m - 1) = 0 := by
  rw [without_zero]
  intro i hi
  rw [Nat.testBit_two_pow_sub_one]
  refine decide_eq_true (Nat.lt_of_not_le fun hc => ?_)
  have := Nat.testBit_lt_two_pow (Nat.lt_of_lt_of_le h (Nat.pow_le_pow_right (by decide) hc))
  rw [this] at hi
  cases hi
end Go.AM.F
end
end

section
section
namespace Go.AM.F
open Go.Proofs
variable {R : Type}
attribute [local simp] nx_eq nx_new nx_set blk_new blk_set asI_int asK_int asB_bool asP_ptr al_eq bx_eq len_slice onE_exit onE_ret onR_ret Value.cells d3 d48 d50 d53 d46 d52 d44 d22 w3 cell_new cell_set rd_new rd_set off eq lt le ifB gv out eqF1 eqF2 eqF3 eqF4 eqF5 eqF6 eqF7 eqF8 ext20 ext21 k67 k63 k94
/-- A call of one of these people. -/
def touchX (X : Nat) (c : Kl) : Bool := X.testBit c.a.toNat || X.testBit c.b.toNat
theorem touch_fold (X : Nat) (l : List Kl) (A : List Int) : l.foldl (fun A c => if touchX X c = true then A else arrG c A) A = (l.filter fun c => !touchX X c).foldl (fun A c => arrG c A) A := by
  induction l generalizing A with
  | nil => rfl
  | cons c l ih =>
    rw [List.foldl_cons, ih]
    cases h : touchX X c with
    | true => rw [if_pos rfl, List.filter_cons_of_neg (by simp [h])]
    | false => rw [if_neg (by simp), List.filter_cons_of_pos (by simp [h]), List.foldl_cons]
theorem s65X {X : Nat} (hX : X < 2 ^ 7) {n s : Int} {sl : Value} {l : List Kl} {h : H} (hs : SlR h 53 3 sl (l.map Kl.cells)) (hv : validP n l = true) (hp : 0 ≤ s ∧ s < n) :
    ∃ v h' b, rn 65 #[.agg #[iv n, sl], iv s, iv (X : Nat)] h = some (v, h') ∧ Ext h h' ∧ h.nx ≤ b ∧ IA h' b v (arriveP n.toNat (l.filter fun c => !touchX X c) s) := by
  obtain ⟨hn1, hn7, hl24, hok⟩ := validP_ok hv
  obtain ⟨m, rfl⟩ := Int.eq_ofNat_of_zero_le (show 0 ≤ n by omega)
  have x1 : Ext h (h.new (.row [iv m, sl] 50 true)) := .new _ _
  have x2 := Ext.new (h.new (.row [iv m, sl] 50 true)) (.row [iv (-1)] 3 true)
  have x12 := x1.trans x2
  have a2 : SlR ((h.new (.row [iv m, sl] 50 true)).new (.row [iv (-1)] 3 true)) 3 1 (.slice (some ⟨h.nx + 1, 0, none⟩) 1 1) (cellsI [-1]) := (AqR.lit (lo := 0) (l := cellsI [-1]) (Nat.zero_le _) rfl (by simp) (by simp)).slR
  obtain ⟨v3, h3, b, e69, x3, hlo, _, ia3⟩ := s69 a2 (show 1 ≤ m by omega) (show m < 2 ^ 20 by omega)
  have hlo' : h.nx + 2 ≤ b := hlo
  have w3' := ia3.wrc (i := s.toNat) (by simp; omega) 0
  have ia4 := ia3.set s.toNat 0
  have hb2 : ((h.new (.row [iv m, sl] 50 true)).new (.row [iv (-1)] 3 true)).blk h.nx = some (.row [iv m, sl] 50 true) := (x2.blk _ (Nat.lt_succ_self _)).trans (blk_new_self _ _)
  have hb3 : h3.blk h.nx = some (.row [iv m, sl] 50 true) := (x3.blk h.nx (by simp only [nx_new]; omega)).trans hb2
  generalize hH4 : h3.set b (.row (((List.replicate m (-1)).set s.toNat 0).map iv) 3 true) = h4 at *
  have x4 : Ext h h4 := by
    rw [← hH4]
    exact (x12.trans x3).set (by omega) _
  have hb4 : h4.blk h.nx = some (.row [iv m, sl] 50 true) := by rw [← hH4, blk_set_ne _ _ _ (by omega)]; exact hb3
  obtain ⟨ws', h', hl, hx, hia, hlen, rfl⟩ := lp_for (F := f65_l1 rn (l.length + 1) (X : Nat) v3 sl l.length) (k := l.length + 1) (l := l) (fun _ c (A : List Int) => if touchX X c = true then A else arrG c A)
    (fun i A ws g => Ext h g ∧ IA g b v3 A ∧ A.length = m ∧ ws = [iv i]) 0 (ws := [iv 0]) (h := h4) (s0 := arr0 m s)
    ⟨x4, ia4, by simp [arr0], rfl⟩ (by omega)
    (by
      rintro A ws g ⟨_, _, _, rfl⟩
      simp [f65_l1])
    (by
      rintro i c A ws g hc ⟨hx, hia, hlen, rfl⟩
      have hil := (List.getElem?_eq_some_iff.1 hc).1
      obtain ⟨ha, hb⟩ := ok_range hv hc
      have y7 := (Ext.refl g).fresh 53 [iv 0, iv 0, iv 0] c.cells
      have hcb := blk_fresh g 53 [iv 0, iv 0, iv 0] c.cells
      have ia7 := hia.ext y7
      have x7 := hx.trans y7
      have hA : A[c.a.toNat]? = some (A.getD c.a.toNat 0) := by simp [show c.a.toNat < A.length by omega]
      have hB : A[c.b.toNat]? = some (A.getD c.b.toNat 0) := by simp [show c.b.toNat < A.length by omega]
      have hadd : add .i64 (i : Int) 1 = (i : Int) + 1 := add64 (by omega) (by omega)
      have zb : ∀ {p : Int}, 0 ≤ p ∧ p < 7 → AM.and .i64 (shr .i64 ((X : Nat) : Int) p) 1 = if X.testBit p.toNat then 1 else 0 := by
        intro p hp
        obtain ⟨a, rfl⟩ := Int.eq_ofNat_of_zero_le hp.1
        rw [bit_nat (by omega) (by omega), Int.toNat_natCast]
      have z1 := zb (p := c.a) (by omega)
      have z2 := zb (p := c.b) (by omega)
      have hF : ∃ g', Ext h g' ∧ IA g' b v3 (if touchX X c = true then A else arrG c A) ∧ f65_l1 rn (l.length + 1) (X : Nat) v3 sl l.length [iv i] g = some (.normal, [iv ((i : Int) + 1)], g') := by
        unfold f65_l1
        rw [show gv [iv i] 0 = iv i from rfl, asI_int, lt_t (by omega), ifB_true, asK_int, (hs.ext hx).ldA ag53 sz53 (by omega) (x := c.cells) (by simp [hc])]
        rw [al_st (zs := [iv 0, iv 0, iv 0]) (xs := c.cells) sz53 rfl rfl]
        generalize g.fresh 53 [iv 0, iv 0, iv 0] c.cells = h7 at *
        simp only [Kl.cells] at hcb
        have gA : ∀ (K : Value → Option (Ex × List Value × H)), (six v3 c.a 1 fun b o => (h7.cell b o).bind K) = K (iv (A.getD c.a.toNat 0)) := fun K => ia7.get ha.1 hA K
        have gB : ∀ (K : Value → Option (Ex × List Value × H)), (six v3 c.b 1 fun b o => (h7.cell b o).bind K) = K (iv (A.getD c.b.toNat 0)) := fun K => ia7.get hb.1 hB K
        have wA := ia7.wrc (i := c.a.toNat) (by omega) c.t
        have wB := ia7.wrc (i := c.b.toNat) (by omega) c.t
        have pA : ∀ (K : H → Option (Ex × List Value × H)), (six v3 c.a 1 fun b o => (wrc 1 h7 b o (.int .i64 c.t)).bind K) = K (h7.set b (.row ((A.set c.a.toNat c.t).map iv) 3 true)) := fun K => by rw [ia7.put ha.1 (by omega), wA]; rfl
        have pB : ∀ (K : H → Option (Ex × List Value × H)), (six v3 c.b 1 fun b o => (wrc 1 h7 b o (.int .i64 c.t)).bind K) = K (h7.set b (.row ((A.set c.b.toNat c.t).map iv) 3 true)) := fun K => by rw [ia7.put hb.1 (by omega), wB]; rfl
        have sA := ia7.set c.a.toNat c.t
        have sB := ia7.set c.b.toNat c.t
        by_cases ta : X.testBit c.a.toNat = true
        · rw [if_pos ta] at z1
          refine ⟨_, x7, by rw [if_pos (show touchX X c = true by unfold touchX; rw [ta]; rfl)]; exact ia7, ?_⟩
          simp [cell_of hcb, z1, nn_ge ha.1, hadd]
        rw [if_neg ta] at z1
        by_cases tb : X.testBit c.b.toNat = true
        · rw [if_pos tb] at z2
          refine ⟨_, x7, by rw [if_pos (show touchX X c = true by unfold touchX; rw [tb, Bool.or_true])]; exact ia7, ?_⟩
          simp [cell_of hcb, z1, z2, nn_ge ha.1, nn_ge hb.1, hadd]
        rw [if_neg tb] at z2
        rw [if_neg (show ¬ touchX X c = true by unfold touchX; simp only [Bool.or_eq_true, not_or]; exact ⟨ta, tb⟩)]
        unfold arrG
        generalize hx0 : A.getD c.a.toNat 0 = x at *
        generalize hy0 : A.getD c.b.toNat 0 = y at *
        by_cases h1 : x ≠ -1 ∧ y = -1
        · rw [if_pos h1]
          refine ⟨_, x7.set (by omega) _, sB, ?_⟩
          simp [cell_of hcb, z1, z2, nn_ge ha.1, nn_ge hb.1, gA, gB, pA, pB, h1.1, h1.2, hadd]
        · rw [if_neg h1]
          by_cases h2 : y ≠ -1 ∧ x = -1
          · rw [if_pos h2]
            refine ⟨_, x7.set (by omega) _, sA, ?_⟩
            simp [cell_of hcb, z1, z2, nn_ge ha.1, nn_ge hb.1, gA, gB, pA, pB, h2.1, h2.2, hadd]
          · rw [if_neg h2]
            refine ⟨_, x7, ia7, ?_⟩
            simp [cell_of hcb, z1, z2, nn_ge ha.1, nn_ge hb.1, gA, gB, pA, pB, hadd]
            grind
      obtain ⟨g', q1, q2, q3⟩ := hF
      exact ⟨_, g', q3, q1, q2, by split <;> simp only [arrG_len, hlen], rfl⟩)
  rw [foldI_foldl] at hia
  rw [touch_fold] at hia
  refine ⟨v3, h', b, x65 (k := l.length + 1) ?_ hia.slR.notR, hx, by omega, hia⟩
  have c1 := fun (K : Value → H → Option (Value × H)) => calls_eq (K := K) (xs := [_, _]) e69
  have kbls : ∀ (K : Value → H → Option (Value × H)), bls Tryd.prog (h.new (.row [iv m, sl] 50 true)) 22 1 [(0, .int .i64 (-1))] K = K (.slice (some ⟨h.nx + 1, 0, none⟩) 1 1) ((h.new (.row [iv m, sl] 50 true)).new (.row [iv (-1)] 3 true)) := fun K => bls_some (bls22 (-1) _)
  have p3 : ∀ (K : H → Option (Value × H)), (six v3 s 1 fun b o => (wrc 1 h3 b o (.int .i64 0)).bind K) = K h4 := fun K => by rw [ia3.put hp.1 (by simp; omega), w3']; rfl
  simp [f65, kbls, c1, p3, cell_of hb4, hs.len, lp_eq hl]
end Go.AM.F
end
section
namespace Go.AM.F
open Go.Proofs
/-- How many people. -/
def cntB (X : Nat) : Nat := (List.range 7).countP fun i => X.testBit i
def popE (n : Int) : Int := (and .i64 (wr .i64 (add .u64 (add .u64 (add .u64 (and .u64 (add .u64 (shr .u64 (add .u64 (and .u64 (shr .u64 (add .u64 (and .u64 (shr .u64 n 1) 6148914691236517205) (and .u64 n 6148914691236517205)) 2) 3689348814741910323) (and .u64 (add .u64 (and .u64 (shr .u64 n 1) 6148914691236517205) (and .u64 n 6148914691236517205)) 3689348814741910323)) 4) (add .u64 (and .u64 (shr .u64 (add .u64 (and .u64 (shr .u64 n 1) 6148914691236517205) (and .u64 n 6148914691236517205)) 2) 3689348814741910323) (and .u64 (add .u64 (and .u64 (shr .u64 n 1) 6148914691236517205) (and .u64 n 6148914691236517205)) 3689348814741910323))) 1085102592571150095) (shr .u64 (and .u64 (add .u64 (shr .u64 (add .u64 (and .u64 (shr .u64 (add .u64 (and .u64 (shr .u64 n 1) 6148914691236517205) (and .u64 n 6148914691236517205)) 2) 3689348814741910323) (and .u64 (add .u64 (and .u64 (shr .u64 n 1) 6148914691236517205) (and .u64 n 6148914691236517205)) 3689348814741910323)) 4) (add .u64 (and .u64 (shr .u64 (add .u64 (and .u64 (shr .u64 n 1) 6148914691236517205) (and .u64 n 6148914691236517205)) 2) 3689348814741910323) (and .u64 (add .u64 (and .u64 (shr .u64 n 1) 6148914691236517205) (and .u64 n 6148914691236517205)) 3689348814741910323))) 1085102592571150095) 8)) (shr .u64 (add .u64 (and .u64 (add .u64 (shr .u64 (add .u64 (and .u64 (shr .u64 (add .u64 (and .u64 (shr .u64 n 1) 6148914691236517205) (and .u64 n 6148914691236517205)) 2) 3689348814741910323) (and .u64 (add .u64 (and .u64 (shr .u64 n 1) 6148914691236517205) (and .u64 n 6148914691236517205)) 3689348814741910323)) 4) (add .u64 (and .u64 (shr .u64 (add .u64 (and .u64 (shr .u64 n 1) 6148914691236517205) (and .u64 n 6148914691236517205)) 2) 3689348814741910323) (and .u64 (add .u64 (and .u64 (shr .u64 n 1) 6148914691236517205) (and .u64 n 6148914691236517205)) 3689348814741910323))) 1085102592571150095) (shr .u64 (and .u64 (add .u64 (shr .u64 (add .u64 (and .u64 (shr .u64 (add .u64 (and .u64 (shr .u64 n 1) 6148914691236517205) (and .u64 n 6148914691236517205)) 2) 3689348814741910323) (and .u64 (add .u64 (and .u64 (shr .u64 n 1) 6148914691236517205) (and .u64 n 6148914691236517205)) 3689348814741910323)) 4) (add .u64 (and .u64 (shr .u64 (add .u64 (and .u64 (shr .u64 n 1) 6148914691236517205) (and .u64 n 6148914691236517205)) 2) 3689348814741910323) (and .u64 (add .u64 (and .u64 (shr .u64 n 1) 6148914691236517205) (and .u64 n 6148914691236517205)) 3689348814741910323))) 1085102592571150095) 8)) 16)) (shr .u64 (add .u64 (add .u64 (and .u64 (add .u64 (shr .u64 (add .u64 (and .u64 (shr .u64 (add .u64 (and .u64 (shr .u64 n 1) 6148914691236517205) (and .u64 n 6148914691236517205)) 2) 3689348814741910323) (and .u64 (add .u64 (and .u64 (shr .u64 n 1) 6148914691236517205) (and .u64 n 6148914691236517205)) 3689348814741910323)) 4) (add .u64 (and .u64 (shr .u64 (add .u64 (and .u64 (shr .u64 n 1) 6148914691236517205) (and .u64 n 6148914691236517205)) 2) 3689348814741910323) (and .u64 (add .u64 (and .u64 (shr .u64 n 1) 6148914691236517205) (and .u64 n 6148914691236517205)) 3689348814741910323))) 1085102592571150095) (shr .u64 (and .u64 (add .u64 (shr .u64 (add .u64 (and .u64 (shr .u64 (add .u64 (and .u64 (shr .u64 n 1) 6148914691236517205) (and .u64 n 6148914691236517205)) 2) 3689348814741910323) (and .u64 (add .u64 (and .u64 (shr .u64 n 1) 6148914691236517205) (and .u64 n 6148914691236517205)) 3689348814741910323)) 4) (add .u64 (and .u64 (shr .u64 (add .u64 (and .u64 (shr .u64 n 1) 6148914691236517205) (and .u64 n 6148914691236517205)) 2) 3689348814741910323) (and .u64 (add .u64 (and .u64 (shr .u64 n 1) 6148914691236517205) (and .u64 n 6148914691236517205)) 3689348814741910323))) 1085102592571150095) 8)) (shr .u64 (add .u64 (and .u64 (add .u64 (shr .u64 (add .u64 (and .u64 (shr .u64 (add .u64 (and .u64 (shr .u64 n 1) 6148914691236517205) (and .u64 n 6148914691236517205)) 2) 3689348814741910323) (and .u64 (add .u64 (and .u64 (shr .u64 n 1) 6148914691236517205) (and .u64 n 6148914691236517205)) 3689348814741910323)) 4) (add .u64 (and .u64 (shr .u64 (add .u64 (and .u64 (shr .u64 n 1) 6148914691236517205) (and .u64 n 6148914691236517205)) 2) 3689348814741910323) (and .u64 (add .u64 (and .u64 (shr .u64 n 1) 6148914691236517205) (and .u64 n 6148914691236517205)) 3689348814741910323))) 1085102592571150095) (shr .u64 (and .u64 (add .u64 (shr .u64 (add .u64 (and .u64 (shr .u64 (add .u64 (and .u64 (shr .u64 n 1) 6148914691236517205) (and .u64 n 6148914691236517205)) 2) 3689348814741910323) (and .u64 (add .u64 (and .u64 (shr .u64 n 1) 6148914691236517205) (and .u64 n 6148914691236517205)) 3689348814741910323)) 4) (add .u64 (and .u64 (shr .u64 (add .u64 (and .u64 (shr .u64 n 1) 6148914691236517205) (and .u64 n 6148914691236517205)) 2) 3689348814741910323) (and .u64 (add .u64 (and .u64 (shr .u64 n 1) 6148914691236517205) (and .u64 n 6148914691236517205)) 3689348814741910323))) 1085102592571150095) 8)) 16)) 32))) 127)
theorem pop_all : ∀ X : Fin 128, popE (X.val : Int) = (cntB X.val : Int) := by decide +kernel
theorem pop_ok {X : Nat} (h : X < 2 ^ 7) : popE (X : Int) = (cntB X : Int) := pop_all ⟨X, h⟩
theorem f97_is (k : Nat) (n : Int) (h : H) : f97 rn k (.int .u64 n) h = some (.int .i64 (popE n), h) := by
  unfold f97
  rw [asI_int, nn_ge (by decide), asI_int, nn_ge (by decide), nn_ge (by decide), nn_ge (by decide), nn_ge (by decide), nn_ge (by decide)]
  rfl
theorem s64 {X : Nat} (hX : X < 2 ^ 7) (h : H) : rn 64 #[.int .u64 (X : Int)] h = some (iv (cntB X : Nat), h) := by
  have e : rn 97 #[.int .u64 (X : Int)] h = some (iv (cntB X : Nat), h) := p97 (k := 0) (by rw [f97_is, pop_ok hX]) rfl (.refl _)
  refine p64 (k := 0) (h1 := h) ?_ rfl (.refl _)
  unfold f64
  refine (calls_eq (xs := [_]) e).trans ?_
  rw [asI_int]
theorem cnt_le (X : Nat) : cntB X ≤ 7 := by
  unfold cntB
  exact Nat.le_trans List.countP_le_length (by simp)
theorem bitZ {X : Nat} {p : Int} (hX : X < 2 ^ 7) (hp : 0 ≤ p ∧ p < 7) : AM.and .i64 (AM.shr .i64 ((X : Nat) : Int) p) 1 = if X.testBit p.toNat then 1 else 0 := by
  obtain ⟨a, rfl⟩ := Int.eq_ofNat_of_zero_le hp.1
  rw [bit_nat (by omega) (by omega), Int.toNat_natCast]
theorem s62 (c : Kl) {g : H} {sb tb : Nat} {s t : Int} (hs : sb < g.nx ∧ g.blk sb = some (.row [iv s] 3 true)) (ht : tb < g.nx ∧ g.blk tb = some (.row [iv t] 3 true)) : rn 62 #[c.val, pt sb 0, pt tb 0] g = some (.bool (c.has s && c.has t), g) := by
  have x1 := Ext.new g (.row c.cells 53 true)
  have b1 : (g.new (.row c.cells 53 true)).blk g.nx = some (.row c.cells 53 true) := blk_new_self _ _
  have b2 := (x1.blk sb hs.1).trans hs.2
  have b3 := (x1.blk tb ht.1).trans ht.2
  refine p62 (k := 0) (h1 := g.new (.row c.cells 53 true)) ?_ rfl x1
  unfold f62
  rw [bx_eq, nx_eq, show c.val.cells.toList = c.cells from rfl]
  simp only [asP_ptr]
  rw [d53, rd_all (n := 3) b1 rfl, Option.bind_some, d3, cell_of b2]
  simp only [List.getElem?_cons_zero, Option.bind_some, asI_int]
  refine (k63 c s _ _).trans ?_
  rw [asB_bool]
  cases hcs : c.has s with
  | false => rw [ifB_false]; rfl
  | true =>
    rw [ifB_true, d53, rd_all (n := 3) b1 rfl, Option.bind_some, d3, cell_of b3]
    simp only [List.getElem?_cons_zero, Option.bind_some, asI_int]
    refine (k63 c t _ _).trans ?_
    rw [asB_bool]
    rfl
end Go.AM.F
end
section
namespace Go.AM.F
open Go.Proofs
/-- The calls that touch none of them. -/
def leftT (X : Nat) (l : List Kl) : Nat := maskN (((List.range l.length).filter fun i => match l[i]? with
  | some c => !touchX X c
  | none => false).map fun (i : Nat) => (i : Int))
theorem leftT_bit {X : Nat} {l : List Kl} {i : Nat} : (leftT X l).testBit i = true ↔ ∃ c, l[i]? = some c ∧ touchX X c = false := by
  unfold leftT
  rw [maskN_bit]
  constructor
  · rintro ⟨j, hj, rfl⟩
    obtain ⟨j', hj', rfl⟩ := List.mem_map.1 hj
    obtain ⟨h1, h2⟩ := List.mem_filter.1 hj'
    rw [Int.toNat_natCast]
    cases hc : l[j']? with
    | none => rw [hc] at h2; cases h2
    | some c => rw [hc] at h2; exact ⟨c, rfl, by simpa using h2⟩
  · rintro ⟨c, hc, ht⟩
    refine ⟨(i : Int), List.mem_map.2 ⟨i, List.mem_filter.2 ⟨List.mem_range.2 (List.getElem?_eq_some_iff.1 hc).1, ?_⟩, rfl⟩, Int.toNat_natCast i⟩
    rw [hc]; simp [ht]
theorem part_touch (X : Nat) (l : List Kl) : partL l (leftT X l) = l.filter fun c => !touchX X c := by
  unfold partL partZ
  have e : (l.zipIdx.filter fun q => (leftT X l).testBit q.2) = l.zipIdx.filter fun q => !touchX X q.1 := by
    refine List.filter_congr fun q hq => ?_
    have h := List.mem_zipIdx_iff_getElem?.1 hq
    rw [Bool.eq_iff_iff, leftT_bit]
    constructor
    · rintro ⟨c, hc, ht⟩
      rw [h] at hc
      cases hc
      rw [ht]; rfl
    · intro ht
      exact ⟨q.1, h, by simpa using ht⟩
  rw [e]
  have : ∀ (l : List Kl) (i : Nat), ((l.zipIdx i).filter fun q => !touchX X q.1).map (·.1) = l.filter fun c => !touchX X c := by
    intro l
    induction l with
    | nil => intro i; rfl
    | cons c l ih =>
      intro i
      rw [List.zipIdx_cons]
      cases h : touchX X c with
      | true => rw [List.filter_cons_of_neg (by simp [h]), List.filter_cons_of_neg (by simp [h])]; exact ih _
      | false => rw [List.filter_cons_of_pos (by simp [h]), List.filter_cons_of_pos (by simp [h]), List.map_cons, ih]
  exact this l 0
theorem arr_way {n s t : Int} {l : List Kl} (hv : validP n l = true) (hs : 0 ≤ s ∧ s < n) (ht : 0 ≤ t ∧ t < n) (hst : s ≠ t) : atP (arriveP n.toNat l s) t ≠ -1 ↔ ∃ w, w ∈ allWays l s t := by
  rw [arrive_K]
  constructor
  · intro h
    obtain ⟨w, m, hr, _, _⟩ := (arr_ok hv hs l.length (Nat.le_refl _)).run t ht h
    exact ⟨w, (mem_all hv hst w).2 ((check_run hv hs w).2 ⟨_, hr, rfl⟩)⟩
  · rintro ⟨w, hw⟩
    obtain ⟨st', hr, rfl⟩ := (check_run hv hs w).1 ((mem_all hv hst w).1 hw)
    exact (run_arr hv hs w.length w rfl st' l.length (Nat.le_refl _) hr (allWays_ok w hw).2.2).1
theorem block_iff {n s t : Int} {l : List Kl} (hp : pairP n l s t = true) {X : Nat} :
    atP (arriveP n.toNat (l.filter fun c => !touchX X c) s) t = -1 ↔ ∀ w ∈ allWays l s t, ∃ i ∈ w, ∃ c, l[i.toNat]? = some c ∧ touchX X c = true := by
  obtain ⟨hv, hs, ht, hst⟩ := pairP_parts hp
  have v := vp_iff.1 hv
  have vp := v.part (leftT X l)
  rw [← part_touch]
  have ha := arr_way (vp_iff.2 vp) hs ht hst
  constructor
  · intro h w hw
    refine Classical.byContradiction fun hn => ?_
    have hd : ∀ i ∈ w, (fun i => !(leftT X l).testBit i) i.toNat = false := by
      intro i hi
      obtain ⟨i0, il⟩ := (allWays_ok w hw).2.2 i hi
      obtain ⟨c, hc⟩ : ∃ c, l[i.toNat]? = some c := ⟨_, List.getElem?_eq_getElem (by omega)⟩
      have : (leftT X l).testBit i.toNat = true := leftT_bit.2 ⟨c, hc, by
        cases htt : touchX X c with
        | false => rfl
        | true => exact absurd ⟨i, hi, c, hc, htt⟩ hn⟩
      simp [this]
    have hpos := no_way v hs hst hw (d := fun i => !(leftT X l).testBit i) hd
    rw [← part_mc] at hpos
    obtain ⟨r, hr⟩ : ∃ r, mcP (partL l (leftT X l)) s t 0 = r + 1 := ⟨mcP (partL l (leftT X l)) s t 0 - 1, by omega⟩
    obtain ⟨w', hw', _⟩ := pick_way vp hs hst hr
    exact ha.2 ⟨w', hw'⟩ h
  · intro h
    refine Classical.byContradiction fun hn => ?_
    obtain ⟨w, hw⟩ := ha.1 hn
    obtain ⟨i, hi, c, hc, htt⟩ := h _ (place_way v hs hst hw)
    obtain ⟨j, hj, rfl⟩ := List.mem_map.1 hi
    obtain ⟨j0, jl⟩ := (allWays_ok w hw).2.2 j hj
    obtain ⟨_, g2⟩ := placeZ_get (l := l) (left := leftT X l) (i := j) (by omega)
    obtain ⟨c', hc', ht'⟩ := leftT_bit.1 g2
    rw [hc] at hc'
    cases hc'
    rw [htt] at ht'
    cases ht'
/-- Do these people stand in each way? -/
def blkS (ks : List Nat) (X : Nat) : Bool := ks.all fun x => !decide (x &&& X = 0)
theorem touch_or {n s t : Int} {l : List Kl} (hp : pairP n l s t = true) {X : Nat} (hX : X < 2 ^ 7) (h0 : X.testBit s.toNat = false) (h1 : X.testBit t.toNat = false) {w : List Int} (hw : w ∈ allWays l s t) :
    betM l s t w &&& X ≠ 0 ↔ ∃ i ∈ w, ∃ c, l[i.toNat]? = some c ∧ touchX X c = true := by
  obtain ⟨hv, hs, ht, hst⟩ := pairP_parts hp
  obtain ⟨hv1, hv2, hv3, hv4⟩ := validP_ok hv
  constructor
  · intro h
    obtain ⟨j, hj⟩ : ∃ j, (betM l s t w &&& X).testBit j = true := by
      refine Classical.byContradiction fun hn => h ?_
      apply Nat.eq_of_testBit_eq
      intro i
      rw [Nat.zero_testBit]
      cases hb : (betM l s t w &&& X).testBit i with
      | false => rfl
      | true => exact absurd ⟨i, hb⟩ hn
    rw [Nat.testBit_and, betM_bit hs.1 ht.1] at hj
    simp only [Bool.and_eq_true] at hj
    obtain ⟨⟨⟨hj, _⟩, _⟩, hXj⟩ := hj
    obtain ⟨x, hx, hxj⟩ := List.any_eq_true.1 hj
    obtain ⟨x0, xl⟩ := (allWays_ok w hw).2.2 x hx
    obtain ⟨c, hc⟩ : ∃ c, l[x.toNat]? = some c := ⟨_, List.getElem?_eq_getElem (by omega)⟩
    refine ⟨x, hx, c, hc, ?_⟩
    have := endsK_bit hv hc (p := (j : Int)) (by omega)
    rw [Int.toNat_natCast, hxj] at this
    obtain ⟨a1, a2, _⟩ := okC_iff.1 (hv4 _ c hc)
    unfold Kl.has at this
    unfold touchX
    have this := this.symm
    simp only [Bool.or_eq_true, beq_iff_eq] at this ⊢
    rcases this with e | e
    · exact .inl (by rw [show c.a.toNat = j by omega]; exact hXj)
    · exact .inr (by rw [show c.b.toNat = j by omega]; exact hXj)
  · rintro ⟨x, hx, c, hc, htt⟩ hz
    obtain ⟨a1, a2, _⟩ := okC_iff.1 (hv4 _ c hc)
    have fin : ∀ p : Int, 0 ≤ p → c.has p = true → X.testBit p.toNat = true → False := by
      intro p hp0 hcp hXp
      have := congrArg (fun m => Nat.testBit m p.toNat) hz
      simp only [Nat.testBit_and, hXp, Nat.zero_testBit, Bool.and_true] at this
      rw [betM_bit hs.1 ht.1] at this
      have e1 : (w.any fun x => (endsK l x).testBit p.toNat) = true := List.any_eq_true.2 ⟨x, hx, by rw [endsK_bit hv hc hp0]; exact hcp⟩
      have e2 : decide (s.toNat = p.toNat) = false := decide_eq_false fun e => by rw [e, hXp] at h0; cases h0
      have e3 : decide (t.toNat = p.toNat) = false := decide_eq_false fun e => by rw [e, hXp] at h1; cases h1
      rw [e1, e2, e3] at this
      cases this
    unfold touchX at htt
    simp only [Bool.or_eq_true] at htt
    rcases htt with e | e
    · exact fin c.a a1.1 (by unfold Kl.has; simp) e
    · exact fin c.b a2.1 (by unfold Kl.has; simp) e
theorem wide_has {pl : List Kl} {s t : Int} {w : List Int} (hw : w ∈ allWays pl s t) (h1 : w.length ≠ 1) : betM pl s t w ∈ (wideF pl s t).2 := by
  have ins : ∀ (ks : List Nat) (x y : Nat), y ∈ ks ∨ y = x → y ∈ insK ks x := by
    intro ks x y h
    unfold insK
    split
    · rename_i hx
      rcases h with h | rfl
      · exact h
      · exact hx
    · rw [List.mem_append, List.mem_singleton]; exact h
  have keep : ∀ (ws : List (List Int)) (σ : Int × List Nat) (y : Nat), y ∈ σ.2 → y ∈ (ws.foldl (wideS pl s t) σ).2 := by
    intro ws
    induction ws with
    | nil => intro σ y h; exact h
    | cons w ws ih =>
      intro σ y h
      rw [List.foldl_cons]
      refine ih _ _ ?_
      unfold wideS
      split
      · exact h
      · exact ins _ _ _ (.inl h)
  have : ∀ (ws : List (List Int)) (σ : Int × List Nat), w ∈ ws → betM pl s t w ∈ (ws.foldl (wideS pl s t) σ).2 := by
    intro ws
    induction ws with
    | nil => intro σ h; cases h
    | cons w' ws ih =>
      intro σ h
      rw [List.foldl_cons]
      rcases List.mem_cons.1 h with rfl | h
      · refine keep _ _ _ ?_
        unfold wideS
        rw [if_neg h1]
        exact ins _ _ _ (.inr rfl)
      · exact ih _ h
  exact this _ _ hw
/-- Without these people nothing arrives: they stand in each way. -/
theorem block_ref {n s t : Int} {l : List Kl} (hp : pairP n l s t = true) (hd : ∀ w ∈ allWays l s t, w.length ≠ 1) {X : Nat} (hX : X < 2 ^ 7) (h0 : X.testBit s.toNat = false) (h1 : X.testBit t.toNat = false) :
    atP (arriveP n.toNat (l.filter fun c => !touchX X c) s) t = -1 ↔ blkS (wideF l s t).2 X = true := by
  rw [block_iff hp]
  unfold blkS
  rw [List.all_eq_true]
  constructor
  · intro h x hx
    obtain ⟨w, hw, _, rfl⟩ := wideF_mem x hx
    have := (touch_or hp hX h0 h1 hw).2 (h w hw)
    simpa using this
  · intro h w hw
    have := h _ (wide_has hw (hd w hw))
    exact (touch_or hp hX h0 h1 hw).1 (by simpa using this)
end Go.AM.F
end
section
namespace Go.AM.F
open Go.Proofs
/-- Has s called t? -/
def dirP (l : List Kl) (s t : Int) : Bool := l.any fun c => c.has s && c.has t
theorem one_way {n s t : Int} {pl : List Kl} (hp : pairP n pl s t = true) {f : Nat} : (∃ w ∈ waysF pl t (f + 1) s 0 (shl .i64 1 s), w.length = 1) ↔ dirP pl s t = true := by
  obtain ⟨hv, hs, ht, hst⟩ := pairP_parts hp
  obtain ⟨hv1, hv2, hv3, hv4⟩ := validP_ok hv
  unfold dirP
  rw [List.any_eq_true]
  constructor
  · rintro ⟨w, hw, h1⟩
    simp only [waysF] at hw
    rw [mem_app] at hw
    rcases hw with hw | ⟨j, c, hc, hw⟩
    · cases hw
    · unfold wayStep at hw
      split at hw
      · rename_i hg
        simp only [goes, Bool.and_eq_true] at hg
        have hhas := hg.1.2
        split at hw
        · rename_i ho
          refine ⟨c, List.mem_of_getElem? hc, ?_⟩
          unfold Kl.has Kl.oth at *
          simp only [Bool.or_eq_true, beq_iff_eq, Bool.and_eq_true] at hhas ⊢
          omega
        · obtain ⟨w', hw', rfl⟩ := List.mem_map.1 hw
          obtain ⟨q1, _, _⟩ := waysF_ok (n := 0) _ _ _ _ w' hw'
          cases w' with
          | nil => exact absurd rfl q1
          | cons _ _ => simp at h1
      · cases hw
  · rintro ⟨c, hc, hh⟩
    obtain ⟨j, hj⟩ := List.mem_iff_getElem?.1 hc
    obtain ⟨a1, a2, a3, a4, a5⟩ := okC_iff.1 (hv4 _ c hj)
    simp only [Bool.and_eq_true] at hh
    have ho : c.oth s = t := by
      rcases has_or hh.1 hh.2 with e | e
      · exact absurd e.symm hst
      · exact e.symm
    have hin : inP (shl .i64 1 s) t = false := by
      have e1 : AM.shl .i64 1 s = ((2 ^ s.toNat : Nat) : Int) := by
        have := shl1_nat (p := s.toNat) (by omega)
        rwa [Int.toNat_of_nonneg hs.1] at this
      rw [e1, inP_nat (two_lt (by omega)) (by omega), Nat.testBit_two_pow]
      exact decide_eq_false (by omega)
    refine ⟨[(j : Int)], ?_, rfl⟩
    simp only [waysF]
    rw [mem_app]
    refine .inr ⟨j, c, hj, ?_⟩
    unfold wayStep
    rw [if_pos, if_pos ho, Nat.zero_add]
    · exact List.mem_singleton.2 rfl
    · simp only [goes, Bool.and_eq_true, Bool.not_eq_true', decide_eq_false_iff_not]
      exact ⟨⟨by omega, hh.1⟩, by rw [ho]; exact hin⟩
theorem no_dir {n s t : Int} {pl : List Kl} (hp : pairP n pl s t = true) (hd : dirP pl s t = false) : ∀ w ∈ allWays pl s t, w.length ≠ 1 := by
  intro w hw h1
  rw [(one_way hp (f := 31)).1 ⟨w, hw, h1⟩] at hd
  cases hd
/-- May these people be taken? -/
def qB (pl : List Kl) (s t : Int) (X : Nat) : Bool := !X.testBit s.toNat && !X.testBit t.toNat && blkS (wideF pl s t).2 X
def stB (pl : List Kl) (s t : Int) (best X : Nat) : Nat := if qB pl s t X = true ∧ cntB X < cntB best then X else best
/-- The set that is answered. -/
def blkP (n : Int) (pl : List Kl) (s t : Int) : Nat := (List.range (fullN n)).foldl (stB pl s t) (fullN n - 1)
end Go.AM.F
end
end

section
section
namespace Go.AM.F
open Go.Proofs
/-- Calls of arrive leave what was there. -/
noncomputable def rcB : Rec := over rn 65 (smR rn 65)
theorem rcB_ne {f : FuncId} (hf : f ≠ 65) {h : H} {xs : List Value} {R : Type} {K : Value → H → Option R} : calls rcB h f xs K = calls rn h f xs K := calls_over hf
theorem l54 {n s t : Int} {sl : Value} {l : List Kl} {h0 h1 h2 g0 : H} (hp : pairP n l s t = true) (hd : dirP l s t = false) (hs : SlR g0 53 3 sl (l.map Kl.cells)) (b0 : g0.blk h0.nx = some (.row [iv n, sl] 50 true)) (b1 : g0.blk h1.nx = some (.row [iv s] 3 true)) (b2 : g0.blk h2.nx = some (.row [iv t] 3 true))
    (lt0 : h0.nx < g0.nx ∧ h1.nx < g0.nx ∧ h2.nx < g0.nx) :
    ∃ ws g, lpGo (f26_l1 rcB 1000 h0 h1 h2 n) 1000 [iv (fullN n - 1 : Nat), iv 0] g0 = some (.exit 0, ws, g) ∧ Ext g0 g ∧ gv ws 0 = iv (blkP n l s t : Nat) := by
  obtain ⟨hv, hsn, htn, hst⟩ := pairP_parts hp
  obtain ⟨hv1, hv2, hv3, hv4⟩ := validP_ok hv
  have hN : fullN n ≤ 2 ^ 7 := Nat.pow_le_pow_right (by decide) (by omega)
  have hN0 : 0 < fullN n := Nat.two_pow_pos _
  have hsh : AM.shl .i64 1 n = ((fullN n : Nat) : Int) := by
    have := shl1_nat (p := n.toNat) (by omega)
    rwa [Int.toNat_of_nonneg (by omega)] at this
  obtain ⟨ws', g', q1, hx, _, rfl⟩ := lp_for (k := 1000) (l := List.range (fullN n)) (F := f26_l1 rcB 1000 h0 h1 h2 n) (fun _ X best => stB l s t best X)
    (fun i best ws g => Ext g0 g ∧ best < 2 ^ 7 ∧ ws = [iv best, iv i]) 0 (ws := [iv (fullN n - 1 : Nat), iv 0]) (h := g0) (s0 := fullN n - 1) ⟨.refl _, by omega, rfl⟩ (by rw [List.length_range]; omega)
    (fun best ws g hI => by
      obtain ⟨_, _, rfl⟩ := hI
      unfold f26_l1
      simp only [gv, List.getD_cons_zero, List.getD_cons_succ, asI_int, List.length_range]
      rw [hsh, lt_f (by omega), ifB_false]; rfl)
    (fun i X best ws g hX hI => by
      obtain ⟨hx, hbe, rfl⟩ := hI
      obtain ⟨hi, rfl⟩ : i < fullN n ∧ i = X := by
        obtain ⟨h1, h2⟩ := List.getElem?_eq_some_iff.1 hX
        rw [List.length_range] at h1
        rw [List.getElem_range] at h2
        exact ⟨h1, h2⟩
      have a0 := (hx.blk _ lt0.1).trans b0
      have a1 := (hx.blk _ lt0.2.1).trans b1
      have a2 := (hx.blk _ lt0.2.2).trans b2
      have hgx := hx.nx
      have hX7 : i < 2 ^ 7 := by omega
      have hadd : add .i64 (i : Int) 1 = ((i + 1 : Nat) : Int) := by rw [add64 (by omega) (by omega)]; simp
      have zs := bitZ (p := s) hX7 (by omega)
      have zt := bitZ (p := t) hX7 (by omega)
      have w1 : wr .u64 ((i : Nat) : Int) = (i : Int) := u64_small (by omega) (by omega)
      have w2 : wr .u64 ((best : Nat) : Int) = (best : Int) := u64_small (by omega) (by omega)
      have c1 := cnt_le i
      have c2 := cnt_le best
      obtain ⟨v, h', b, e65, x65, hb, ia⟩ := s65X hX7 (hs.ext hx) hv hsn
      have k65 : ∀ {R : Type} (K : Value → H → Option R), calls rcB g 65 [.agg #[iv n, sl], iv s, iv (i : Nat)] K = K v ⟨h'.blk, h'.nx, g.wr⟩ := fun K => calls_at (smR_of e65 x65)
      have xg : Ext g ⟨h'.blk, h'.nx, g.wr⟩ := ⟨x65.nx, x65.blk⟩
      have iag : IA ⟨h'.blk, h'.nx, g.wr⟩ b v (arriveP n.toNat (l.filter fun c => !touchX i c) s) := ⟨ia.val, ia.lt, ia.row⟩
      have hal : (arriveP n.toNat (l.filter fun c => !touchX i c) s).length = n.toNat := by rw [arrive_K]; exact arrK_len
      have hat : (arriveP n.toNat (l.filter fun c => !touchX i c) s)[t.toNat]? = some (atP (arriveP n.toNat (l.filter fun c => !touchX i c) s) t) := by
        unfold atP
        rw [List.getD_eq_getElem?_getD, List.getElem?_eq_getElem (by omega)]
        rfl
      have head : f26_l1 rcB 1000 h0 h1 h2 n [iv best, iv i] g = if i.testBit s.toNat = true then some (.normal, [iv best, iv (i + 1 : Nat)], g) else if i.testBit t.toNat = true then some (.normal, [iv best, iv (i + 1 : Nat)], g) else
          if cntB i < cntB best then (if atP (arriveP n.toNat (l.filter fun c => !touchX i c) s) t = -1 then some (.normal, [iv i, iv (i + 1 : Nat)], ⟨h'.blk, h'.nx, g.wr⟩) else some (.normal, [iv best, iv (i + 1 : Nat)], ⟨h'.blk, h'.nx, g.wr⟩)) else some (.normal, [iv best, iv (i + 1 : Nat)], g) := by
        unfold f26_l1
        simp only [gv, List.getD_cons_zero, List.getD_cons_succ, asI_int, nx_eq]
        rw [hsh, lt_t (by omega), ifB_true]
        rw [d3, cell_of a1]
        simp only [List.getElem?_cons_zero, Option.bind_some, asI_int]
        rw [nn_ge hsn.1, zs]
        by_cases p1 : i.testBit s.toNat = true
        · rw [if_pos p1, eq_f (by omega), ifB_false, if_pos p1, hadd]; rfl
        rw [if_neg p1, eq_t rfl, ifB_true, if_neg p1, d3, cell_of a2]
        simp only [List.getElem?_cons_zero, Option.bind_some, asI_int]
        rw [nn_ge htn.1, zt]
        by_cases p2 : i.testBit t.toNat = true
        · rw [if_pos p2, eq_f (by omega), ifB_false, if_pos p2, hadd]; rfl
        rw [if_neg p2, eq_t rfl, ifB_true, if_neg p2, w1, w2]
        rw [rcB_ne (by decide)]
        refine (calls_eq (xs := [_]) (s64 hX7 g)).trans ?_
        rw [asI_int, rcB_ne (by decide)]
        refine (calls_eq (xs := [_]) (s64 hbe g)).trans ?_
        rw [asI_int]
        by_cases p3 : cntB i < cntB best
        · rw [lt_t (by omega), ifB_true, if_pos p3, d50, rd_all (n := 2) a0 rfl, Option.bind_some, d3, cell_of a1]
          simp only [List.getElem?_cons_zero, Option.bind_some, asI_int]
          refine (k65 _).trans ?_
          have a2' : H.blk ⟨h'.blk, h'.nx, g.wr⟩ h2.nx = some (.row [iv t] 3 true) := (xg.blk _ (by omega)).trans a2
          rw [d3, cell_of a2']
          simp only [List.getElem?_cons_zero, Option.bind_some, asI_int]
          have hck : freq h2.nx g.nx (same ⟨h'.blk, h'.nx, g.wr⟩ g) = true := by simp [freq, same]; omega
          rw [hck]
          unfold ck
          rw [if_pos rfl]
          simp only [d3]
          rw [iag.get htn.1 hat, asI_int]
          by_cases p4 : atP (arriveP n.toNat (l.filter fun c => !touchX i c) s) t = -1
          · rw [eq_t p4, ifB_true, if_pos p4, hadd]; rfl
          · rw [eq_f p4, ifB_false, if_neg p4, hadd]; rfl
        · rw [lt_f (by omega), ifB_false, if_neg p3, hadd]; rfl
      have q0 : qB l s t i = true ↔ i.testBit s.toNat = false ∧ i.testBit t.toNat = false ∧ blkS (wideF l s t).2 i = true := by
        unfold qB
        simp only [Bool.and_eq_true, Bool.not_eq_true']
        exact ⟨fun h => ⟨h.1.1, h.1.2, h.2⟩, fun h => ⟨⟨h.1, h.2.1⟩, h.2.2⟩⟩
      by_cases p1 : i.testBit s.toNat = true
      · have e : stB l s t best i = best := by unfold stB; rw [if_neg]; intro hc; rw [(q0.1 hc.1).1] at p1; cases p1
        exact ⟨_, g, by rw [head, if_pos p1], hx, by rw [e]; exact hbe, by rw [e]⟩
      by_cases p2 : i.testBit t.toNat = true
      · have e : stB l s t best i = best := by unfold stB; rw [if_neg]; intro hc; rw [(q0.1 hc.1).2.1] at p2; cases p2
        exact ⟨_, g, by rw [head, if_neg p1, if_pos p2], hx, by rw [e]; exact hbe, by rw [e]⟩
      have f1 : i.testBit s.toNat = false := by simpa using p1
      have f2 : i.testBit t.toNat = false := by simpa using p2
      by_cases p3 : cntB i < cntB best
      · have br := block_ref hp (no_dir hp hd) hX7 f1 f2
        by_cases p4 : atP (arriveP n.toNat (l.filter fun c => !touchX i c) s) t = -1
        · have e : stB l s t best i = i := by unfold stB; rw [if_pos ⟨q0.2 ⟨f1, f2, br.1 p4⟩, p3⟩]
          exact ⟨_, _, by rw [head, if_neg p1, if_neg p2, if_pos p3, if_pos p4], hx.trans xg, by rw [e]; exact hX7, by rw [e]⟩
        · have e : stB l s t best i = best := by unfold stB; rw [if_neg]; intro hc; exact p4 (br.2 (q0.1 hc.1).2.2)
          exact ⟨_, _, by rw [head, if_neg p1, if_neg p2, if_pos p3, if_neg p4], hx.trans xg, by rw [e]; exact hbe, by rw [e]⟩
      · have e : stB l s t best i = best := by unfold stB; rw [if_neg]; intro hc; exact p3 hc.2
        exact ⟨_, g, by rw [head, if_neg p1, if_neg p2, if_neg p3], hx, by rw [e]; exact hbe, by rw [e]⟩)
  refine ⟨_, g', q1, hx, ?_⟩
  rw [foldI_foldl]
  rfl
/-- What is answered. -/
def blkA (n : Int) (l : List Kl) (s t : Int) : Int × Int := if pairP n l s t = true then (if dirP l s t = true then (0, 4) else ((blkP n l s t : Nat), 0)) else (0, 2)
theorem s26w {n s t : Int} {sl : Value} {l : List Kl} {h : H} (hs : SlR h 53 3 sl (l.map Kl.cells)) :
    ∃ h', f26 rcB 1000 (.agg #[iv n, sl]) s t h = some (.tuple #[iv (blkA n l s t).1, iv (blkA n l s t).2], h') ∧ Ext h h' := by
  let h3 : H := ((h.new (.row [iv n, sl] 50 true)).new (.row [iv s] 3 true)).new (.row [iv t] 3 true)
  have x3 : Ext h h3 := (((Ext.refl h).new' _).new' _).new' _
  have n3 : h3.nx = h.nx + 3 := rfl
  have c0 : h3.blk h.nx = some (.row [iv n, sl] 50 true) := by
    show (if h.nx = h.nx + 1 + 1 then _ else if h.nx = h.nx + 1 then _ else if h.nx = h.nx then _ else _) = _
    rw [if_neg (by omega), if_neg (by omega), if_pos rfl]
  have c1 : h3.blk (h.nx + 1) = some (.row [iv s] 3 true) := by
    show (if h.nx + 1 = h.nx + 1 + 1 then _ else if h.nx + 1 = h.nx + 1 then _ else _) = _
    rw [if_neg (by omega), if_pos rfl]
  have c2 : h3.blk (h.nx + 2) = some (.row [iv t] 3 true) := by
    show (if h.nx + 1 + 1 = h.nx + 1 + 1 then _ else _) = _
    rw [if_pos rfl]
  have hs3 := hs.ext x3
  have e61 : rn 61 #[sl, .func (.func 62) #[] #[pt (h.nx + 1) 0, pt (h.nx + 2) 0]] h3 = some (.bool (dirP l s t), h3) := s61 hs3 fun c _ => s62 c ⟨by omega, c1⟩ ⟨by omega, c2⟩
  have k58' : ∀ (K : Value → H → Option (Value × H)), calls rcB h3 58 [.agg #[iv n, sl], iv s, iv t] K = K (.bool (pairP n l s t)) h3 := fun K => by rw [rcB_ne (by decide), k58 hs3]
  have k61' : ∀ (K : Value → H → Option (Value × H)), calls rcB h3 61 [sl, .func (.func 62) #[] #[pt (h.nx + 1) 0, pt (h.nx + 2) 0]] K = K (.bool (dirP l s t)) h3 := fun K => by rw [rcB_ne (by decide)]; exact calls_eq (xs := [_, _]) e61
  have start : ∀ h' (r : Int × Int), (pairP n l s t = false → r = (0, 2) ∧ h' = h3) → (pairP n l s t = true → dirP l s t = true → r = (0, 4) ∧ h' = h3) → (pairP n l s t = true → dirP l s t = false → ∃ ws, lpGo (f26_l1 rcB 1000 h (h.new (.row [iv n, sl] 50 true)) ((h.new (.row [iv n, sl] 50 true)).new (.row [iv s] 3 true)) n) 1000 [iv (fullN n - 1 : Nat), iv 0] h3 = some (.exit 0, ws, h') ∧ gv ws 0 = iv r.1 ∧ r.2 = 0) →
      f26 rcB 1000 (.agg #[iv n, sl]) s t h = some (.tuple #[iv r.1, iv r.2], h') := by
    intro h' r g1 g2 g3
    unfold f26
    rw [bx_eq, bx_eq, bx_eq]
    simp only [Value.cells, nx_eq, nx_new]
    show ld Tryd.prog h3 50 h.nx 0 _ = _
    rw [d50, rd_all (n := 2) c0 rfl, Option.bind_some]
    show ld Tryd.prog h3 3 (h.nx + 1) 0 _ = _
    rw [d3, cell_of c1]
    simp only [List.getElem?_cons_zero, Option.bind_some, asI_int]
    show ld Tryd.prog h3 3 (h.nx + 1 + 1) 0 _ = _
    rw [d3, cell_of c2]
    simp only [List.getElem?_cons_zero, Option.bind_some, asI_int]
    refine (k58' _).trans ?_
    rw [asB_bool]
    cases hp : pairP n l s t with
    | false =>
      obtain ⟨rfl, rfl⟩ := g1 hp
      rfl
    | true =>
      rw [Bool.not_true, ifB_false]
      show ld Tryd.prog h3 48 h.nx 1 _ = _
      rw [d48, cell_of c0]
      simp only [List.getElem?_cons_succ, List.getElem?_cons_zero, Option.bind_some]
      refine (k61' _).trans ?_
      rw [asB_bool]
      cases hd : dirP l s t with
      | true =>
        obtain ⟨rfl, rfl⟩ := g2 hp hd
        rfl
      | false =>
        obtain ⟨ws, q1, q2, q3⟩ := g3 hp hd
        obtain ⟨hn1, hn7, _⟩ := validP_ok (pairP_parts hp).1
        have hN : fullN n ≤ 2 ^ 7 := Nat.pow_le_pow_right (by decide) (by omega)
        have hN0 : 0 < fullN n := Nat.two_pow_pos _
        have hsh : AM.shl .i64 1 n = ((fullN n : Nat) : Int) := by
          have := shl1_nat (p := n.toNat) (by omega)
          rwa [Int.toNat_of_nonneg (by omega)] at this
        rw [ifB_false]
        show ld Tryd.prog h3 3 h.nx 0 _ = _
        rw [d3, cell_of c0]
        simp only [List.getElem?_cons_zero, Option.bind_some, asI_int]
        rw [nn_ge (by omega)]
        show ld Tryd.prog h3 3 h.nx 0 _ = _
        rw [d3, cell_of c0]
        simp only [List.getElem?_cons_zero, Option.bind_some, asI_int]
        rw [nn_ge (by omega), hsh, sub64 (by omega) (by omega), show ((fullN n : Nat) : Int) - 1 = ((fullN n - 1 : Nat) : Int) by omega]
        refine (lp_eq q1).trans ?_
        rw [onE_exit, if_pos rfl, q2, q3]
  cases hp : pairP n l s t with
  | false => exact ⟨h3, start h3 _ (fun _ => ⟨by unfold blkA; rw [hp]; rfl, rfl⟩) (fun h => by rw [hp] at h; cases h) (fun h => by rw [hp] at h; cases h), x3⟩
  | true =>
    cases hd : dirP l s t with
    | true => exact ⟨h3, start h3 _ (fun h => by rw [hp] at h; cases h) (fun _ _ => ⟨by unfold blkA; rw [hp, hd]; rfl, rfl⟩) (fun _ h => by rw [hd] at h; cases h), x3⟩
    | false =>
      obtain ⟨ws, g, q1, q2, q3⟩ := l54 (h0 := h) (h1 := h.new (.row [iv n, sl] 50 true)) (h2 := (h.new (.row [iv n, sl] 50 true)).new (.row [iv s] 3 true)) hp hd hs3 c0 c1 c2 ⟨by omega, by show h.nx + 1 < _; omega, by show h.nx + 2 < _; omega⟩
      exact ⟨g, start g _ (fun h => by rw [hp] at h; cases h) (fun _ h => by rw [hd] at h; cases h) (fun _ _ => ⟨ws, q1, by rw [q3]; unfold blkA; rw [hp, hd]; rfl, by unfold blkA; rw [hp, hd]; rfl⟩), x3.trans q2⟩
end Go.AM.F
end
section
namespace Go.AM.F
open Go.Proofs
open Classical in
/-- Wide, told. -/
noncomputable def g53 (args : Array Value) (h : H) : Option (Value × H) :=
  match args.toList with
  | [v0, .int .i64 n0, .int .i64 n1] =>
    match f25H RG53 rn 1000 v0 n0 n1 h with
    | some (v, h1) => if plainO v = true ∧ Ext h h1 then some (v, h) else none
    | none => none
  | _ => none
open Classical in
/-- Block, told. -/
noncomputable def g54 (args : Array Value) (h : H) : Option (Value × H) :=
  match args.toList with
  | [v0, .int .i64 n0, .int .i64 n1] =>
    match f26 rcB 1000 v0 n0 n1 h with
    | some (v, h1) => if plainO v = true ∧ Ext h h1 then some (v, h) else none
    | none => none
  | _ => none
theorem g53_of {v0 v : Value} {n0 n1 : Int} {h h1 : H} (e : f25H RG53 rn 1000 v0 n0 n1 h = some (v, h1)) (hp : plainO v = true) (x : Ext h h1) : g53 #[v0, iv n0, iv n1] h = some (v, h) := by
  unfold g53
  simp only [e, if_pos (And.intro hp x)]
theorem g54_of {v0 v : Value} {n0 n1 : Int} {h h1 : H} (e : f26 rcB 1000 v0 n0 n1 h = some (v, h1)) (hp : plainO v = true) (x : Ext h h1) : g54 #[v0, iv n0, iv n1] h = some (v, h) := by
  unfold g54
  simp only [e, if_pos (And.intro hp x)]
theorem g53_sure (hmix : Tryd.prog.follows .mixedOrders = true) {args : Array Value} {h h' : H} {v : Value} (e : g53 args h = some (v, h')) : Sure Tryd.prog E0 25 args h v h' := by
  have hrec : SoundR Tryd.prog E0 rn := run_sound hmix
  obtain ⟨s, hs, h1, h2, h3, h4, h5, h6, h7, h8⟩ := rg25_is
  have hrg := rg25_ok hmix hs h1 h2 h3 h4 h5 h6 h7 h8
  unfold g53 at e
  split at e
  · rename_i v0 n0 n1 ha
    split at e
    · rename_i v1 hh e1
      split at e
      · rename_i hx
        simp only [Option.some.injEq, Prod.mk.injEq] at e
        obtain ⟨rfl, rfl⟩ := e
        have e2 := e1
        rw [← e25H] at e2
        have b := bodyH_calls hrec (draw_ok hmix hrec) hs hrg e2
        have ea : args = #[v0, iv n0, iv n1] := by
          cases args
          simp only at ha
          rw [ha]
        rw [ea]
        exact Sure.trunc b hx.1 fun q hq => hx.2.blk q hq
      · cases e
    · cases e
  · cases e
theorem rcB_sound (hmix : Tryd.prog.follows .mixedOrders = true) : SoundR Tryd.prog E0 rcB := over_sound (run_sound hmix) fun _ _ _ _ e => smR_sure (run_sound hmix) e
theorem g54_sure (hmix : Tryd.prog.follows .mixedOrders = true) {args : Array Value} {h h' : H} {v : Value} (e : g54 args h = some (v, h')) : Sure Tryd.prog E0 26 args h v h' := by
  unfold g54 at e
  split at e
  · rename_i v0 n0 n1 ha
    split at e
    · rename_i v1 hh e1
      split at e
      · rename_i hx
        simp only [Option.some.injEq, Prod.mk.injEq] at e
        obtain ⟨rfl, rfl⟩ := e
        have e2 := e1
        rw [← e26] at e2
        have b := body_sure hmix (rcB_sound hmix) e2 hx.1 hx.2
        have ea : args = #[v0, iv n0, iv n1] := by
          cases args
          simp only at ha
          rw [ha]
        rw [ea]
        exact b
      · cases e
    · cases e
  · cases e
/-- What Wide answers. -/
def widA (n : Int) (l : List Kl) (s t : Int) : Int × Int := if pairP n l s t = true then (wideP n l s t, 0) else (0, 2)
end Go.AM.F
end
end

section
namespace Go.AM
/-- Which arcs ways take: none into s, none out of t; other nodes pass on what they get, at most once. -/
structure FlW (adj : Nat → Nat → Prop) (s t : Nat) (F : Nat → Nat → Prop) : Prop where
  sub : ∀ v u, F v u → adj v u
  ns : ∀ v, ¬ F v s
  nt : ∀ u, ¬ F t u
  out1 : ∀ v u u', v ≠ s → F v u → F v u' → u = u'
  in1 : ∀ v v' u, u ≠ t → F v u → F v' u → v = v'
  io : ∀ v, v ≠ s → v ≠ t → ((∃ u, F v u) ↔ ∃ u, F u v)
/-- A step of the search: back along the way through a node, or on along an edge. -/
inductive Ahead (adj : Nat → Nat → Prop) (s : Nat) (F : Nat → Nat → Prop) : Nat × Bool → Nat × Bool → Prop
  | back {v p : Nat} {w : Bool} (hv : v ≠ s) (ho : ∃ u, F v u) (hp : F p v) : Ahead adj s F (v, w) (p, true)
  | fwd {v u : Nat} {w : Bool} (hw : v ≠ s → (∃ u, F v u) → w = true) (ha : adj v u) (hu : u ≠ s) (hf : ¬ F v u) : Ahead adj s F (v, w) (u, false)
/-- A path of the search. -/
structure PathW (adj : Nat → Nat → Prop) (s t : Nat) (F : Nat → Nat → Prop) (P : Nat → Nat × Bool) (m : Nat) : Prop where
  step : ∀ i, i < m → Ahead adj s F (P i) (P (i + 1))
  start : P 0 = (s, true)
  last : P m = (t, false)
  inj : ∀ i j, i ≤ m → j ≤ m → P i = P j → i = j
  os : ∀ i, 0 < i → i ≤ m → (P i).1 ≠ s
  ot : ∀ i, i < m → (P i).1 ≠ t
def addW (P : Nat → Nat × Bool) (m : Nat) (v u : Nat) : Prop := ∃ i, i < m ∧ (P i).1 = v ∧ P (i + 1) = (u, false)
def cutW (P : Nat → Nat × Bool) (m : Nat) (v u : Nat) : Prop := ∃ i, i < m ∧ P (i + 1) = (v, true) ∧ (P i).1 = u
def turnW (F : Nat → Nat → Prop) (P : Nat → Nat × Bool) (m : Nat) (v u : Nat) : Prop := (F v u ∧ ¬ cutW P m v u) ∨ addW P m v u
section
variable {adj : Nat → Nat → Prop} {s t : Nat} {F : Nat → Nat → Prop} {P : Nat → Nat × Bool} {m : Nat}
theorem step_out {x y : Nat × Bool} (a : Ahead adj s F x y) {u : Nat} (h : y = (u, false)) : (x.1 ≠ s → (∃ u, F x.1 u) → x.2 = true) ∧ adj x.1 u ∧ u ≠ s ∧ ¬ F x.1 u := by
  cases a with
  | back _ _ _ => cases h
  | fwd hw ha hu hf => cases h; exact ⟨hw, ha, hu, hf⟩
theorem step_in {x y : Nat × Bool} (a : Ahead adj s F x y) {u : Nat} (h : y = (u, true)) : x.1 ≠ s ∧ (∃ u, F x.1 u) ∧ F u x.1 := by
  cases a with
  | back hv ho hp => cases h; exact ⟨hv, ho, hp⟩
  | fwd _ _ _ _ => cases h
/-- A spot of the path that is not s has a step into it. -/
theorem PathW.pred (p : PathW adj s t F P m) {i : Nat} (hi : i ≤ m) (h : (P i).1 ≠ s) : ∃ j, i = j + 1 := by
  cases i with
  | zero => rw [p.start] at h; exact absurd rfl h
  | succ j => exact ⟨j, rfl⟩
/-- Within a node the search is because it came back along its own out-arc. -/
theorem PathW.within (p : PathW adj s t F P m) {i v : Nat} (hi : i ≤ m) (h : P i = (v, true)) (hv : v ≠ s) : ∃ u, F v u ∧ cutW P m v u := by
  obtain ⟨j, rfl⟩ := p.pred hi (by rw [h]; exact hv)
  obtain ⟨_, _, h3⟩ := step_in (p.step j (by omega)) h
  exact ⟨_, h3, j, by omega, h, rfl⟩
/-- Outside a node the search is by a new arc. -/
theorem PathW.outside (p : PathW adj s t F P m) {i v : Nat} (hi : i ≤ m) (h : P i = (v, false)) : ∃ u, addW P m u v := by
  obtain ⟨j, rfl⟩ : ∃ j, i = j + 1 := by
    cases i with
    | zero => rw [p.start] at h; cases h
    | succ j => exact ⟨j, rfl⟩
  exact ⟨_, j, by omega, rfl, h⟩
theorem turn_ok (f : FlW adj s t F) (p : PathW adj s t F P m) : FlW adj s t (turnW F P m) := by
  -- one step out of a spot
  have suc : ∀ i j, i < m → j < m → P i = P j → P (i + 1) = P (j + 1) := fun i j hi hj h => by rw [p.inj i j (by omega) (by omega) h]
  -- an arc that stays, and a new one out of the same node
  have fa : ∀ v u u', v ≠ s → F v u → ¬ cutW P m v u → addW P m v u' → False := by
    rintro v u u' hv hF hc ⟨i, hi, rfl, h⟩
    obtain ⟨h1, _, _, _⟩ := step_out (p.step i hi) h
    have hw := h1 hv ⟨u, hF⟩
    have hP : P i = ((P i).1, true) := by rw [← hw]
    obtain ⟨q, hq, hcq⟩ := p.within (Nat.le_of_lt hi) hP hv
    rw [f.out1 _ u q hv hF hq] at hc
    exact hc hcq
  -- an arc that stays, and a new one into the same node
  have fb : ∀ v v' u, u ≠ t → F v u → ¬ cutW P m v u → addW P m v' u → False := by
    rintro v v' u hu hF hc ⟨i, hi, _, h⟩
    have hus : u ≠ s := fun e => f.ns v (e ▸ hF)
    have hm : i + 1 < m := by
      rcases Nat.lt_or_ge (i + 1) m with h1 | h1
      · exact h1
      · exfalso
        have : i + 1 = m := by omega
        rw [this, p.last] at h
        cases h
        exact hu rfl
    have hs := p.step (i + 1) hm
    have hon := (f.io u hus hu).2 ⟨v, hF⟩
    generalize hz : P (i + 1 + 1) = z at hs
    rw [h] at hs
    cases hs with
    | back _ _ hp =>
      refine hc ⟨i + 1, hm, ?_, by rw [h]⟩
      rw [hz, f.in1 v _ u hu hF hp]
    | fwd hw _ _ _ => cases hw hus hon
  refine ⟨?_, ?_, ?_, ?_, ?_, ?_⟩
  · rintro v u (⟨h, _⟩ | ⟨i, hi, rfl, h⟩)
    · exact f.sub v u h
    · exact (step_out (p.step i hi) h).2.1
  · rintro v (⟨h, _⟩ | ⟨i, hi, _, h⟩)
    · exact f.ns v h
    · exact (step_out (p.step i hi) h).2.2.1 rfl
  · rintro u (⟨h, _⟩ | ⟨i, hi, h1, h⟩)
    · exact f.nt u h
    · exact p.ot i hi h1
  · rintro v u u' hv (⟨h1, h2⟩ | h1) (⟨h3, h4⟩ | h3)
    · exact f.out1 v u u' hv h1 h3
    · exact (fa v u u' hv h1 h2 h3).elim
    · exact (fa v u' u hv h3 h4 h1).elim
    · obtain ⟨i, hi, rfl, a1⟩ := h1
      obtain ⟨j, hj, e, a2⟩ := h3
      by_cases hw : (P i).2 = (P j).2
      · have := suc i j hi hj (Prod.ext e.symm hw)
        rw [a1, a2] at this
        cases this
        rfl
      · exfalso
        obtain ⟨b1, _⟩ := step_out (p.step i hi) a1
        obtain ⟨b2, _⟩ := step_out (p.step j hj) a2
        have on : ∀ k, k < m → (P k).1 = (P i).1 → (P k).2 = true → ∃ u, F (P i).1 u := by
          intro k hk e1 e2
          obtain ⟨q, hq, _⟩ := p.within (v := (P i).1) (Nat.le_of_lt hk) (Prod.ext e1 e2) hv
          exact ⟨q, hq⟩
        cases h5 : (P i).2 with
        | true =>
          have := b2 (by rw [e]; exact hv) (by rw [e]; exact on i hi rfl h5)
          exact hw (by rw [h5, this])
        | false =>
          cases h6 : (P j).2 with
          | true =>
            have := b1 hv (on j hj e h6)
            rw [h5] at this
            cases this
          | false => exact hw (by rw [h5, h6])
  · rintro v v' u hu (⟨h1, h2⟩ | h1) (⟨h3, h4⟩ | h3)
    · exact f.in1 v v' u hu h1 h3
    · exact (fb v v' u hu h1 h2 h3).elim
    · exact (fb v' v u hu h3 h4 h1).elim
    · obtain ⟨i, hi, rfl, a1⟩ := h1
      obtain ⟨j, hj, rfl, a2⟩ := h3
      have := p.inj (i + 1) (j + 1) (by omega) (by omega) (by rw [a1, a2])
      have : i = j := by omega
      rw [this]
  · intro v hv hvt
    constructor
    · rintro ⟨u, ⟨h1, h2⟩ | ⟨i, hi, h1, h2⟩⟩
      · obtain ⟨q, hq⟩ := (f.io v hv hvt).1 ⟨u, h1⟩
        by_cases hc : cutW P m q v
        · obtain ⟨i, hi, c1, c2⟩ := hc
          cases hw : (P i).2 with
          | false =>
            obtain ⟨q', hq'⟩ := p.outside (i := i) (v := v) (Nat.le_of_lt hi) (Prod.ext c2 hw)
            exact ⟨q', .inr hq'⟩
          | true =>
            obtain ⟨q', hq', hcq⟩ := p.within (v := v) (Nat.le_of_lt hi) (Prod.ext c2 hw) hv
            rw [f.out1 v u q' hv h1 hq'] at h2
            exact absurd hcq h2
        · exact ⟨q, .inl ⟨hq, hc⟩⟩
      · cases hw : (P i).2 with
        | false =>
          obtain ⟨q', hq'⟩ := p.outside (i := i) (v := v) (Nat.le_of_lt hi) (Prod.ext h1 hw)
          exact ⟨q', .inr hq'⟩
        | true =>
          obtain ⟨q', hq', _⟩ := p.within (v := v) (Nat.le_of_lt hi) (Prod.ext h1 hw) hv
          obtain ⟨q, hq⟩ := (f.io v hv hvt).1 ⟨q', hq'⟩
          by_cases hc : cutW P m q v
          · obtain ⟨j, hj, c1, c2⟩ := hc
            cases hw2 : (P j).2 with
            | false =>
              obtain ⟨q2, hq2⟩ := p.outside (i := j) (v := v) (Nat.le_of_lt hj) (Prod.ext c2 hw2)
              exact ⟨q2, .inr hq2⟩
            | true =>
              have := suc i j hi hj (Prod.ext (h1.trans c2.symm) (hw.trans hw2.symm))
              rw [h2, c1] at this
              cases this
          · exact ⟨q, .inl ⟨hq, hc⟩⟩
    · rintro ⟨u, ⟨h1, h2⟩ | ⟨i, hi, h1, h2⟩⟩
      · -- an arc into v stays
        obtain ⟨q, hq⟩ := (f.io v hv hvt).2 ⟨u, h1⟩
        by_cases hc : cutW P m v q
        · obtain ⟨i, hi, c1, c2⟩ := hc
          have him : i + 1 < m := by
            rcases Nat.lt_or_ge (i + 1) m with h | h
            · exact h
            · exfalso
              have : i + 1 = m := by omega
              rw [this, p.last] at c1
              cases c1
          have hs := p.step (i + 1) him
          generalize hz : P (i + 1 + 1) = z at hs
          rw [c1] at hs
          cases hs with
          | back _ _ hp =>
            exfalso
            refine h2 ⟨i + 1, him, ?_, by rw [c1]⟩
            rw [hz, f.in1 u _ v hvt h1 hp]
          | @fwd _ u' _ hw ha hu hf => exact ⟨u', .inr ⟨i + 1, him, by rw [c1], hz⟩⟩
        · exact ⟨q, .inl ⟨hq, hc⟩⟩
      · -- a new arc into v
        have him : i + 1 < m := by
          rcases Nat.lt_or_ge (i + 1) m with h | h
          · exact h
          · exfalso
            have : i + 1 = m := by omega
            rw [this, p.last] at h2
            cases h2
            exact hvt rfl
        have hs := p.step (i + 1) him
        generalize hz : P (i + 1 + 1) = z at hs
        rw [h2] at hs
        cases hs with
        | @fwd _ u' _ hw ha hu hf => exact ⟨u', .inr ⟨i + 1, him, by rw [h2], hz⟩⟩
        | @back _ q _ _ ho hp =>
          -- on: v keeps its out-arc, or the search came back along it
          obtain ⟨u', hu'⟩ := ho
          by_cases hc : cutW P m v u'
          · obtain ⟨j, hj, c1, c2⟩ := hc
            have hjm : j + 1 < m := by
              rcases Nat.lt_or_ge (j + 1) m with h | h
              · exact h
              · exfalso
                have : j + 1 = m := by omega
                rw [this, p.last] at c1
                cases c1
            have hs2 := p.step (j + 1) hjm
            generalize hz2 : P (j + 1 + 1) = z2 at hs2
            rw [c1] at hs2
            cases hs2 with
            | @fwd _ u2 _ hw ha hu hf => exact ⟨u2, .inr ⟨j + 1, hjm, by rw [c1], hz2⟩⟩
            | @back _ q2 _ _ ho2 hp2 =>
              exfalso
              have e := f.in1 q q2 v hvt hp hp2
              have := p.inj (i + 1 + 1) (j + 1 + 1) (by omega) (by omega) (by rw [hz, hz2, e])
              have : P (i + 1) = P (j + 1) := by rw [show i + 1 = j + 1 by omega]
              rw [h2, c1] at this
              cases this
          · exact ⟨u', .inl ⟨hu', hc⟩⟩
/-- Out of s there is one arc more. -/
theorem turn_first (p : PathW adj s t F P m) : ∃ u0, ¬ F s u0 ∧ adj s u0 ∧ u0 ≠ s ∧ ∀ u, turnW F P m s u ↔ F s u ∨ u = u0 := by
  have hm : 0 < m := by
    rcases Nat.eq_zero_or_pos m with h | h
    · have := p.last
      rw [h, p.start] at this
      cases this
    · exact h
  have hs := p.step 0 hm
  generalize hz : P (0 + 1) = z at hs
  rw [p.start] at hs
  cases hs with
  | back hv _ _ => exact absurd rfl hv
  | @fwd _ u0 _ hw ha hu hf =>
    refine ⟨u0, hf, ha, hu, fun u => ⟨?_, ?_⟩⟩
    · rintro (⟨h, _⟩ | ⟨i, hi, h1, h2⟩)
      · exact .inl h
      · right
        cases i with
        | zero => rw [hz] at h2; cases h2; rfl
        | succ i => exact absurd h1 (p.os (i + 1) (by omega) (by omega))
    · rintro (h | rfl)
      · left
        refine ⟨h, ?_⟩
        rintro ⟨i, hi, c1, _⟩
        exact p.os (i + 1) (by omega) (by omega) (by rw [c1])
      · exact .inr ⟨0, hm, by rw [p.start], hz⟩
end
end Go.AM
end

section
namespace Go.AM
/-- What a search has reached that came to its end. -/
structure EndW (adj : Nat → Nat → Prop) (s t : Nat) (F : Nat → Nat → Prop) (R : Nat × Bool → Prop) : Prop where
  start : R (s, true)
  go : ∀ x y, R x → Ahead adj s F x y → y.1 ≠ s → R y
  by_ : ∀ x, R x → x = (s, true) ∨ ∃ y, R y ∧ Ahead adj s F y x
  no : ¬ R (t, false)
section
variable {adj : Nat → Nat → Prop} {s t : Nat} {F : Nat → Nat → Prop} {R : Nat × Bool → Prop}
/-- Nodes that the search can go through. -/
def Passed (s : Nat) (F : Nat → Nat → Prop) (R : Nat × Bool → Prop) (v : Nat) : Prop := v = s ∨ R (v, true) ∨ (R (v, false) ∧ ¬ ∃ u, F v u)
def Front (s : Nat) (F : Nat → Nat → Prop) (R : Nat × Bool → Prop) (u : Nat) : Prop := R (u, false) ∨ ∃ v, F v u ∧ Passed s F R v
/-- The nodes that part s and t. -/
def CutN (s t : Nat) (F : Nat → Nat → Prop) (R : Nat × Bool → Prop) (v : Nat) : Prop := v ≠ s ∧ v ≠ t ∧ (∃ u, F v u) ∧ Front s F R v ∧ ¬ R (v, true)
theorem EndW.not_t (e : EndW adj s t F R) (f : FlW adj s t F) (hst : s ≠ t) (w : Bool) : ¬ R (t, w) := by
  cases w with
  | false => exact e.no
  | true =>
    intro h
    rcases e.by_ _ h with h | ⟨y, _, ha⟩
    · cases h; exact hst rfl
    · exact f.nt _ (step_in ha rfl).2.2
theorem EndW.fwd (e : EndW adj s t F R) {v u : Nat} (hp : Passed s F R v) (ha : adj v u) (hu : u ≠ s) (hf : ¬ F v u) : R (u, false) := by
  rcases hp with rfl | h | ⟨h, hn⟩
  · exact e.go _ _ e.start (.fwd (fun h => absurd rfl h) ha hu hf) hu
  · exact e.go _ _ h (.fwd (fun _ _ => rfl) ha hu hf) hu
  · exact e.go _ _ h (.fwd (fun _ h2 => absurd h2 hn) ha hu hf) hu
/-- Nobody who is passed is a neighbour of t, but s where the edge itself is a way. -/
theorem EndW.last (e : EndW adj s t F R) (f : FlW adj s t F) (hst : s ≠ t) {v : Nat} (hp : Passed s F R v) (ha : adj v t) : v = s ∧ F s t := by
  by_cases hf : F v t
  · by_cases hv : v = s
    · subst hv; exact ⟨rfl, hf⟩
    · exfalso
      have hR : R (v, true) := by
        rcases hp with h | h | ⟨_, h⟩
        · exact absurd h hv
        · exact h
        · exact absurd ⟨t, hf⟩ h
      rcases e.by_ _ hR with h | ⟨y, hy, hay⟩
      · cases h; exact hv rfl
      · obtain ⟨_, _, h3⟩ := step_in hay rfl
        have := f.out1 v _ _ hv h3 hf
        obtain ⟨y1, w⟩ := y
        simp only at this
        subst this
        exact e.not_t f hst w hy
  · exact absurd (e.fwd hp ha (Ne.symm hst) hf) e.no
/-- The first who is not passed parts. -/
theorem EndW.first (e : EndW adj s t F R) (f : FlW adj s t F) {v u : Nat} (hp : Passed s F R v) (ha : adj v u) (hus : u ≠ s) (hut : u ≠ t) (hn : ¬ Passed s F R u) : CutN s t F R u := by
  have hR : ¬ R (u, true) := fun h => hn (.inr (.inl h))
  by_cases hf : F v u
  · exact ⟨hus, hut, (f.io u hus hut).2 ⟨v, hf⟩, .inr ⟨v, hf, hp⟩, hR⟩
  · have h := e.fwd hp ha hus hf
    refine ⟨hus, hut, ?_, .inl h, hR⟩
    exact Classical.byContradiction fun h2 => hn (.inr (.inr ⟨h, h2⟩))
/-- Before one that is reached within there is one that is reached within, or s; and it is in front. -/
theorem EndW.front (e : EndW adj s t F R) (f : FlW adj s t F) {v : Nat} (hv : v ≠ s) (hvt : v ≠ t) (h : R (v, true)) : (∃ u, F v u ∧ u ≠ t) ∧ ∃ p, F p v ∧ (p = s ∨ R (p, true)) := by
  rcases e.by_ _ h with h2 | ⟨y, hy, ha⟩
  · cases h2; exact absurd rfl hv
  · obtain ⟨h1, h2, h3⟩ := step_in ha rfl
    have hyt : y.1 ≠ t := fun e' => by
      rw [e'] at h2
      obtain ⟨u, hu⟩ := h2
      exact f.nt u hu
    refine ⟨⟨_, h3, hyt⟩, ?_⟩
    obtain ⟨p, hp⟩ := (f.io v hv hvt).1 ⟨_, h3⟩
    refine ⟨p, hp, ?_⟩
    by_cases hps : p = s
    · exact .inl hps
    · exact .inr (e.go _ _ h (.back hv ⟨_, h3⟩ hp) hps)
/-- Who is in front and on a way is behind s, or behind one that is reached within; and the other way round. -/
theorem EndW.front_iff (e : EndW adj s t F R) (f : FlW adj s t F) {u : Nat} (hus : u ≠ s) (hut : u ≠ t) (hon : ∃ x, F u x) : Front s F R u ↔ F s u ∨ ∃ v, v ≠ s ∧ R (v, true) ∧ F v u := by
  constructor
  · rintro (h | ⟨v, hv, hp⟩)
    · obtain ⟨p, hp⟩ := (f.io u hus hut).1 hon
      by_cases hps : p = s
      · subst hps; exact .inl hp
      · exact .inr ⟨p, hps, e.go _ _ h (.back hus hon hp) hps, hp⟩
    · rcases hp with rfl | h | ⟨_, h⟩
      · exact .inl hv
      · by_cases hvs : v = s
        · subst hvs; exact .inl hv
        · exact .inr ⟨v, hvs, h, hv⟩
      · exact absurd ⟨u, hv⟩ h
  · rintro (h | ⟨v, _, h, hv⟩)
    · exact .inr ⟨s, h, .inl rfl⟩
    · exact .inr ⟨v, hv, .inr (.inl h)⟩
/-- Who is reached within is in front. -/
theorem EndW.within_front (e : EndW adj s t F R) (f : FlW adj s t F) {v : Nat} (hv : v ≠ s) (hvt : v ≠ t) (h : R (v, true)) : Front s F R v := by
  obtain ⟨⟨u, hu, _⟩, p, hp, hp2⟩ := e.front f hv hvt h
  refine .inr ⟨p, hp, ?_⟩
  rcases hp2 with rfl | h2
  · exact .inl rfl
  · exact .inr (.inl h2)
end
end Go.AM
end

section
namespace Go.AM
open Classical in
/-- How many nodes are so. -/
noncomputable def cntN (n : Nat) (p : Nat → Prop) : Nat := (List.range n).countP fun i => decide (p i)
theorem nodup_leN : ∀ {l m : List Nat}, l.Nodup → (∀ x ∈ l, x ∈ m) → l.length ≤ m.length := by
  intro l
  induction l with
  | nil => intro m _ _; exact Nat.zero_le _
  | cons x l ih =>
    intro m hn h
    rw [List.nodup_cons] at hn
    have hx := h x List.mem_cons_self
    have := ih (m := m.erase x) hn.2 fun y hy => by
      have hne : y ≠ x := by rintro rfl; exact hn.1 hy
      exact (List.mem_erase_of_ne hne).2 (h y (List.mem_cons_of_mem _ hy))
    rw [List.length_erase_of_mem hx] at this
    have := List.length_pos_of_mem hx
    simp only [List.length_cons]
    omega
open Classical in
theorem cnt_inj {n : Nat} {p q : Nat → Prop} (f : Nat → Nat) (hf : ∀ i, i < n → p i → f i < n ∧ q (f i)) (hi : ∀ i j, p i → p j → f i = f j → i = j) : cntN n p ≤ cntN n q := by
  unfold cntN
  rw [List.countP_eq_length_filter, List.countP_eq_length_filter, ← List.length_map (f := f)]
  refine nodup_leN ?_ ?_
  · rw [List.nodup_iff_pairwise_ne, List.pairwise_map]
    have h1 : ((List.range n).filter fun i => decide (p i)).Nodup := List.nodup_range.filter _
    rw [List.nodup_iff_pairwise_ne] at h1
    refine h1.imp_of_mem fun {a b} ha hb hab e => hab ?_
    have ha2 := (List.mem_filter.1 ha).2
    have hb2 := (List.mem_filter.1 hb).2
    exact hi a b (by simpa using ha2) (by simpa using hb2) e
  · intro x hx
    obtain ⟨i, hi', rfl⟩ := List.mem_map.1 hx
    obtain ⟨h1, h2⟩ := List.mem_filter.1 hi'
    obtain ⟨h3, h4⟩ := hf i (List.mem_range.1 h1) (by simpa using h2)
    exact List.mem_filter.2 ⟨List.mem_range.2 h3, by simpa using h4⟩
open Classical in
theorem cnt_split (n : Nat) (p q : Nat → Prop) : cntN n p = cntN n (fun i => p i ∧ q i) + cntN n (fun i => p i ∧ ¬ q i) := by
  unfold cntN
  generalize List.range n = l
  induction l with
  | nil => rfl
  | cons x l ih =>
    simp only [List.countP_cons, ih]
    by_cases h1 : p x <;> by_cases h2 : q x <;> simp [h1, h2] <;> omega
open Classical in
theorem cnt_congr {n : Nat} {p q : Nat → Prop} (h : ∀ i, i < n → (p i ↔ q i)) : cntN n p = cntN n q := by
  unfold cntN
  refine List.countP_congr fun i hi => ?_
  have := h i (List.mem_range.1 hi)
  simp only [decide_eq_true_eq]
  exact this
section
variable {adj : Nat → Nat → Prop} {s t : Nat} {F : Nat → Nat → Prop} {R : Nat × Bool → Prop}
/-- As many nodes part s and t as_ there are ways besides the edge. -/
theorem EndW.count (e : EndW adj s t F R) (f : FlW adj s t F) (hst : s ≠ t) {n : Nat} (hn : ∀ v u, adj v u → v < n ∧ u < n) : cntN n (CutN s t F R) = cntN n (fun u => F s u ∧ u ≠ t) := by
  have hB := cnt_split n (fun u => u ≠ s ∧ u ≠ t ∧ (∃ x, F u x) ∧ Front s F R u) (fun u => F s u)
  have hB' := cnt_split n (fun u => u ≠ s ∧ u ≠ t ∧ (∃ x, F u x) ∧ Front s F R u) (fun u => R (u, true))
  have hA : cntN n (fun u => (u ≠ s ∧ u ≠ t ∧ (∃ x, F u x) ∧ Front s F R u) ∧ R (u, true)) = cntN n (fun u => u ≠ s ∧ R (u, true)) := by
    refine cnt_congr fun u _ => ⟨fun h => ⟨h.1.1, h.2⟩, fun h => ?_⟩
    have hut : u ≠ t := fun e' => e.not_t f hst true (e' ▸ h.2)
    obtain ⟨⟨x, hx, _⟩, _⟩ := e.front f h.1 hut h.2
    exact ⟨⟨h.1, hut, ⟨x, hx⟩, e.within_front f h.1 hut h.2⟩, h.2⟩
  have hC : cntN n (fun u => (u ≠ s ∧ u ≠ t ∧ (∃ x, F u x) ∧ Front s F R u) ∧ ¬ R (u, true)) = cntN n (CutN s t F R) :=
    cnt_congr fun u _ => ⟨fun h => ⟨h.1.1, h.1.2.1, h.1.2.2.1, h.1.2.2.2, h.2⟩, fun h => ⟨⟨h.1, h.2.1, h.2.2.1, h.2.2.2.1⟩, h.2.2.2.2⟩⟩
  have hB1 : cntN n (fun u => (u ≠ s ∧ u ≠ t ∧ (∃ x, F u x) ∧ Front s F R u) ∧ F s u) = cntN n (fun u => F s u ∧ u ≠ t) := by
    refine cnt_congr fun u _ => ⟨fun h => ⟨h.2, h.1.2.1⟩, fun h => ?_⟩
    have hus : u ≠ s := fun e' => f.ns s (e' ▸ h.1)
    exact ⟨⟨hus, h.2, (f.io u hus h.2).2 ⟨s, h.1⟩, .inr ⟨s, h.1, .inl rfl⟩⟩, h.1⟩
  have hB2 : cntN n (fun u => (u ≠ s ∧ u ≠ t ∧ (∃ x, F u x) ∧ Front s F R u) ∧ ¬ F s u) = cntN n (fun u => u ≠ s ∧ R (u, true)) := by
    classical
    refine Nat.le_antisymm ?_ ?_
    · -- from each the node ahead of it
      refine cnt_inj (fun u => if h : ∃ v, v ≠ s ∧ R (v, true) ∧ F v u then h.choose else 0) (fun u _ h => ?_) (fun u u' h h' he => ?_)
      · have hx : ∃ v, v ≠ s ∧ R (v, true) ∧ F v u := ((e.front_iff f h.1.1 h.1.2.1 h.1.2.2.1).1 h.1.2.2.2).resolve_left h.2
        simp only [dif_pos hx]
        obtain ⟨a, b, c⟩ := hx.choose_spec
        exact ⟨(hn _ _ (f.sub _ _ c)).1, a, b⟩
      · have hx : ∃ v, v ≠ s ∧ R (v, true) ∧ F v u := ((e.front_iff f h.1.1 h.1.2.1 h.1.2.2.1).1 h.1.2.2.2).resolve_left h.2
        have hx' : ∃ v, v ≠ s ∧ R (v, true) ∧ F v u' := ((e.front_iff f h'.1.1 h'.1.2.1 h'.1.2.2.1).1 h'.1.2.2.2).resolve_left h'.2
        simp only [dif_pos hx, dif_pos hx'] at he
        obtain ⟨a, b, c⟩ := hx.choose_spec
        obtain ⟨_, _, c'⟩ := hx'.choose_spec
        rw [← he] at c'
        exact f.out1 _ _ _ a c c'
    · -- from each the next node
      have key : ∀ v, v ≠ s → R (v, true) → ∃ u, F v u ∧ u ≠ t := fun v hv h => (e.front f hv (fun e' => e.not_t f hst true (e' ▸ h)) h).1
      refine cnt_inj (fun v => if h : ∃ u, F v u ∧ u ≠ t then h.choose else 0) (fun v _ h => ?_) (fun v v' h h' he => ?_)
      · have hx := key v h.1 h.2
        simp only [dif_pos hx]
        obtain ⟨a, b⟩ := hx.choose_spec
        have hus : hx.choose ≠ s := fun e' => f.ns v (e' ▸ a)
        have hon := (f.io _ hus b).2 ⟨v, a⟩
        refine ⟨(hn _ _ (f.sub _ _ a)).2, ⟨hus, b, hon, (e.front_iff f hus b hon).2 (.inr ⟨v, h.1, h.2, a⟩)⟩, fun hs => ?_⟩
        exact h.1 (f.in1 _ _ _ b a hs)
      · have hx := key v h.1 h.2
        have hx' := key v' h'.1 h'.2
        simp only [dif_pos hx, dif_pos hx'] at he
        obtain ⟨a, b⟩ := hx.choose_spec
        obtain ⟨a', _⟩ := hx'.choose_spec
        rw [← he] at a'
        exact f.in1 _ _ _ b a a'
  omega
end
end Go.AM
end

section
namespace Go.AM
/-- A walk: from a node along these. -/
def chainA (adj : Nat → Nat → Prop) : Nat → List Nat → Nat → Prop
  | v, [], t => v = t
  | v, u :: w, t => adj v u ∧ chainA adj u w t
section
variable {adj : Nat → Nat → Prop} {s t : Nat} {F : Nat → Nat → Prop} {R : Nat × Bool → Prop}
/-- A walk from s to t meets a node that parts, or begins with the edge, which is a way. -/
theorem EndW.meets (e : EndW adj s t F R) (f : FlW adj s t F) (hst : s ≠ t) : ∀ (w : List Nat) (v : Nat), Passed s F R v → v ≠ t → chainA adj v w t → (∀ x ∈ w, x ≠ s) → (∃ x ∈ w, CutN s t F R x) ∨ (v = s ∧ F s t ∧ w.head? = some t) := by
  intro w
  induction w with
  | nil => intro v _ hv h _; exact absurd h hv
  | cons u w ih =>
    intro v hp hv h hw
    obtain ⟨ha, hc⟩ := h
    have hus := hw u List.mem_cons_self
    by_cases hut : u = t
    · subst hut
      obtain ⟨h1, h2⟩ := e.last f hst hp ha
      exact .inr ⟨h1, h2, rfl⟩
    · by_cases hpu : Passed s F R u
      · rcases ih u hpu hut hc (fun x hx => hw x (List.mem_cons_of_mem _ hx)) with ⟨x, hx, h1⟩ | ⟨h1, _⟩
        · exact .inl ⟨x, List.mem_cons_of_mem _ hx, h1⟩
        · exact absurd h1 hus
      · exact .inl ⟨u, List.mem_cons_self, e.first f hp ha hus hut hpu⟩
/-- Behind a node that is on a way, so many steps on, unless t comes first. -/
theorem FlW.chain (f : FlW adj s t F) : ∀ (k u : Nat), u ≠ s → (u = t ∨ ∃ x, F x u) → (∃ w, chainA F u w t ∧ w.length ≤ k) ∨ ∃ (w : List Nat) (y : Nat), chainA F u w y ∧ y ≠ t ∧ y ≠ s ∧ w.length = k ∧ ∃ x, F x y := by
  intro k
  induction k with
  | zero =>
    intro u hus hu
    by_cases h : u = t
    · exact .inl ⟨[], h, Nat.le_refl _⟩
    · exact .inr ⟨[], u, rfl, h, hus, rfl, hu.resolve_left h⟩
  | succ k ih =>
    intro u hus hu
    by_cases h : u = t
    · exact .inl ⟨[], h, Nat.zero_le _⟩
    · obtain ⟨x, hx⟩ := (f.io u hus h).2 (hu.resolve_left h)
      have hxs : x ≠ s := fun e => f.ns u (e ▸ hx)
      rcases ih x hxs (.inr ⟨u, hx⟩) with ⟨w, h1, h2⟩ | ⟨w, y, h1, h2, h3, h4, h5⟩
      · exact .inl ⟨x :: w, ⟨hx, h1⟩, by simp only [List.length_cons]; omega⟩
      · exact .inr ⟨x :: w, y, ⟨hx, h1⟩, h2, h3, by simp only [List.length_cons]; omega, h5⟩
end
end Go.AM
end

section
namespace Go.AM
section
variable {s t : Nat} {F adj : Nat → Nat → Prop}
theorem chain_get : ∀ (w : List Nat) (u y : Nat), chainA F u w y → ∀ (k a b : Nat), (u :: w)[k]? = some a → (u :: w)[k + 1]? = some b → F a b := by
  intro w
  induction w with
  | nil => intro u y _ k a b _ hb; simp at hb
  | cons x w ih =>
    intro u y h k a b ha hb
    cases k with
    | zero =>
      simp at ha hb
      subst ha; subst hb
      exact h.1
    | succ k =>
      rw [List.getElem?_cons_succ] at ha hb
      exact ih x y h.2 k a b ha hb
theorem FlW.away (f : FlW adj s t F) {u y : Nat} {w : List Nat} (hu : F s u) (h : chainA F u w y) : ∀ (i j a : Nat), i < j → (u :: w)[i]? = some a → (u :: w)[j]? = some a → False := by
  have nos : ∀ (k a : Nat), (u :: w)[k]? = some a → a ≠ s := by
    intro k a hk e
    subst e
    cases k with
    | zero => simp at hk; subst hk; exact f.ns _ hu
    | succ k =>
      obtain ⟨b, hb⟩ : ∃ b, (u :: w)[k]? = some b := ⟨_, List.getElem?_eq_getElem (by have := (List.getElem?_eq_some_iff.1 hk).1; omega)⟩
      exact f.ns _ (chain_get w u y h k b _ hb hk)
  have not : ∀ (i j a b : Nat), i < j → (u :: w)[i]? = some a → (u :: w)[j]? = some b → a ≠ t := by
    intro i j a b hij ha hb e
    subst e
    obtain ⟨c, hc⟩ : ∃ c, (u :: w)[i + 1]? = some c := ⟨_, List.getElem?_eq_getElem (by have := (List.getElem?_eq_some_iff.1 hb).1; omega)⟩
    exact f.nt _ (chain_get w u y h i _ c ha hc)
  intro i
  induction i with
  | zero =>
    intro j a hij ha hb
    have hat := not 0 j a a hij ha hb
    simp at ha
    subst ha
    obtain ⟨j, rfl⟩ : ∃ j', j = j' + 1 := ⟨j - 1, by omega⟩
    obtain ⟨p, hp⟩ : ∃ p, (u :: w)[j]? = some p := ⟨_, List.getElem?_eq_getElem (by have := (List.getElem?_eq_some_iff.1 hb).1; omega)⟩
    exact nos j p hp (f.in1 _ _ _ hat (chain_get w u y h j p _ hp hb) hu)
  | succ i ih =>
    intro j a hij ha hb
    have hat := not (i + 1) j a a hij ha hb
    obtain ⟨j, rfl⟩ : ∃ j', j = j' + 1 := ⟨j - 1, by omega⟩
    obtain ⟨p, hp⟩ : ∃ p, (u :: w)[i]? = some p := ⟨_, List.getElem?_eq_getElem (by have := (List.getElem?_eq_some_iff.1 ha).1; omega)⟩
    obtain ⟨q, hq⟩ : ∃ q, (u :: w)[j]? = some q := ⟨_, List.getElem?_eq_getElem (by have := (List.getElem?_eq_some_iff.1 hb).1; omega)⟩
    have := f.in1 _ _ _ hat (chain_get w u y h i p _ hp ha) (chain_get w u y h j q _ hq hb)
    subst this
    exact ih j p (by omega) hp hq
/-- A way's nodes are all different. -/
theorem FlW.way_nodup (f : FlW adj s t F) {u y : Nat} {w : List Nat} (hu : F s u) (h : chainA F u w y) : (u :: w).Nodup := by
  rw [List.nodup_iff_pairwise_ne, List.pairwise_iff_getElem]
  intro i j hi hj hij e
  exact f.away hu h i j _ hij (List.getElem?_eq_getElem hi) (by rw [List.getElem?_eq_getElem hj, e])
/-- Two ways with a node in common, other than t, begin alike. -/
theorem FlW.ways_apart (f : FlW adj s t F) {u u' y y' : Nat} {w w' : List Nat} (hu : F s u) (hu' : F s u') (h : chainA F u w y) (h' : chainA F u' w' y') : ∀ (i j a : Nat), (u :: w)[i]? = some a → (u' :: w')[j]? = some a → a ≠ t → u = u' := by
  have nos : ∀ (u y : Nat) (w : List Nat), F s u → chainA F u w y → ∀ (k a : Nat), (u :: w)[k]? = some a → a ≠ s := by
    intro u y w hu h k a hk e
    subst e
    cases k with
    | zero => simp at hk; subst hk; exact f.ns _ hu
    | succ k =>
      obtain ⟨b, hb⟩ : ∃ b, (u :: w)[k]? = some b := ⟨_, List.getElem?_eq_getElem (by have := (List.getElem?_eq_some_iff.1 hk).1; omega)⟩
      exact f.ns _ (chain_get w u y h k b _ hb hk)
  intro i
  induction i with
  | zero =>
    intro j a ha hb hat
    simp at ha
    subst ha
    cases j with
    | zero => simp at hb; exact hb.symm
    | succ j =>
      exfalso
      obtain ⟨q, hq⟩ : ∃ q, (u' :: w')[j]? = some q := ⟨_, List.getElem?_eq_getElem (by have := (List.getElem?_eq_some_iff.1 hb).1; omega)⟩
      exact nos u' y' w' hu' h' j q hq (f.in1 _ _ _ hat (chain_get w' u' y' h' j q _ hq hb) hu)
  | succ i ih =>
    intro j a ha hb hat
    obtain ⟨p, hp⟩ : ∃ p, (u :: w)[i]? = some p := ⟨_, List.getElem?_eq_getElem (by have := (List.getElem?_eq_some_iff.1 ha).1; omega)⟩
    have hpa := chain_get w u y h i p _ hp ha
    have hpt : p ≠ t := fun e => f.nt _ (e ▸ hpa)
    cases j with
    | zero =>
      exfalso
      simp at hb
      subst hb
      exact nos u y w hu h i p hp (f.in1 _ _ _ hat hpa hu')
    | succ j =>
      obtain ⟨q, hq⟩ : ∃ q, (u' :: w')[j]? = some q := ⟨_, List.getElem?_eq_getElem (by have := (List.getElem?_eq_some_iff.1 hb).1; omega)⟩
      have := f.in1 _ _ _ hat hpa (chain_get w' u' y' h' j q _ hq hb)
      subst this
      exact ih j p hp hq hpt
end
end Go.AM
end

section
namespace Go.AM
section
variable {adj : Nat → Nat → Prop} {s t : Nat} {F : Nat → Nat → Prop}
theorem chain_lt {n : Nat} (f : FlW adj s t F) (hn : ∀ v u, adj v u → v < n ∧ u < n) : ∀ (w : List Nat) (u y : Nat), u < n → chainA F u w y → ∀ x ∈ u :: w, x < n := by
  intro w
  induction w with
  | nil => intro u y hu _ x hx; rw [List.mem_singleton.1 hx]; exact hu
  | cons z w ih =>
    intro u y hu h x hx
    rcases List.mem_cons.1 hx with rfl | hx
    · exact hu
    · exact ih z y (hn _ _ (f.sub _ _ h.1)).2 h.2 x hx
/-- A way comes to t. -/
theorem FlW.way (f : FlW adj s t F) {n : Nat} (hn : ∀ v u, adj v u → v < n ∧ u < n) {u : Nat} (hu : F s u) : ∃ w, chainA F u w t ∧ w.length ≤ n := by
  have hus : u ≠ s := fun e => f.ns s (e ▸ hu)
  have hon : u = t ∨ ∃ x, F x u := .inr ⟨s, hu⟩
  rcases f.chain n u hus hon with h | ⟨w, y, h, _, _, hl, _⟩
  · exact h
  · exfalso
    have hnd := f.way_nodup hu h
    have := nodup_leN (m := List.range n) hnd fun x hx => List.mem_range.2 (chain_lt f hn w u y (hn _ _ (f.sub _ _ hu)).2 h x hx)
    rw [List.length_range, List.length_cons] at this
    omega
theorem chain_sub (f : FlW adj s t F) : ∀ (w : List Nat) (u y : Nat), chainA F u w y → chainA adj u w y := by
  intro w
  induction w with
  | nil => intro u y h; exact h
  | cons z w ih => intro u y h; exact ⟨f.sub _ _ h.1, ih z y h.2⟩
/-- A set without s and t that meets each walk from s to t: it has as_ many nodes as_ there are ways. -/
theorem FlW.le_cut (f : FlW adj s t F) {n : Nat} (hn : ∀ v u, adj v u → v < n ∧ u < n) {X : Nat → Prop} (hX : ∀ w, chainA adj s w t → ∃ x ∈ w, X x) (hXt : ¬ X t) : cntN n (F s) ≤ cntN n X := by
  classical
  have key : ∀ u, F s u → ∃ x w, chainA F u w t ∧ x ∈ u :: w ∧ X x := by
    intro u hu
    obtain ⟨w, h, _⟩ := f.way hn hu
    obtain ⟨x, hx, hXx⟩ := hX (u :: w) ⟨f.sub _ _ hu, chain_sub f w u t h⟩
    exact ⟨x, w, h, hx, hXx⟩
  refine cnt_inj (fun u => if h : ∃ x w, chainA F u w t ∧ x ∈ u :: w ∧ X x then h.choose else 0) (fun u _ h => ?_) (fun u u' h h' he => ?_)
  · have hx := key u h
    simp only [dif_pos hx]
    obtain ⟨w, h1, h2, h3⟩ := hx.choose_spec
    exact ⟨chain_lt f hn w u t (hn _ _ (f.sub _ _ h)).2 h1 _ h2, h3⟩
  · have hx := key u h
    have hx' := key u' h'
    simp only [dif_pos hx, dif_pos hx'] at he
    obtain ⟨w, h1, h2, h3⟩ := hx.choose_spec
    obtain ⟨w', h1', h2', _⟩ := hx'.choose_spec
    obtain ⟨i, hi⟩ := List.mem_iff_getElem?.1 h2
    obtain ⟨j, hj⟩ := List.mem_iff_getElem?.1 h2'
    rw [← he] at hj
    exact f.ways_apart h h' h1 h1' i j _ hi hj fun e => hXt (e ▸ h3)
end
end Go.AM
end

section
namespace Go.AM
open Go.Proofs
noncomputable def f38 (_rec : Rec) (_k : Nat) (v0 : Value) (h0 : H) : Option (Value × H) :=
 eqv Tryd.prog 23 v0 (.slice none 0 0) fun q0 =>
 ifB q0 (
 some ((.slice none 0 0), h0)) (
 bls Tryd.prog h0 23 0 [] fun v1 h1 =>
 app Tryd.prog h1 23 23 v1 v0 fun v2 h2 =>
 some (v2, h2))
theorem e38 (rec : Rec) (k : Nat) (v0 : Value) (h : H) : bodyT Tryd.prog E0 SC (XC Tryd.prog rec k) 38 (Value × H) [.opq v0] h (fun v h => some (v, h)) = f38 rec k v0 h := by kernel_rfl
theorem t38 {k : Nat} {v0 : Value} {h h1 : H} {v : Value} (hh : f38 rn k v0 h = some (v, h1)) : rn 38 #[v0] h = some (v, trunc Tryd.prog h h1 v) :=
  run_of_bodyT (args := [.opq v0]) rfl ((e38 _ _ _ _).trans hh)
theorem x38 {k : Nat} {v0 : Value} {h h1 : H} {v : Value} (hh : f38 rn k v0 h = some (v, h1)) (hp : plainO v = false) : ∃ h2, rn 38 #[v0] h = some (v, h2) ∧ Sm h1 h2 ∧ (Ext h h1 → Exw h h2) := trunc_cell hp (t38 hh)
noncomputable def f36_l2 (_rec : Rec) (_k : Nat) (v0 : Value) (n0 : Int) (ws0 : List Value) (n4 : Int) (ws1 : List Value) (h2 : H) : Option (Ex × List Value × H) :=
 asI .i64 (gv ws1 2) fun n6 =>
 ifB (lt n6 n0) (
 asK (gv ws1 2) fun n7 =>
 nn n7 (
 asK (gv ws1 2) fun n8 =>
 six v0 n8 1 fun b2 b3 =>
 ld Tryd.prog h2 3 b2 b3 fun v2 =>
 asI .i64 v2 fun n9 =>
 asK (gv ws0 2) fun n10 =>
 nn n10 (
 ifB (not (eq (and .i64 (shr .i64 n4 n7) 1) (and .i64 (shr .i64 n9 n10) 1))) (
 out .ret [(.slice none 0 0), (.bool false), gv ws1 2] h2) (
 asI .i64 (gv ws1 2) fun n11 =>
 out .normal [gv ws1 0, gv ws1 1, (.int .i64 (add .i64 n11 1))] h2)))) (
 out (.exit 2) [gv ws1 0, gv ws1 1, gv ws1 2] h2)
noncomputable def f36_l1 (rec : Rec) (k : Nat) (v0 : Value) (n0 : Int) (n1 : Int) (ws0 : List Value) (h1 : H) : Option (Ex × List Value × H) :=
 asI .i64 (gv ws0 2) fun n2 =>
 ifB (lt n2 n1) (
 asK (gv ws0 2) fun n3 =>
 six v0 n3 1 fun b0 b1 =>
 ld Tryd.prog h1 3 b0 b1 fun v1 =>
 asI .i64 v1 fun n4 =>
 ifB (lt n4 0) (
 out .ret [(.slice none 0 0), (.bool false), gv ws0 2] h1) (
 nn n0 (
 ifB (le (shl .i64 1 n0) n4) (
 out .ret [(.slice none 0 0), (.bool false), gv ws0 2] h1) (
 asK (gv ws0 2) fun n5 =>
 nn n5 (
 ifB (eq (and .i64 (shr .i64 n4 n5) 1) 1) (
 out .ret [(.slice none 0 0), (.bool false), gv ws0 2] h1) (
 lp k (f36_l2 rec k v0 n0 ws0 n4) [gv ws0 0, gv ws0 1, (.int .i64 0)] h1 fun e0 ws2 h3 =>
 onE e0 2 (
 asI .i64 (gv ws0 2) fun n12 =>
 out .normal [gv ws2 0, gv ws2 1, (.int .i64 (add .i64 n12 1))] h3) (
 onR e0 (
 out .ret [gv ws2 0, gv ws2 1, gv ws0 2] h3)))))))) (
 out (.exit 0) [gv ws0 0, gv ws0 1, gv ws0 2] h1)
noncomputable def f36 (rec : Rec) (k : Nat) (v0 : Value) (h0 : H) : Option (Value × H) :=
 len v0 fun n0 =>
 ifB (lt n0 1) (
 some ((.tuple #[(.slice none 0 0), (.bool false)]), h0)) (
 ifB (lt 10 n0) (
 some ((.tuple #[(.slice none 0 0), (.bool false)]), h0)) (
 len v0 fun n1 =>
 lp k (f36_l1 rec k v0 n0 n1) [(.slice none 0 0), (.bool false), (.int .i64 0)] h0 fun e1 ws3 h4 =>
 onE e1 0 (
 some ((.tuple #[v0, (.bool true)]), h4)) (
 onR e1 (
 some ((.tuple #[gv ws3 0, gv ws3 1]), h4)))))
theorem e36 (rec : Rec) (k : Nat) (v0 : Value) (h : H) : bodyT Tryd.prog E0 SC (XC Tryd.prog rec k) 36 (Value × H) [.opq v0] h (fun v h => some (v, h)) = f36 rec k v0 h := by kernel_rfl
theorem t36 {k : Nat} {v0 : Value} {h h1 : H} {v : Value} (hh : f36 rn k v0 h = some (v, h1)) : rn 36 #[v0] h = some (v, trunc Tryd.prog h h1 v) :=
  run_of_bodyT (args := [.opq v0]) rfl ((e36 _ _ _ _).trans hh)
theorem y36 {k : Nat} {v0 : Value} {h : H} {v : Value} (hh : f36 rn k v0 h = some (v, h)) : rn 36 #[v0] h = some (v, h) := by rw [t36 hh, trunc_self]
noncomputable def f43 (_rec : Rec) (_k : Nat) (v0 : Value) (h0 : H) : Option (Value × H) :=
 len v0 fun n0 =>
 nn n0 (
 some ((.int .i64 (sub .i64 (shl .i64 1 n0) 1)), h0))
theorem e43 (rec : Rec) (k : Nat) (v0 : Value) (h : H) : bodyT Tryd.prog E0 SC (XC Tryd.prog rec k) 43 (Value × H) [.opq v0] h (fun v h => some (v, h)) = f43 rec k v0 h := by kernel_rfl
theorem t43 {k : Nat} {v0 : Value} {h h1 : H} {v : Value} (hh : f43 rn k v0 h = some (v, h1)) : rn 43 #[v0] h = some (v, trunc Tryd.prog h h1 v) :=
  run_of_bodyT (args := [.opq v0]) rfl ((e43 _ _ _ _).trans hh)
theorem p43 {k : Nat} {v0 : Value} {h h1 : H} {v : Value} (hh : f43 rn k v0 h = some (v, h1)) (hp : plainO v = true) (x : Ext h h1) : rn 43 #[v0] h = some (v, h) := by rw [t43 hh, trunc_pure hp x]
noncomputable def f54_l1 (rec : Rec) (_k : Nat)  (ws0 : List Value) (h1 : H) : Option (Ex × List Value × H) :=
 asI .i64 (gv ws0 1) fun n1 =>
 ifB (not (eq n1 0)) (
 asI .i64 (gv ws0 1) fun n2 =>
 calls rec h1 79 [(.int .u64 (wr .u64 n2))] fun v0 h2 =>
 asI .i64 v0 fun n3 =>
 bls Tryd.prog h2 22 1 [(0, (.int .i64 n3))] fun v1 h3 =>
 app Tryd.prog h3 22 22 (gv ws0 0) v1 fun v2 h4 =>
 asI .i64 (gv ws0 1) fun n4 =>
 asI .i64 (gv ws0 1) fun n5 =>
 out .normal [v2, (.int .i64 (and .i64 n5 (sub .i64 n4 1)))] h4) (
 out (.exit 0) [gv ws0 0, gv ws0 1] h1)
noncomputable def f54 (rec : Rec) (k : Nat) (n0 : Int) (h0 : H) : Option (Value × H) :=
 lp k (f54_l1 rec k) [(.slice none 0 0), (.int .i64 n0)] h0 fun e0 ws1 h5 =>
 onE e0 0 (
 some (gv ws1 0, h5)) (
 none)
theorem e54 (rec : Rec) (k : Nat) (n0 : Int) (h : H) : bodyT Tryd.prog E0 SC (XC Tryd.prog rec k) 54 (Value × H) [.int .i64 n0] h (fun v h => some (v, h)) = f54 rec k n0 h := by kernel_rfl
theorem t54 {k : Nat} {n0 : Int} {h h1 : H} {v : Value} (hh : f54 rn k n0 h = some (v, h1)) : rn 54 #[.int .i64 n0] h = some (v, trunc Tryd.prog h h1 v) :=
  run_of_bodyT (args := [.int .i64 n0]) rfl ((e54 _ _ _ _).trans hh)
theorem x54 {k : Nat} {n0 : Int} {h h1 : H} {v : Value} (hh : f54 rn k n0 h = some (v, h1)) (hp : plainO v = false) : ∃ h2, rn 54 #[.int .i64 n0] h = some (v, h2) ∧ Sm h1 h2 ∧ (Ext h h1 → Exw h h2) := trunc_cell hp (t54 hh)
noncomputable def f72_l2 (_rec : Rec) (_k : Nat) (v0 : Value) (n1 : Int) (v1 : Value) (n2 : Int) (ws1 : List Value) (h3 : H) : Option (Ex × List Value × H) :=
 asI .i64 (gv ws1 1) fun n3 =>
 ifB (lt n3 n2) (
 asK (gv ws1 1) fun n4 =>
 six v1 n4 1 fun b0 b1 =>
 ld Tryd.prog h3 3 b0 b1 fun v2 =>
 asI .i64 v2 fun n5 =>
 six v0 n5 1 fun b2 b3 =>
 ld Tryd.prog h3 3 b2 b3 fun v3 =>
 asI .i64 v3 fun n6 =>
 asI .i64 (gv ws1 0) fun n7 =>
 asI .i64 (gv ws1 1) fun n8 =>
 out .normal [(.int .i64 (or .i64 n7 (and .i64 n6 n1))), (.int .i64 (add .i64 n8 1))] h3) (
 out (.exit 2) [gv ws1 0, gv ws1 1] h3)
noncomputable def f72_l1 (rec : Rec) (k : Nat) (v0 : Value) (n1 : Int) (ws0 : List Value) (h1 : H) : Option (Ex × List Value × H) :=
 calls rec h1 54 [gv ws0 1] fun v1 h2 =>
 len v1 fun n2 =>
 lp k (f72_l2 rec k v0 n1 v1 n2) [gv ws0 1, (.int .i64 0)] h2 fun e0 ws2 h4 =>
 onE e0 2 (
 asI .i64 (gv ws2 0) fun n9 =>
 asI .i64 (gv ws0 1) fun n10 =>
 ifB (eq n9 n10) (
 out .ret [gv ws0 1, gv ws0 1] h4) (
 out .normal [gv ws0 0, gv ws2 0] h4)) (
 none)
noncomputable def f72 (rec : Rec) (k : Nat) (v0 : Value) (n0 : Int) (n1 : Int) (h0 : H) : Option (Value × H) :=
 nn n0 (
 lp k (f72_l1 rec k v0 n1) [(.int .i64 0), (.int .i64 (shl .i64 1 n0))] h0 fun e1 ws3 h5 =>
 onR e1 (
 some (gv ws3 0, h5)))
theorem e72 (rec : Rec) (k : Nat) (v0 : Value) (n0 : Int) (n1 : Int) (h : H) : bodyT Tryd.prog E0 SC (XC Tryd.prog rec k) 72 (Value × H) [.opq v0, .int .i64 n0, .int .i64 n1] h (fun v h => some (v, h)) = f72 rec k v0 n0 n1 h := by kernel_rfl
theorem t72 {k : Nat} {v0 : Value} {n0 : Int} {n1 : Int} {h h1 : H} {v : Value} (hh : f72 rn k v0 n0 n1 h = some (v, h1)) : rn 72 #[v0, .int .i64 n0, .int .i64 n1] h = some (v, trunc Tryd.prog h h1 v) :=
  run_of_bodyT (args := [.opq v0, .int .i64 n0, .int .i64 n1]) rfl ((e72 _ _ _ _ _ _).trans hh)
theorem p72 {k : Nat} {v0 : Value} {n0 : Int} {n1 : Int} {h h1 : H} {v : Value} (hh : f72 rn k v0 n0 n1 h = some (v, h1)) (hp : plainO v = true) (x : Ext h h1) : rn 72 #[v0, .int .i64 n0, .int .i64 n1] h = some (v, h) := by rw [t72 hh, trunc_pure hp x]
noncomputable def f68 (_rec : Rec) (_k : Nat) (v0 : Value) (n0 : Int) (h0 : H) : Option (Value × H) :=
 ifB (le 0 n0) (
 len v0 fun n1 =>
 some ((.bool (lt n0 n1)), h0)) (
 some ((.bool false), h0))
theorem e68 (rec : Rec) (k : Nat) (v0 : Value) (n0 : Int) (h : H) : bodyT Tryd.prog E0 SC (XC Tryd.prog rec k) 68 (Value × H) [.opq v0, .int .i64 n0] h (fun v h => some (v, h)) = f68 rec k v0 n0 h := by kernel_rfl
theorem t68 {k : Nat} {v0 : Value} {n0 : Int} {h h1 : H} {v : Value} (hh : f68 rn k v0 n0 h = some (v, h1)) : rn 68 #[v0, .int .i64 n0] h = some (v, trunc Tryd.prog h h1 v) :=
  run_of_bodyT (args := [.opq v0, .int .i64 n0]) rfl ((e68 _ _ _ _ _).trans hh)
theorem p68 {k : Nat} {v0 : Value} {n0 : Int} {h h1 : H} {v : Value} (hh : f68 rn k v0 n0 h = some (v, h1)) (hp : plainO v = true) (x : Ext h h1) : rn 68 #[v0, .int .i64 n0] h = some (v, h) := by rw [t68 hh, trunc_pure hp x]
noncomputable def f71 (_rec : Rec) (_k : Nat) (v0 : Value) (n0 : Int) (n1 : Int) (h0 : H) : Option (Value × H) :=
 six v0 n0 1 fun b0 b1 =>
 ld Tryd.prog h0 3 b0 b1 fun v1 =>
 asI .i64 v1 fun n2 =>
 nn n1 (
 some ((.bool (eq (and .i64 (shr .i64 n2 n1) 1) 1)), h0))
theorem e71 (rec : Rec) (k : Nat) (v0 : Value) (n0 : Int) (n1 : Int) (h : H) : bodyT Tryd.prog E0 SC (XC Tryd.prog rec k) 71 (Value × H) [.opq v0, .int .i64 n0, .int .i64 n1] h (fun v h => some (v, h)) = f71 rec k v0 n0 n1 h := by kernel_rfl
theorem t71 {k : Nat} {v0 : Value} {n0 : Int} {n1 : Int} {h h1 : H} {v : Value} (hh : f71 rn k v0 n0 n1 h = some (v, h1)) : rn 71 #[v0, .int .i64 n0, .int .i64 n1] h = some (v, trunc Tryd.prog h h1 v) :=
  run_of_bodyT (args := [.opq v0, .int .i64 n0, .int .i64 n1]) rfl ((e71 _ _ _ _ _ _).trans hh)
theorem p71 {k : Nat} {v0 : Value} {n0 : Int} {n1 : Int} {h h1 : H} {v : Value} (hh : f71 rn k v0 n0 n1 h = some (v, h1)) (hp : plainO v = true) (x : Ext h h1) : rn 71 #[v0, .int .i64 n0, .int .i64 n1] h = some (v, h) := by rw [t71 hh, trunc_pure hp x]
end Go.AM
end

section
namespace Go.AM
open Go.Proofs
noncomputable def f79 (rec : Rec) (_k : Nat) (v0 : Value) (h0 : H) : Option (Value × H) :=
 calls rec h0 104 [v0] fun v1 h1 =>
 asI .i64 v1 fun n0 =>
 some ((.int .i64 n0), h1)
theorem e79 (rec : Rec) (k : Nat) (v0 : Value) (h : H) : bodyT Tryd.prog E0 SC (XC Tryd.prog rec k) 79 (Value × H) [.opq v0] h (fun v h => some (v, h)) = f79 rec k v0 h := by kernel_rfl
theorem t79 {k : Nat} {v0 : Value} {h h1 : H} {v : Value} (hh : f79 rn k v0 h = some (v, h1)) : rn 79 #[v0] h = some (v, trunc Tryd.prog h h1 v) :=
  run_of_bodyT (args := [.opq v0]) rfl ((e79 _ _ _ _).trans hh)
theorem p79 {k : Nat} {v0 : Value} {h h1 : H} {v : Value} (hh : f79 rn k v0 h = some (v, h1)) (hp : plainO v = true) (x : Ext h h1) : rn 79 #[v0] h = some (v, h) := by rw [t79 hh, trunc_pure hp x]
noncomputable def f55 (rec : Rec) (_k : Nat) (n0 : Int) (h0 : H) : Option (Value × H) :=
 calls rec h0 64 [(.int .u64 (wr .u64 n0))] fun v0 h1 =>
 asI .i64 v0 fun n1 =>
 some ((.int .i64 n1), h1)
theorem e55 (rec : Rec) (k : Nat) (n0 : Int) (h : H) : bodyT Tryd.prog E0 SC (XC Tryd.prog rec k) 55 (Value × H) [.int .i64 n0] h (fun v h => some (v, h)) = f55 rec k n0 h := by kernel_rfl
theorem t55 {k : Nat} {n0 : Int} {h h1 : H} {v : Value} (hh : f55 rn k n0 h = some (v, h1)) : rn 55 #[.int .i64 n0] h = some (v, trunc Tryd.prog h h1 v) :=
  run_of_bodyT (args := [.int .i64 n0]) rfl ((e55 _ _ _ _).trans hh)
theorem p55 {k : Nat} {n0 : Int} {h h1 : H} {v : Value} (hh : f55 rn k n0 h = some (v, h1)) (hp : plainO v = true) (x : Ext h h1) : rn 55 #[.int .i64 n0] h = some (v, h) := by rw [t55 hh, trunc_pure hp x]
noncomputable def f64 (rec : Rec) (_k : Nat) (v0 : Value) (h0 : H) : Option (Value × H) :=
 calls rec h0 97 [v0] fun v1 h1 =>
 asI .i64 v1 fun n0 =>
 some ((.int .i64 n0), h1)
theorem e64 (rec : Rec) (k : Nat) (v0 : Value) (h : H) : bodyT Tryd.prog E0 SC (XC Tryd.prog rec k) 64 (Value × H) [.opq v0] h (fun v h => some (v, h)) = f64 rec k v0 h := by kernel_rfl
theorem t64 {k : Nat} {v0 : Value} {h h1 : H} {v : Value} (hh : f64 rn k v0 h = some (v, h1)) : rn 64 #[v0] h = some (v, trunc Tryd.prog h h1 v) :=
  run_of_bodyT (args := [.opq v0]) rfl ((e64 _ _ _ _).trans hh)
theorem p64 {k : Nat} {v0 : Value} {h h1 : H} {v : Value} (hh : f64 rn k v0 h = some (v, h1)) (hp : plainO v = true) (x : Ext h h1) : rn 64 #[v0] h = some (v, h) := by rw [t64 hh, trunc_pure hp x]
noncomputable def f97 (_rec : Rec) (_k : Nat) (v0 : Value) (h0 : H) : Option (Value × H) :=
 asI .u64 v0 fun n0 =>
 nn 1 (
 asI .u64 v0 fun n1 =>
 nn 2 (
 nn 4 (
 nn 8 (
 nn 16 (
 nn 32 (
 some ((.int .i64 (and .i64 (wr .i64 (add .u64 (add .u64 (add .u64 (and .u64 (add .u64 (shr .u64 (add .u64 (and .u64 (shr .u64 (add .u64 (and .u64 (shr .u64 n0 1) 6148914691236517205) (and .u64 n1 6148914691236517205)) 2) 3689348814741910323) (and .u64 (add .u64 (and .u64 (shr .u64 n0 1) 6148914691236517205) (and .u64 n1 6148914691236517205)) 3689348814741910323)) 4) (add .u64 (and .u64 (shr .u64 (add .u64 (and .u64 (shr .u64 n0 1) 6148914691236517205) (and .u64 n1 6148914691236517205)) 2) 3689348814741910323) (and .u64 (add .u64 (and .u64 (shr .u64 n0 1) 6148914691236517205) (and .u64 n1 6148914691236517205)) 3689348814741910323))) 1085102592571150095) (shr .u64 (and .u64 (add .u64 (shr .u64 (add .u64 (and .u64 (shr .u64 (add .u64 (and .u64 (shr .u64 n0 1) 6148914691236517205) (and .u64 n1 6148914691236517205)) 2) 3689348814741910323) (and .u64 (add .u64 (and .u64 (shr .u64 n0 1) 6148914691236517205) (and .u64 n1 6148914691236517205)) 3689348814741910323)) 4) (add .u64 (and .u64 (shr .u64 (add .u64 (and .u64 (shr .u64 n0 1) 6148914691236517205) (and .u64 n1 6148914691236517205)) 2) 3689348814741910323) (and .u64 (add .u64 (and .u64 (shr .u64 n0 1) 6148914691236517205) (and .u64 n1 6148914691236517205)) 3689348814741910323))) 1085102592571150095) 8)) (shr .u64 (add .u64 (and .u64 (add .u64 (shr .u64 (add .u64 (and .u64 (shr .u64 (add .u64 (and .u64 (shr .u64 n0 1) 6148914691236517205) (and .u64 n1 6148914691236517205)) 2) 3689348814741910323) (and .u64 (add .u64 (and .u64 (shr .u64 n0 1) 6148914691236517205) (and .u64 n1 6148914691236517205)) 3689348814741910323)) 4) (add .u64 (and .u64 (shr .u64 (add .u64 (and .u64 (shr .u64 n0 1) 6148914691236517205) (and .u64 n1 6148914691236517205)) 2) 3689348814741910323) (and .u64 (add .u64 (and .u64 (shr .u64 n0 1) 6148914691236517205) (and .u64 n1 6148914691236517205)) 3689348814741910323))) 1085102592571150095) (shr .u64 (and .u64 (add .u64 (shr .u64 (add .u64 (and .u64 (shr .u64 (add .u64 (and .u64 (shr .u64 n0 1) 6148914691236517205) (and .u64 n1 6148914691236517205)) 2) 3689348814741910323) (and .u64 (add .u64 (and .u64 (shr .u64 n0 1) 6148914691236517205) (and .u64 n1 6148914691236517205)) 3689348814741910323)) 4) (add .u64 (and .u64 (shr .u64 (add .u64 (and .u64 (shr .u64 n0 1) 6148914691236517205) (and .u64 n1 6148914691236517205)) 2) 3689348814741910323) (and .u64 (add .u64 (and .u64 (shr .u64 n0 1) 6148914691236517205) (and .u64 n1 6148914691236517205)) 3689348814741910323))) 1085102592571150095) 8)) 16)) (shr .u64 (add .u64 (add .u64 (and .u64 (add .u64 (shr .u64 (add .u64 (and .u64 (shr .u64 (add .u64 (and .u64 (shr .u64 n0 1) 6148914691236517205) (and .u64 n1 6148914691236517205)) 2) 3689348814741910323) (and .u64 (add .u64 (and .u64 (shr .u64 n0 1) 6148914691236517205) (and .u64 n1 6148914691236517205)) 3689348814741910323)) 4) (add .u64 (and .u64 (shr .u64 (add .u64 (and .u64 (shr .u64 n0 1) 6148914691236517205) (and .u64 n1 6148914691236517205)) 2) 3689348814741910323) (and .u64 (add .u64 (and .u64 (shr .u64 n0 1) 6148914691236517205) (and .u64 n1 6148914691236517205)) 3689348814741910323))) 1085102592571150095) (shr .u64 (and .u64 (add .u64 (shr .u64 (add .u64 (and .u64 (shr .u64 (add .u64 (and .u64 (shr .u64 n0 1) 6148914691236517205) (and .u64 n1 6148914691236517205)) 2) 3689348814741910323) (and .u64 (add .u64 (and .u64 (shr .u64 n0 1) 6148914691236517205) (and .u64 n1 6148914691236517205)) 3689348814741910323)) 4) (add .u64 (and .u64 (shr .u64 (add .u64 (and .u64 (shr .u64 n0 1) 6148914691236517205) (and .u64 n1 6148914691236517205)) 2) 3689348814741910323) (and .u64 (add .u64 (and .u64 (shr .u64 n0 1) 6148914691236517205) (and .u64 n1 6148914691236517205)) 3689348814741910323))) 1085102592571150095) 8)) (shr .u64 (add .u64 (and .u64 (add .u64 (shr .u64 (add .u64 (and .u64 (shr .u64 (add .u64 (and .u64 (shr .u64 n0 1) 6148914691236517205) (and .u64 n1 6148914691236517205)) 2) 3689348814741910323) (and .u64 (add .u64 (and .u64 (shr .u64 n0 1) 6148914691236517205) (and .u64 n1 6148914691236517205)) 3689348814741910323)) 4) (add .u64 (and .u64 (shr .u64 (add .u64 (and .u64 (shr .u64 n0 1) 6148914691236517205) (and .u64 n1 6148914691236517205)) 2) 3689348814741910323) (and .u64 (add .u64 (and .u64 (shr .u64 n0 1) 6148914691236517205) (and .u64 n1 6148914691236517205)) 3689348814741910323))) 1085102592571150095) (shr .u64 (and .u64 (add .u64 (shr .u64 (add .u64 (and .u64 (shr .u64 (add .u64 (and .u64 (shr .u64 n0 1) 6148914691236517205) (and .u64 n1 6148914691236517205)) 2) 3689348814741910323) (and .u64 (add .u64 (and .u64 (shr .u64 n0 1) 6148914691236517205) (and .u64 n1 6148914691236517205)) 3689348814741910323)) 4) (add .u64 (and .u64 (shr .u64 (add .u64 (and .u64 (shr .u64 n0 1) 6148914691236517205) (and .u64 n1 6148914691236517205)) 2) 3689348814741910323) (and .u64 (add .u64 (and .u64 (shr .u64 n0 1) 6148914691236517205) (and .u64 n1 6148914691236517205)) 3689348814741910323))) 1085102592571150095) 8)) 16)) 32))) 127)), h0)))))))
theorem e97 (rec : Rec) (k : Nat) (v0 : Value) (h : H) : bodyT Tryd.prog E0 SC (XC Tryd.prog rec k) 97 (Value × H) [.opq v0] h (fun v h => some (v, h)) = f97 rec k v0 h := by kernel_rfl
theorem t97 {k : Nat} {v0 : Value} {h h1 : H} {v : Value} (hh : f97 rn k v0 h = some (v, h1)) : rn 97 #[v0] h = some (v, trunc Tryd.prog h h1 v) :=
  run_of_bodyT (args := [.opq v0]) rfl ((e97 _ _ _ _).trans hh)
theorem p97 {k : Nat} {v0 : Value} {h h1 : H} {v : Value} (hh : f97 rn k v0 h = some (v, h1)) (hp : plainO v = true) (x : Ext h h1) : rn 97 #[v0] h = some (v, h) := by rw [t97 hh, trunc_pure hp x]
end Go.AM
end

section
namespace Go.AM
open Go.Proofs
/-- The lowest number of a set below 1024. -/
def low (x : Nat) : Nat := ((List.range 10).find? fun i => x.testBit i).getD 0
/-- How many of the first ten numbers are in a set. -/
def pop (n : Nat) : Nat := (List.range 10).countP fun i => n.testBit i
theorem iso_any {P : Program} {E : Env} {n : Nat} {f : FuncId} {args : Array Value} {h h0 h1 : H} {v : Value} (hi : (E.iso f && args.toList.all plainV) = true) (hc : call P E (n + 1) f args h0 = some (v, h1)) : call P E (n + 1) f args h = some (v, h) := by
  unfold call at hc ⊢
  rw [if_pos hi] at hc ⊢
  cases hb : body P E (call P E n) (n + 1) f args (lone E) with
  | none => rw [hb] at hc; cases hc
  | some r =>
    obtain ⟨v', h'⟩ := r
    rw [hb] at hc
    simp only [Option.bind_some] at hc ⊢
    split at hc
    · rename_i hp
      rw [if_pos hp]
      cases hc
      rfl
    · cases hc
noncomputable def tzOk (x : Nat) : Bool := match call Tryd.prog E0 20 104 #[.int .u64 (x : Int)] ⟨fun _ => none, 0, 0⟩ with
  | some (.int .i64 z, _) => z == (low x : Int)
  | _ => false
theorem tz_all : ((List.range 1024).all fun x => decide (x = 0) || tzOk x) = true := by decide +kernel
noncomputable def cntF (n : Int) : Int := match f97 (fun _ _ _ => none) 0 (.int .u64 n) ⟨fun _ => none, 0, 0⟩ with
  | some (.int _ z, _) => z
  | _ => 0
theorem f97_eq (n : Int) (h : H) : f97 rn 0 (.int .u64 n) h = some (iv (cntF n), h) := by kernel_rfl
theorem cnt_all : ((List.range 1024).all fun n => decide (cntF (n : Int) = (pop n : Int))) = true := by decide +kernel
theorem s104 {x : Nat} (h0 : 0 < x) (h1 : x < 1024) (h : H) : rn 104 #[.int .u64 x] h = some (iv (low x), h) := by
  have := List.all_eq_true.1 tz_all x (List.mem_range.2 h1)
  rw [Bool.or_eq_true, decide_eq_true_iff] at this
  have ht : tzOk x = true := by
    rcases this with h2 | h2
    · omega
    · exact h2
  unfold tzOk at ht
  split at ht
  · rename_i z h' hc
    have hz : z = (low x : Int) := by simpa using ht
    subst hz
    exact run_iso (n := 19) (by rfl) (iso_any (by rfl) hc)
  · cases ht
theorem s79 {x : Nat} (h0 : 0 < x) (h1 : x < 1024) (h : H) : rn 79 #[.int .u64 x] h = some (iv (low x), h) := by
  refine p79 (k := 0) ?_ rfl (.refl _)
  unfold f79
  rw [calls_eq (xs := [.int .u64 x]) (s104 h0 h1 h), asI_int]
theorem s64 {x : Nat} (h1 : x < 1024) (h : H) : rn 64 #[.int .u64 x] h = some (iv (pop x), h) := by
  have hp : cntF x = (pop x : Int) := of_decide_eq_true (List.all_eq_true.1 cnt_all x (List.mem_range.2 h1))
  have e97 : rn 97 #[.int .u64 x] h = some (iv (pop x), h) := by
    rw [← hp]
    exact p97 (k := 0) (f97_eq x h) rfl (.refl _)
  refine p64 (k := 0) ?_ rfl (.refl _)
  unfold f64
  rw [calls_eq (xs := [.int .u64 x]) e97, asI_int]
end Go.AM
end

section
namespace Go.AM
section
variable {α : Type} {F : List Value → H → Option (Ex × List Value × H)} {k : Nat} {l : List α} {h : H}
/-- A loop over a list that leaves where a test fails first; the heap stays the same. -/
theorem lp_all (enc : Nat → List Value) (ok : Nat → α → Bool) (ow : Nat → List Value) (oj : Nat) (on : List Value) {ws : List Value} (hws : enc 0 = ws) (hk : l.length < k)
    (fin : F (enc l.length) h = some (.exit oj, on, h))
    (step : ∀ i x, l[i]? = some x → F (enc i) h = if ok i x = true then some (.normal, enc (i + 1), h) else some (.ret, ow i, h)) :
    (∃ i x, l[i]? = some x ∧ ok i x = false ∧ (∀ j y, j < i → l[j]? = some y → ok j y = true) ∧ lpGo F k ws h = some (.ret, ow i, h)) ∨ ((∀ i x, l[i]? = some x → ok i x = true) ∧ lpGo F k ws h = some (.exit oj, on, h)) := by
  obtain ⟨e, ws', h', hl, hq⟩ := lpGo_inv (F := F)
    (fun d ws g => ∃ i, i + d = l.length ∧ ws = enc i ∧ g = h ∧ ∀ j y, j < i → l[j]? = some y → ok j y = true)
    (fun e ws g => (∃ i x, l[i]? = some x ∧ ok i x = false ∧ (∀ j y, j < i → l[j]? = some y → ok j y = true) ∧ e = .ret ∧ ws = ow i ∧ g = h) ∨ ((∀ i x, l[i]? = some x → ok i x = true) ∧ e = .exit oj ∧ ws = on ∧ g = h))
    (by
      rintro d ws g ⟨i, hd, rfl, rfl, hok⟩
      by_cases hd0 : d = 0
      · have hi : i = l.length := by omega
        subst hi
        exact ⟨_, _, _, fin, .inr ⟨by simp, .inr ⟨fun j y hy => hok j y (List.getElem?_eq_some_iff.1 hy).1 hy, rfl, rfl, rfl⟩⟩⟩
      · have hx := List.getElem?_eq_getElem (show i < l.length by omega)
        have hs := step i _ hx
        cases hc : ok i l[i] with
        | true =>
          rw [hc, if_pos rfl] at hs
          refine ⟨_, _, _, hs, .inl ⟨rfl, d - 1, by omega, i + 1, by omega, rfl, rfl, fun j y hj hy => ?_⟩⟩
          by_cases hji : j = i
          · subst hji
            rw [hx] at hy
            cases hy
            exact hc
          · exact hok j y (by omega) hy
        | false =>
          rw [hc, if_neg (by simp)] at hs
          exact ⟨_, _, _, hs, .inr ⟨by simp, .inl ⟨i, _, hx, hc, hok, rfl, rfl, rfl⟩⟩⟩)
    l.length k hk ⟨0, by omega, hws.symm, rfl, by simp⟩
  rcases hq with ⟨i, x, h1, h2, h3, rfl, rfl, rfl⟩ | ⟨h1, rfl, rfl, rfl⟩
  · exact .inl ⟨i, x, h1, h2, h3, hl⟩
  · exact .inr ⟨h1, hl⟩
theorem SlR.keepB {h h' : H} {e : TypeId} {s : Nat} {v : Value} {l : List (List Value)} (a : SlR h e s v l) (hn : h.nx ≤ h'.nx) (hb : ∀ b, blkOf v = some b → h'.blk b = h.blk b) : SlR h' e s v l := by
  cases a with
  | nil => exact .nil
  | at_ hb' hr hk hc hl hx => exact .at_ (Nat.lt_of_lt_of_le hb' hn) ((hb _ rfl).trans hr) hk hc hl hx
end
end Go.AM
end
