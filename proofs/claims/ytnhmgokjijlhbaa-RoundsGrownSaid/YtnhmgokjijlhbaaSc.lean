/- Gaps: the program's and the document's, and the days in which a task is done. -/
import Derived.Test.YtnhmgokjijlhbaaSb
namespace Go.AM
open Go.Proofs Go.Lives

/-- The day after the last one so far at which a task is done; 0: none. -/
def lastH (f : Nat → Nat) (i : Nat) : Nat → Nat
  | 0 => 0
  | k + 1 => if f k = i then k + 1 else lastH f i k

theorem lastH_le (f : Nat → Nat) (i : Nat) : ∀ k, lastH f i k ≤ k := by
  intro k
  induction k with
  | zero => exact Nat.le_refl _
  | succ k ih => simp only [lastH]; split <;> omega

theorem lastH_hit (f : Nat → Nat) (i : Nat) : ∀ k, 0 < lastH f i k → f (lastH f i k - 1) = i := by
  intro k
  induction k with
  | zero => intro h; simp [lastH] at h
  | succ k ih =>
    simp only [lastH]
    split
    · intro _; simpa
    · exact ih

theorem lastH_max (f : Nat → Nat) (i : Nat) : ∀ k e, e < k → f e = i → e < lastH f i k := by
  intro k
  induction k with
  | zero => intro e h; omega
  | succ k ih =>
    intro e he hi
    simp only [lastH]
    split
    · omega
    · rename_i h
      have : e ≠ k := fun e' => h (e' ▸ hi)
      exact ih e (by omega) hi

/-- The document's steps: since when, the most so far, and whether it was done. -/
def stepR (i : Nat) (s : Int × Int × Bool) (x : Nat) : Int × Int × Bool := if x = i then (0, imax s.2.1 (s.1 + 1), true) else (s.1 + 1, s.2.1, s.2.2)

/-- The program's steps. -/
def stepP (i : Nat) (d : Nat) (x : Nat) (s : Int × Int) : Int × Int := if x = i then (if 0 ≤ s.2 then (imax s.1 ((d : Int) - s.2), (d : Int)) else (s.1, (d : Int))) else s

def seqR (f : Nat → Nat) (i k : Nat) : Int × Int × Bool := ((List.range k).map f).foldl (stepR i) (0, 0, false)
def seqP (f : Nat → Nat) (i : Nat) : Nat → Int × Int
  | 0 => (0, -1)
  | k + 1 => stepP i k (f k) (seqP f i k)

theorem seqR_succ (f : Nat → Nat) (i k : Nat) : seqR f i (k + 1) = stepR i (seqR f i k) (f k) := by
  simp [seqR, List.range_succ]

theorem seqR_spec (f : Nat → Nat) (i : Nat) : ∀ k, (seqR f i k).1 = (k : Int) - lastH f i k ∧ (seqR f i k).2.2 = decide (0 < lastH f i k) ∧ 0 ≤ (seqR f i k).2.1 ∧ (seqR f i k).2.1 ≤ k ∧
    ∀ n : Nat, 1 ≤ n → ((seqR f i k).2.1 ≤ n ↔ ∀ d, d + n ≤ lastH f i k → ∃ e, d ≤ e ∧ e < d + n ∧ f e = i) := by
  intro k
  induction k with
  | zero =>
    refine ⟨rfl, rfl, by simp [seqR], by simp [seqR], fun n hn => ⟨fun _ d hd => ?_, fun _ => ?_⟩⟩
    · simp [lastH] at hd; omega
    · simp [seqR]
  | succ k ih =>
    obtain ⟨h1, h2, h3, h3', h4⟩ := ih
    have hle := lastH_le f i k
    rw [seqR_succ]
    unfold stepR
    by_cases hf : f k = i
    · have hL : lastH f i (k + 1) = k + 1 := by simp [lastH, hf]
      rw [if_pos hf, hL]
      refine ⟨by simp, by simp, ?_, ?_, fun n hn => ?_⟩
      · simp only [imax]; split <;> omega
      · simp only [imax]; split <;> omega
      · have hmax : imax (seqR f i k).2.1 ((seqR f i k).1 + 1) ≤ n ↔ (seqR f i k).2.1 ≤ n ∧ (seqR f i k).1 + 1 ≤ n := by unfold imax; split <;> omega
        show imax (seqR f i k).2.1 ((seqR f i k).1 + 1) ≤ n ↔ _
        rw [hmax, h4 n hn, h1]
        constructor
        · rintro ⟨g1, g2⟩ d hd
          by_cases hd2 : d + n ≤ lastH f i k
          · exact g1 d hd2
          · by_cases hd3 : d + n = k + 1
            · exact ⟨k, by omega, by omega, hf⟩
            · have hpos : 0 < lastH f i k := by omega
              exact ⟨lastH f i k - 1, by omega, by omega, lastH_hit f i k hpos⟩
        · intro g
          refine ⟨fun d hd => g d (by omega), ?_⟩
          refine Classical.byContradiction fun hc => ?_
          obtain ⟨e, q1, q2, q3⟩ := g (lastH f i k) (by omega)
          have := lastH_max f i k e (by omega) q3
          omega
    · have hL : lastH f i (k + 1) = lastH f i k := by simp [lastH, hf]
      rw [if_neg hf, hL]
      exact ⟨by simp only; omega, h2, h3, by simp only; omega, h4⟩

theorem seqP_spec (f : Nat → Nat) (i : Nat) : ∀ k, (seqP f i k).2 = (lastH f i k : Int) - 1 ∧ 0 ≤ (seqP f i k).1 ∧ (seqP f i k).1 ≤ k ∧ (lastH f i k = 0 → (seqP f i k).1 = 0) ∧ (∀ a b, a < b → b < k → f a = i → f b = i → 1 ≤ (seqP f i k).1) ∧
    ∀ n : Nat, 1 ≤ n → ((seqP f i k).1 ≤ n ↔ ∀ d, (∃ e, e ≤ d ∧ f e = i) → d + n ≤ lastH f i k → ∃ e, d ≤ e ∧ e < d + n ∧ f e = i) := by
  intro k
  induction k with
  | zero =>
    refine ⟨rfl, by simp [seqP], by simp [seqP], fun _ => rfl, fun a b _ h => by omega, fun n hn => ⟨fun _ d _ hd => ?_, fun _ => ?_⟩⟩
    · simp [lastH] at hd; omega
    · simp [seqP]
  | succ k ih =>
    obtain ⟨h1, h2, h2', h3, h4, h5⟩ := ih
    have hle := lastH_le f i k
    simp only [seqP]
    unfold stepP
    by_cases hf : f k = i
    · have hL : lastH f i (k + 1) = k + 1 := by simp [lastH, hf]
      rw [if_pos hf, hL]
      by_cases h0 : 0 ≤ (seqP f i k).2
      · rw [if_pos h0]
        have hpos : 0 < lastH f i k := by omega
        have hmx : 1 ≤ imax (seqP f i k).1 ((k : Int) - (seqP f i k).2) ∧ imax (seqP f i k).1 ((k : Int) - (seqP f i k).2) ≤ k + 1 := by unfold imax; split <;> omega
        refine ⟨by simp only; omega, by simp only; omega, by simp only; omega, fun h => by omega, fun a b _ _ _ _ => hmx.1, fun n hn => ?_⟩
        have hmax : imax (seqP f i k).1 ((k : Int) - (seqP f i k).2) ≤ n ↔ (seqP f i k).1 ≤ n ∧ (k : Int) - (seqP f i k).2 ≤ n := by unfold imax; split <;> omega
        show imax (seqP f i k).1 ((k : Int) - (seqP f i k).2) ≤ n ↔ _
        rw [hmax, h5 n hn, h1]
        constructor
        · rintro ⟨g1, g2⟩ d hd hd1
          by_cases hd2 : d + n ≤ lastH f i k
          · exact g1 d hd hd2
          · by_cases hd3 : d + n = k + 1
            · exact ⟨k, by omega, by omega, hf⟩
            · exact ⟨lastH f i k - 1, by omega, by omega, lastH_hit f i k hpos⟩
        · intro g
          refine ⟨fun d hd hd1 => g d hd (by omega), ?_⟩
          refine Classical.byContradiction fun hc => ?_
          obtain ⟨e, q1, q2, q3⟩ := g (lastH f i k) ⟨lastH f i k - 1, by omega, lastH_hit f i k hpos⟩ (by omega)
          have := lastH_max f i k e (by omega) q3
          omega
      · rw [if_neg h0]
        have hz : lastH f i k = 0 := by omega
        have hnone : ∀ e, e < k → f e ≠ i := fun e he h => by have := lastH_max f i k e he h; omega
        refine ⟨by simp only; omega, h2, by simp only; omega, fun h => by omega, fun a b hab hb ha _ => absurd ha (hnone a (by omega)), fun n hn => ?_⟩
        simp only
        rw [h3 hz]
        refine ⟨fun _ d hd hd1 => ?_, fun _ => by omega⟩
        obtain ⟨e, he, hei⟩ := hd
        have : e = k := by
          rcases Nat.lt_or_ge e k with h | h
          · exact absurd hei (hnone e h)
          · omega
        exact ⟨k, by omega, by omega, hf⟩
    · have hL : lastH f i (k + 1) = lastH f i k := by simp [lastH, hf]
      rw [if_neg hf, hL]
      refine ⟨h1, h2, by omega, h3, fun a b hab hb ha hbi => ?_, h5⟩
      have : b ≠ k := fun e => hf (e ▸ hbi)
      exact h4 a b hab (by omega) ha hbi

/-! ### Over two rounds -/

theorem dayT_mod (r : List Nat) (d : Nat) : dayT r (d % r.length) = dayT r d := by
  unfold dayT
  rw [Nat.mod_mod]

theorem dayT_per (r : List Nat) (d : Nat) : dayT r (d + r.length) = dayT r d := by rw [Nat.add_comm]; exact dayT_add r d

theorem win_shift {r : List Nat} {i n : Nat} (d : Nat) (h : ∃ e, d % r.length ≤ e ∧ e < d % r.length + n ∧ dayT r e = i) : ∃ e, d ≤ e ∧ e < d + n ∧ dayT r e = i := by
  obtain ⟨e, h1, h2, h3⟩ := h
  have hd := Nat.div_add_mod d r.length
  refine ⟨r.length * (d / r.length) + e, by omega, by omega, ?_⟩
  rw [← h3, ← dayT_mod r (r.length * (d / r.length) + e), Nat.mul_add_mod, dayT_mod]

theorem gapR_win {r : List Nat} {i n : Nat} (hr : r ≠ []) (hn : 1 ≤ n) : Win r i n ↔ (seqR (dayT r) i (2 * r.length)).2.2 = true ∧ (seqR (dayT r) i (2 * r.length)).2.1 ≤ n := by
  have hm : 0 < r.length := List.length_pos_iff.2 hr
  obtain ⟨_, h2, _, _, h4⟩ := seqR_spec (dayT r) i (2 * r.length)
  rw [h2, h4 n hn, decide_eq_true_iff]
  constructor
  · intro h
    refine ⟨?_, fun d _ => h d⟩
    obtain ⟨e, _, _, h7⟩ := h 0
    have hel : e % r.length < r.length := Nat.mod_lt _ hm
    have := lastH_max (dayT r) i (2 * r.length) (e % r.length) (by omega) (by rw [dayT_mod]; exact h7)
    omega
  · rintro ⟨h5, h6⟩ d
    apply win_shift
    have hd0 := Nat.mod_lt d hm
    generalize d % r.length = d0 at *
    have hle := lastH_le (dayT r) i (2 * r.length)
    have hhit := lastH_hit (dayT r) i (2 * r.length) h5
    -- the last day lies in the second round
    have hlast : r.length < lastH (dayT r) i (2 * r.length) := by
      refine Classical.byContradiction fun hc => ?_
      have := lastH_max (dayT r) i (2 * r.length) (lastH (dayT r) i (2 * r.length) - 1 + r.length) (by omega) (by rw [dayT_per]; exact hhit)
      omega
    by_cases hc : d0 + n ≤ lastH (dayT r) i (2 * r.length)
    · exact h6 d0 hc
    · exact ⟨lastH (dayT r) i (2 * r.length) - 1, by omega, by omega, hhit⟩

theorem gapP_win {r : List Nat} {i n : Nat} (hr : r ≠ []) (hn : 1 ≤ n) : Win r i n ↔ (seqP (dayT r) i (2 * r.length)).1 ≠ 0 ∧ (seqP (dayT r) i (2 * r.length)).1 ≤ n := by
  have hm : 0 < r.length := List.length_pos_iff.2 hr
  obtain ⟨_, h2, _, h3, h4, h5⟩ := seqP_spec (dayT r) i (2 * r.length)
  rw [h5 n hn]
  constructor
  · intro h
    refine ⟨?_, fun d _ _ => h d⟩
    obtain ⟨e, _, _, h7⟩ := h 0
    have hel : e % r.length < r.length := Nat.mod_lt _ hm
    have := h4 (e % r.length) (e % r.length + r.length) (by omega) (by omega) (by rw [dayT_mod]; exact h7) (by rw [dayT_per, dayT_mod]; exact h7)
    omega
  · rintro ⟨h6, h7⟩ d
    apply win_shift
    have hd0 := Nat.mod_lt d hm
    generalize d % r.length = d0 at *
    have hpos : 0 < lastH (dayT r) i (2 * r.length) := by
      rcases Nat.eq_zero_or_pos (lastH (dayT r) i (2 * r.length)) with h | h
      · exact absurd (h3 h) h6
      · exact h
    have hle := lastH_le (dayT r) i (2 * r.length)
    have hhit := lastH_hit (dayT r) i (2 * r.length) hpos
    have hlast : r.length < lastH (dayT r) i (2 * r.length) := by
      refine Classical.byContradiction fun hc => ?_
      have := lastH_max (dayT r) i (2 * r.length) (lastH (dayT r) i (2 * r.length) - 1 + r.length) (by omega) (by rw [dayT_per]; exact hhit)
      omega
    -- the same day of the first round
    have hhit0 : dayT r (lastH (dayT r) i (2 * r.length) - 1 - r.length) = i := by
      have := dayT_per r (lastH (dayT r) i (2 * r.length) - 1 - r.length)
      rw [show lastH (dayT r) i (2 * r.length) - 1 - r.length + r.length = lastH (dayT r) i (2 * r.length) - 1 by omega] at this
      rw [← this]; exact hhit
    generalize hLL : lastH (dayT r) i (2 * r.length) = LL at *
    -- days ahead of the last one of the first round are looked at in the second one
    by_cases hd : LL - 1 - r.length ≤ d0
    · by_cases hc : d0 + n ≤ LL
      · exact h7 d0 ⟨_, hd, hhit0⟩ hc
      · exact ⟨LL - 1, by omega, by omega, hhit⟩
    · have hsh : ∃ e, d0 + r.length ≤ e ∧ e < d0 + r.length + n ∧ dayT r e = i := by
        by_cases hc : d0 + r.length + n ≤ LL
        · by_cases hex : ∃ e, e ≤ d0 + r.length ∧ dayT r e = i
          · exact h7 _ hex hc
          · exact absurd ⟨LL - 1 - r.length, by omega, hhit0⟩ hex
        · exact ⟨LL - 1, by omega, by omega, hhit⟩
      obtain ⟨e, q1, q2, q3⟩ := hsh
      exact ⟨e - r.length, by omega, by omega, by
        have := dayT_per r (e - r.length)
        rw [show e - r.length + r.length = e by omega] at this
        rw [← this]; exact q3⟩

theorem dbl (r : List Nat) : (List.range (2 * r.length)).map (dayT r) = r ++ r := by
  apply List.ext_getElem
  · simp; omega
  · intro j h1 h2
    simp only [List.length_map, List.length_range] at h1
    simp only [List.getElem_map, List.getElem_range, List.getElem_append]
    have hm : 0 < r.length := by omega
    unfold dayT
    split
    · rename_i h
      rw [Nat.mod_eq_of_lt h, List.getElem?_eq_getElem h, Option.getD_some]
    · rename_i h
      have : j % r.length = j - r.length := by
        rw [Nat.mod_eq_sub_mod (by omega)]
        exact Nat.mod_eq_of_lt (by omega)
      rw [this, List.getElem?_eq_getElem (by omega), Option.getD_some]

theorem seqR_dbl (r : List Nat) (i : Nat) : seqR (dayT r) i (2 * r.length) = r.foldl (stepR i) (r.foldl (stepR i) (0, 0, false)) := by
  unfold seqR
  rw [dbl, List.foldl_append]

theorem seqP_fold (r : List Nat) (i : Nat) : ∀ k, k ≤ 2 * r.length → foldI (stepP i) ((r ++ r).take k) 0 (0, -1) = seqP (dayT r) i k := by
  have snoc : ∀ (l : List Nat) (x j : Nat) (s : Int × Int), foldI (stepP i) (l ++ [x]) j s = stepP i (j + l.length) x (foldI (stepP i) l j s) := by
    intro l
    induction l with
    | nil => intro x j s; simp [foldI]
    | cons y l ih => intro x j s; simp only [List.cons_append, foldI, ih, List.length_cons]; congr 1; omega
  intro k
  induction k with
  | zero => intro _; rfl
  | succ k ih =>
    intro hk
    have hl : k < (r ++ r).length := by simp; omega
    have hg : (r ++ r)[k]? = some (dayT r k) := by
      rw [← dbl, List.getElem?_map, List.getElem?_range (by omega)]; rfl
    rw [List.take_add_one, hg, Option.toList_some, snoc, ih (by omega)]
    simp only [seqP, List.length_take, Nat.zero_add]
    rw [Nat.min_eq_left (by omega)]

end Go.AM
