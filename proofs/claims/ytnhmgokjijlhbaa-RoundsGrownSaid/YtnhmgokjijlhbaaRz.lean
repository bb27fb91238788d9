/- Rounds that keep tasks, and walks through states. -/
import Derived.Test.YtnhmgokjijlhbaaRy
namespace Go.AM
open Go.Proofs Go.Lives

/-- The task of a day, in a round that comes again and again. -/
def dayT (r : List Nat) (d : Nat) : Nat := r[d % r.length]?.getD 0

/-- In any n days a task is done. -/
def Win (r : List Nat) (i n : Nat) : Prop := ∀ d, ∃ e, d ≤ e ∧ e < d + n ∧ dayT r e = i

def KeepsR (ln r : List Nat) : Prop := r ≠ [] ∧ (∀ x ∈ r, x < ln.length) ∧ ∀ i n, ln[i]? = some n → Win r i n

def walk (ln : List Nat) : Nat → List Nat → Option Nat
  | c, [] => some c
  | c, i :: r => if aftP ln c i = -1 then none else walk ln (aftP ln c i).toNat r

theorem walk_append (ln : List Nat) : ∀ (a b : List Nat) (c : Nat), walk ln c (a ++ b) = (walk ln c a).bind fun c' => walk ln c' b := by
  intro a
  induction a with
  | nil => intro b c; rfl
  | cons i a ih =>
    intro b c
    simp only [List.cons_append, walk]
    split
    · rfl
    · exact ih b _

theorem dayT_add (r : List Nat) (d : Nat) : dayT r (r.length + d) = dayT r d := by
  unfold dayT
  rw [Nat.add_mod_left]

theorem dayT_lt {r : List Nat} {n : Nat} (hr : r ≠ []) (h : ∀ x ∈ r, x < n) (d : Nat) : dayT r d < n := by
  unfold dayT
  have hl : d % r.length < r.length := Nat.mod_lt _ (List.length_pos_iff.2 hr)
  rw [List.getElem?_eq_getElem hl, Option.getD_some]
  exact h _ (List.getElem_mem hl)

theorem dayT_get {r : List Nat} {j : Nat} (h : j < r.length) : r[j]? = some (dayT r j) := by
  unfold dayT
  rw [Nat.mod_eq_of_lt h, List.getElem?_eq_getElem h, Option.getD_some]

/-- The parts of the state that comes. -/
theorem vals_get (task : Int) : ∀ (ps : List (Int × Int)) (i j : Nat) (p : Int × Int), ps[j]? = some p → (valsN task i ps)[j]? = some (valN task (i + j) p) := by
  intro ps
  induction ps with
  | nil => intro i j p h; simp at h
  | cons q ps ih =>
    intro i j p h
    cases j with
    | zero => simp at h; subst h; simp [valsN]
    | succ j =>
      simp only [valsN, List.getElem?_cons_succ]
      rw [ih (i + 1) j p (by simpa using h)]
      congr 2
      omega

theorem next_get {ln s o : List Nat} {task i x y : Nat} (h : nextP (nI ln) (nI s) task = some (nI o)) (hx : ln[i]? = some x) (hy : s[i]? = some y) : ∃ z, o[i]? = some z ∧ (z : Int) = if i = task then (x : Int) else (y : Int) - 1 := by
  unfold nextP at h
  split at h
  · cases h
  · rename_i h0
    have h1 := Option.some.inj h
    have hz : ((nI ln).zip (nI s))[i]? = some ((x : Int), (y : Int)) := by
      rw [List.getElem?_zip_eq_some]
      simp [hx, hy]
    have h2 := vals_get task _ 0 i _ hz
    rw [h1, Nat.zero_add, List.getElem?_map] at h2
    cases ho : o[i]? with
    | none => rw [ho] at h2; cases h2
    | some z =>
      rw [ho] at h2
      refine ⟨z, rfl, ?_⟩
      have h3 := Option.some.inj h2
      simp only [valN] at h3
      rw [h3]
      by_cases hi : i = task
      · subst hi; simp
      · rw [if_neg hi, if_neg (by omega)]

/-- A task that can be done leads to a state. -/
theorem aft_next {ln : List Nat} (hok : ∀ x ∈ ln, 1 ≤ x) {c i : Nat} (h : aftP ln c i ≠ -1) : ∃ t, t < prodN ln ∧ aftP ln c i = (t : Int) ∧ nextP (nI ln) (nI (stateP ln c)) i = some (nI (stateP ln t)) := by
  unfold aftP at h ⊢
  cases ho : nextP (nI ln) (nI (stateP ln c)) (i : Int) with
  | none => rw [ho] at h; exact absurd rfl h
  | some o =>
    have hst := next_ok (fun x hx => by
      obtain ⟨y, hy, rfl⟩ := List.mem_map.1 hx
      have := hok y hy
      omega) (state_ok hok c) ho
    obtain ⟨t, h1, h2, h3⟩ := st_num hst
    exact ⟨t, h1, h2, by rw [← h3]⟩

theorem state_get {ln : List Nat} (hok : ∀ x ∈ ln, 1 ≤ x) (c : Nat) {i n : Nat} (hi : ln[i]? = some n) : ∃ y, (stateP ln c)[i]? = some y ∧ 1 ≤ y ∧ y ≤ n := by
  have hil := (List.getElem?_eq_some_iff.1 hi).1
  have hdl : (stateP ln c).length = ln.length := digR_len ln c
  have hy : (stateP ln c)[i]? = some ((stateP ln c)[i]'(by omega)) := List.getElem?_eq_getElem _
  refine ⟨_, hy, ?_⟩
  have hz : (ln.zip (stateP ln c))[i]? = some (n, (stateP ln c)[i]'(by omega)) := by
    rw [List.getElem?_zip_eq_some]
    exact ⟨hi, hy⟩
  exact digR_ok ln c hok _ (List.mem_of_getElem? hz)

/-- The days of a round that leads back to its first state keep all tasks. -/
theorem cyc_keeps {ln r : List Nat} (hok : ∀ x ∈ ln, 1 ≤ x) {c : Nat} (hr : r ≠ []) (hrl : ∀ x ∈ r, x < ln.length) (hw : walk ln c r = some c) : KeepsR ln r := by
  refine ⟨hr, hrl, fun i n hi => ?_⟩
  have hm : 0 < r.length := List.length_pos_iff.2 hr
  -- the states, day by day
  obtain ⟨st, hst0, hst1⟩ : ∃ st : Nat → Nat, st 0 = c ∧ ∀ d, st (d + 1) = (aftP ln (st d) (dayT r d)).toNat :=
    ⟨fun d => Nat.rec c (fun d s => (aftP ln s (dayT r d)).toNat) d, rfl, fun _ => rfl⟩
  have pre : ∀ j, j ≤ r.length → walk ln c (r.take j) = some (st j) ∧ ∀ d, d < j → aftP ln (st d) (dayT r d) ≠ -1 := by
    intro j
    induction j with
    | zero => intro _; exact ⟨by simp [walk, hst0], by omega⟩
    | succ j ih =>
      intro hj
      obtain ⟨h1, h2⟩ := ih (by omega)
      have hsplit : r = r.take (j + 1) ++ r.drop (j + 1) := (List.take_append_drop _ _).symm
      have ht : r.take (j + 1) = r.take j ++ [dayT r j] := by
        rw [List.take_add_one, dayT_get (by omega)]; rfl
      have h3 : aftP ln (st j) (dayT r j) ≠ -1 := by
        intro e
        rw [hsplit, walk_append, ht, walk_append, h1] at hw
        simp [walk, e] at hw
      refine ⟨?_, fun d hd => ?_⟩
      · rw [ht, walk_append, h1, hst1]
        simp [walk, h3]
      · by_cases hdj : d = j
        · subst hdj; exact h3
        · exact h2 d (by omega)
  have hback : st r.length = c := by
    have := (pre r.length (Nat.le_refl _)).1
    rw [List.take_length, hw] at this
    exact (Option.some.inj this).symm
  have hper : ∀ d, st (r.length + d) = st d := by
    intro d
    induction d with
    | zero => rw [Nat.add_zero, hback, hst0]
    | succ d ih => rw [← Nat.add_assoc, hst1, ih, dayT_add, hst1]
  have hne : ∀ d, aftP ln (st d) (dayT r d) ≠ -1 := by
    intro d
    induction d using Nat.strongRecOn with
    | ind d ih =>
      rcases Nat.lt_or_ge d r.length with h | h
      · exact (pre r.length (Nat.le_refl _)).2 d h
      · obtain ⟨k, rfl⟩ : ∃ k, d = r.length + k := ⟨d - r.length, by omega⟩
        rw [hper, dayT_add]
        exact ih k (by omega)
  have key : ∀ (y d : Nat), (stateP ln (st d))[i]? = some y → ∃ e, d ≤ e ∧ e < d + y ∧ dayT r e = i := by
    intro y
    induction y using Nat.strongRecOn with
    | ind y ih =>
      intro d hy
      obtain ⟨y', hy', h1, h2⟩ := state_get hok (st d) hi
      rw [hy] at hy'
      cases hy'
      by_cases hd : dayT r d = i
      · exact ⟨d, Nat.le_refl _, by omega, hd⟩
      · obtain ⟨t, _, haft, hnext⟩ := aft_next hok (hne d)
        obtain ⟨z, hz, hzv⟩ := next_get hnext hi hy
        rw [if_neg (Ne.symm hd)] at hzv
        have ht : st (d + 1) = t := by rw [hst1, haft, Int.toNat_natCast]
        rw [← ht] at hz
        obtain ⟨z', hz', h3, _⟩ := state_get hok (st (d + 1)) hi
        rw [hz] at hz'
        cases hz'
        obtain ⟨e, h4, h5, h6⟩ := ih z (by omega) (d + 1) hz
        exact ⟨e, by omega, by omega, h6⟩
  intro d
  obtain ⟨y, hy, _, h2⟩ := state_get hok (st d) hi
  obtain ⟨e, h3, h4, h5⟩ := key y d hy
  exact ⟨e, h3, by omega, h5⟩

/-- Tasks that a round keeps can be kept for ever. -/
theorem keeps_life {ln r : List Nat} (hok : ∀ x ∈ ln, 1 ≤ x) (hk : KeepsR ln r) : lifeF ln (beg ln) = -1 := by
  obtain ⟨hr, hrl, hwin⟩ := hk
  have hL := lifeF_is hok
  have key : ∀ (n d c : Nat), c < prodN ln → (∀ i y : Nat, (stateP ln c)[i]? = some y → ∃ e, d ≤ e ∧ e < d + y ∧ dayT r e = i) → lifeF ln c ≠ (n : Int) := by
    intro n
    induction n using Nat.strongRecOn with
    | ind n ih =>
      intro d c hc hgood hn
      have hdl : (stateP ln c).length = ln.length := digR_len ln c
      have hf := dayT_lt hr hrl d
      -- the task of the day can be done
      have hne : aftP ln c (dayT r d) ≠ -1 := by
        have h0 : 0 ∉ valsN (dayT r d : Int) 0 ((nI ln).zip (nI (stateP ln c))) := by
          intro hm
          obtain ⟨j, hj⟩ := List.getElem?_of_mem hm
          have hjl := (List.getElem?_eq_some_iff.1 hj).1
          rw [vals_len, List.length_zip] at hjl
          simp only [List.length_map] at hjl
          have hx : ln[j]? = some (ln[j]'(by omega)) := List.getElem?_eq_getElem _
          have hy : (stateP ln c)[j]? = some ((stateP ln c)[j]'(by omega)) := List.getElem?_eq_getElem _
          generalize ln[j]'(by omega) = x at hx
          generalize (stateP ln c)[j]'(by omega) = y at hy
          have hz : ((nI ln).zip (nI (stateP ln c)))[j]? = some ((x : Int), (y : Int)) := by
            rw [List.getElem?_zip_eq_some]
            simp [hx, hy]
          rw [vals_get _ _ 0 j _ hz] at hj
          have hv := Option.some.inj hj
          simp only [valN, Nat.zero_add] at hv
          have hx1 := hok x (List.mem_of_getElem? hx)
          by_cases he : (j : Int) = (dayT r d : Int)
          · rw [if_pos he] at hv; omega
          · rw [if_neg he] at hv
            obtain ⟨e, h1, h2, h3⟩ := hgood j y hy
            have : e ≠ d := fun e' => he (by rw [← h3, e'])
            omega
        unfold aftP nextP
        rw [if_neg h0]
        simp only
        intro e
        have hno := next_ok (l := nI ln) (s := nI (stateP ln c)) (task := (dayT r d : Int)) (o := valsN (dayT r d : Int) 0 ((nI ln).zip (nI (stateP ln c)))) (fun x hx => by
          obtain ⟨y, hy, rfl⟩ := List.mem_map.1 hx
          have := hok y hy
          omega) (state_ok hok c) (by unfold nextP; rw [if_neg h0])
        obtain ⟨t, _, h2, _⟩ := st_num hno
        omega
      obtain ⟨t, ht, haft, hnext⟩ := aft_next hok hne
      have hmem : t ∈ tosP ln c := (mem_tos hok).2 ⟨dayT r d, hf, ht, hnext⟩
      obtain ⟨_, hlow, _⟩ := (hL c hc).2 (by omega)
      obtain ⟨h1, h2⟩ := hlow t hmem
      obtain ⟨k, hkk⟩ := Int.eq_ofNat_of_zero_le h1
      refine ih k (by omega) (d + 1) t ht (fun i z hz => ?_) hkk
      have hil := (List.getElem?_eq_some_iff.1 hz).1
      have hdt : (stateP ln t).length = ln.length := digR_len ln t
      have hx : ln[i]? = some (ln[i]'(by omega)) := List.getElem?_eq_getElem _
      generalize ln[i]'(by omega) = x at hx
      obtain ⟨y, hy, _, _⟩ := state_get hok c hx
      obtain ⟨z', hz', hzv⟩ := next_get hnext hx hy
      rw [hz] at hz'
      cases hz'
      by_cases hi : i = dayT r d
      · rw [if_pos hi] at hzv
        obtain ⟨e, h3, h4, h5⟩ := hwin i x hx (d + 1)
        exact ⟨e, h3, by omega, h5⟩
      · rw [if_neg hi] at hzv
        obtain ⟨e, h3, h4, h5⟩ := hgood i y hy
        have : e ≠ d := fun e' => hi (by rw [← h5, e'])
        exact ⟨e, by omega, by omega, h5⟩
  obtain ⟨hb1, hb2⟩ := beg_spec hok
  refine Classical.byContradiction fun hne => ?_
  obtain ⟨n, hn⟩ := Int.eq_ofNat_of_zero_le ((hL _ hb1).2 hne).1
  refine key n 0 (beg ln) hb1 (fun i y hy => ?_) hn
  rw [hb2] at hy
  exact hwin i y hy 0

theorem Win.mono {r : List Nat} {i n m : Nat} (h : Win r i n) (hm : n ≤ m) : Win r i m := fun d => by
  obtain ⟨e, h1, h2, h3⟩ := h d
  exact ⟨e, h1, by omega, h3⟩

end Go.AM
