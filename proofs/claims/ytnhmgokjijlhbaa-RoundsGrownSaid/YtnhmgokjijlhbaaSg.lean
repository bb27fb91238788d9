/- Densities: tasks that can be kept, and tasks that can be kept by few days. -/
import Derived.Test.YtnhmgokjijlhbaaSf
namespace Go.AM
open Go.Proofs Go.Lives

/-! ### Tasks that can be kept have a density of at most one -/

def cntD (r : List Nat) (i T : Nat) : Nat := (List.range T).countP fun d => decide (dayT r d = i)

theorem cnt_win {r : List Nat} {i n : Nat} (h : Win r i n) : ∀ k, k ≤ cntD r i (k * n) := by
  intro k
  induction k with
  | zero => exact Nat.zero_le _
  | succ k ih =>
    obtain ⟨e, h1, h2, h3⟩ := h (k * n)
    have hsplit : cntD r i ((k + 1) * n) = cntD r i (k * n) + (List.range' (k * n) n).countP fun d => decide (dayT r d = i) := by
      unfold cntD
      rw [Nat.add_mul, Nat.one_mul, List.range_eq_range', List.range_eq_range', ← List.range'_append_1, List.countP_append, Nat.zero_add]
    have hpos : 0 < (List.range' (k * n) n).countP fun d => decide (dayT r d = i) := by
      rw [List.countP_pos_iff]
      exact ⟨e, by rw [List.mem_range'_1]; omega, by simp [h3]⟩
    omega

def cntS (r : List Nat) (T : Nat) : Nat → List Nat → Nat
  | _, [] => 0
  | i, _ :: l => cntD r i T + cntS r T (i + 1) l

theorem cntS_step (r : List Nat) (T : Nat) : ∀ (l : List Nat) (i : Nat), cntS r (T + 1) i l = cntS r T i l + if i ≤ dayT r T ∧ dayT r T < i + l.length then 1 else 0 := by
  intro l
  induction l with
  | nil =>
    intro i
    rw [if_neg (by simp)]
    rfl
  | cons x l ih =>
    intro i
    simp only [cntS, ih]
    have hc : cntD r i (T + 1) = cntD r i T + if dayT r T = i then 1 else 0 := by
      unfold cntD
      rw [List.range_succ, List.countP_append]
      congr 1
      simp [List.countP_cons]
    rw [hc, List.length_cons]
    by_cases h1 : dayT r T = i
    · rw [if_pos h1, if_neg (by omega), if_pos (by omega)]; omega
    · rw [if_neg h1]
      by_cases h2 : i + 1 ≤ dayT r T ∧ dayT r T < i + 1 + l.length
      · rw [if_pos h2, if_pos (by omega)]; omega
      · rw [if_neg h2, if_neg (by omega)]; omega

theorem cntS_le (r : List Nat) (l : List Nat) : ∀ T, cntS r T 0 l ≤ T := by
  intro T
  induction T with
  | zero =>
    have : ∀ (l : List Nat) (i : Nat), cntS r 0 i l = 0 := by
      intro l
      induction l with
      | nil => intro i; rfl
      | cons x l ih => intro i; simp [cntS, ih, cntD]
    rw [this]
    exact Nat.le_refl _
  | succ T ih =>
    rw [cntS_step]
    split <;> omega

theorem cntS_dens (r : List Nat) (T : Nat) : ∀ (l : List Nat) (i : Nat), (∀ j n, l[j]? = some n → T ≤ cntD r (i + j) T * n) → T * sumN l ≤ cntS r T i l * prodN l := by
  intro l
  induction l with
  | nil => intro i _; simp [sumN]
  | cons x l ih =>
    intro i h
    have h0 := h 0 x rfl
    have h1 := ih (i + 1) (fun j n hj => by
      have := h (j + 1) n (by simpa using hj)
      rw [show i + (j + 1) = i + 1 + j by omega] at this
      exact this)
    simp only [sumN, cntS, prodN]
    rw [Nat.add_zero] at h0
    have h2 := Nat.mul_le_mul_right (prodN l) h0
    have h3 := Nat.mul_le_mul_left x h1
    rw [Nat.mul_add, Nat.add_mul]
    have e1 : cntD r i T * (x * prodN l) = cntD r i T * x * prodN l := (Nat.mul_assoc _ _ _).symm
    have e2 : T * (x * sumN l) = x * (T * sumN l) := Nat.mul_left_comm _ _ _
    have e3 : cntS r T (i + 1) l * (x * prodN l) = x * (cntS r T (i + 1) l * prodN l) := Nat.mul_left_comm _ _ _
    rw [e1, e2, e3]
    exact Nat.add_le_add h2 h3

theorem prod_dvd : ∀ (l : List Nat) (n : Nat), n ∈ l → ∃ k, prodN l = k * n := by
  intro l
  induction l with
  | nil => intro n h; simp at h
  | cons x l ih =>
    intro n h
    rcases List.mem_cons.1 h with rfl | h
    · exact ⟨prodN l, by simp [prodN, Nat.mul_comm]⟩
    · obtain ⟨k, hk⟩ := ih n h
      exact ⟨x * k, by simp [prodN, hk, Nat.mul_assoc]⟩

theorem keeps_dens {ln r : List Nat} (hok : ∀ x ∈ ln, 1 ≤ x) (hk : KeepsR ln r) : sumN ln ≤ prodN ln := by
  obtain ⟨_, _, hw⟩ := hk
  have hpos : 0 < prodN ln := by
    have : ∀ l : List Nat, (∀ x ∈ l, 1 ≤ x) → 0 < prodN l := by
      intro l
      induction l with
      | nil => intro _; decide
      | cons x l ih => intro h; exact Nat.mul_pos (h x (by simp)) (ih fun y hy => h y (by simp [hy]))
    exact this ln hok
  have h1 := cntS_dens r (prodN ln) ln 0 (fun j n hj => by
    rw [Nat.zero_add]
    obtain ⟨k, hk⟩ := prod_dvd ln n (List.mem_of_getElem? hj)
    have := cnt_win (hw j n hj) k
    rw [← hk] at this
    calc prodN ln = k * n := hk
      _ ≤ _ := Nat.mul_le_mul_right n this)
  have h2 := Nat.mul_le_mul_right (prodN ln) (cntS_le r ln (prodN ln))
  exact Nat.le_of_mul_le_mul_left (Nat.le_trans h1 h2) hpos

/-! ### Tasks of a small density can be kept -/

/-- Powers of two. -/
def pow2 (n : Nat) : Nat := if n < 4 then 2 else if n < 8 then 4 else 8
def wt (n : Nat) : Nat := 8 / pow2 n
def wts : List Nat → Nat
  | [] => 0
  | x :: l => wt x + wts l

theorem wts_le {l : List Nat} (h : ∀ x ∈ l, 2 ≤ x ∧ x ≤ 12) : wts l * prodN l ≤ 14 * sumN l := by
  induction l with
  | nil => simp [wts, sumN]
  | cons x l ih =>
    have ih := ih fun y hy => h y (by simp [hy])
    have hx := h x (by simp)
    have hwx : wt x * x ≤ 14 := by
      have : ∀ x, x < 13 → 2 ≤ x → wt x * x ≤ 14 := by decide
      exact this x (by omega) hx.1
    simp only [wts, sumN, prodN]
    have h1 := Nat.mul_le_mul_right (prodN l) hwx
    have h2 := Nat.mul_le_mul_left x ih
    rw [Nat.add_mul, Nat.mul_add]
    have e1 : wt x * (x * prodN l) = wt x * x * prodN l := (Nat.mul_assoc _ _ _).symm
    have e2 : wts l * (x * prodN l) = x * (wts l * prodN l) := Nat.mul_left_comm _ _ _
    have e3 : 14 * (x * sumN l) = x * (14 * sumN l) := Nat.mul_left_comm _ _ _
    rw [e1, e2, e3]
    exact Nat.add_le_add h1 h2

/-- A place for each task, those that come more often first. -/
def place (slots : List (Option Nat)) (i p : Nat) : List (Option Nat) :=
  match (List.range p).find? fun o => (List.range 8).all fun d => if d % p = o then (slots[d]?.getD none).isNone else true with
  | some o => (List.range 8).map fun d => if d % p = o then some i else slots[d]?.getD none
  | none => slots

def sched (qs : List Nat) : List Nat :=
  (([2, 4, 8].foldl (fun slots p => (List.range qs.length).foldl (fun slots i => if qs[i]? = some p then place slots i p else slots) slots) (List.replicate 8 none)).map fun o => o.getD 0)

def okSched (qs r : List Nat) : Bool :=
  r.length == 8 && r.all (fun x => decide (x < qs.length)) && (List.range qs.length).all fun i => (List.range 8).all fun d => (List.range (qs[i]?.getD 0)).any fun e => dayT r (d + e) == i

def listsOf : Nat → List (List Nat)
  | 0 => [[]]
  | n + 1 => (listsOf n).flatMap fun l => [2 :: l, 4 :: l, 8 :: l]

def wsum (qs : List Nat) : Nat := (qs.map fun q => 8 / q).sum

theorem sched_ok : ∀ n, n < 6 → ∀ qs ∈ listsOf n, qs ≠ [] → wsum qs ≤ 8 → okSched qs (sched qs) = true := by decide +kernel

theorem pow_mem : ∀ ln : List Nat, ln.map pow2 ∈ listsOf ln.length := by
  intro ln
  induction ln with
  | nil => simp [listsOf]
  | cons x l ih =>
    simp only [List.map_cons, List.length_cons, listsOf, List.mem_flatMap]
    refine ⟨_, ih, ?_⟩
    unfold pow2
    split
    · simp
    · split <;> simp

theorem keeps_of_sched {qs : List Nat} (hne : qs ≠ []) (h : okSched qs (sched qs) = true) : KeepsR qs (sched qs) := by
  unfold okSched at h
  simp only [Bool.and_eq_true, beq_iff_eq, List.all_eq_true, decide_eq_true_eq, List.any_eq_true, List.mem_range] at h
  obtain ⟨⟨h1, h2⟩, h3⟩ := h
  refine ⟨fun e => (by rw [e] at h1; cases h1), h2, fun i n hi d => ?_⟩
  have hil := (List.getElem?_eq_some_iff.1 hi).1
  apply win_shift
  obtain ⟨e, he, hd⟩ := h3 i hil (d % (sched qs).length) (by rw [h1]; exact Nat.mod_lt _ (by decide))
  rw [hi, Option.getD_some] at he
  exact ⟨d % (sched qs).length + e, by omega, by omega, hd⟩

theorem keeps_weaken {ln qs r : List Nat} (hk : KeepsR qs r) (hl : qs.length = ln.length) (hle : ∀ (i q n : Nat), qs[i]? = some q → ln[i]? = some n → q ≤ n) : KeepsR ln r := by
  obtain ⟨h1, h2, h3⟩ := hk
  refine ⟨h1, fun x hx => by rw [← hl]; exact h2 x hx, fun i n hi => ?_⟩
  have hil := (List.getElem?_eq_some_iff.1 hi).1
  have hq : qs[i]? = some (qs[i]'(by omega)) := List.getElem?_eq_getElem _
  exact (h3 i _ hq).mono (hle i _ n hq hi)

theorem pow2_le {n : Nat} (h : 2 ≤ n) : pow2 n ≤ n := by unfold pow2; split <;> (try split) <;> omega

theorem wsum_wts (ln : List Nat) : wsum (ln.map pow2) = wts ln := by
  induction ln with
  | nil => rfl
  | cons x l ih =>
    have : wsum ((x :: l).map pow2) = 8 / pow2 x + wsum (l.map pow2) := by simp [wsum]
    rw [this, ih]
    rfl

theorem sum_ge {l : List Nat} (h : ∀ x ∈ l, 1 ≤ x) {x : Nat} (hx : x ∈ l) : prodN l ≤ x * sumN l := by
  induction l with
  | nil => simp at hx
  | cons y l ih =>
    simp only [prodN, sumN]
    rcases List.mem_cons.1 hx with rfl | hx
    · rw [Nat.mul_add]
      exact Nat.le_add_right _ _
    · have := ih (fun z hz => h z (by simp [hz])) hx
      rw [Nat.mul_add]
      have h2 := Nat.mul_le_mul_left y this
      have e : x * (y * sumN l) = y * (x * sumN l) := Nat.mul_left_comm _ _ _
      rw [e]
      omega

/-- At most one half. -/
theorem dense_half {ln : List Nat} (hne : ln ≠ []) (hok : ∀ x ∈ ln, 1 ≤ x ∧ x ≤ 12) (h5 : ln.length ≤ 5) (hd : sumN ln * 2 ≤ prodN ln) : ∃ r, KeepsR ln r := by
  have hp := prodN_pos fun x hx => (hok x hx).1
  have h2 : ∀ x ∈ ln, 2 ≤ x ∧ x ≤ 12 := fun x hx => by
    have h1 := sum_ge (fun x hx => (hok x hx).1) hx
    have h3 := hok x hx
    refine ⟨?_, h3.2⟩
    refine Classical.byContradiction fun hc => ?_
    have : x = 1 := by omega
    subst this
    omega
  have hw : wts ln ≤ 7 := by
    have h1 := wts_le h2
    have h4 : wts ln * prodN ln ≤ 7 * prodN ln := by omega
    exact Nat.le_of_mul_le_mul_right h4 hp
  have hs := sched_ok ln.length (by omega) (ln.map pow2) (pow_mem ln) (by simpa using hne) (by rw [wsum_wts]; omega)
  refine ⟨_, keeps_weaken (keeps_of_sched (by simpa using hne) hs) (by simp) fun i q n hq hn => ?_⟩
  rw [List.getElem?_map, hn] at hq
  cases hq
  exact pow2_le (h2 n (List.mem_of_getElem? hn)).1

/-- A round that is checked. -/
def okR (qs r : List Nat) : Bool :=
  !r.isEmpty && r.all (fun x => decide (x < qs.length)) && (List.range qs.length).all fun i => (List.range r.length).all fun d => (List.range (qs[i]?.getD 0)).any fun e => dayT r (d + e) == i

theorem keeps_of_ok {qs r : List Nat} (h : okR qs r = true) : KeepsR qs r := by
  unfold okR at h
  simp only [Bool.and_eq_true, beq_iff_eq, List.all_eq_true, decide_eq_true_eq, List.any_eq_true, List.mem_range] at h
  obtain ⟨⟨h1, h2⟩, h3⟩ := h
  have hne : r ≠ [] := by cases r <;> simp_all
  refine ⟨hne, h2, fun i n hi d => ?_⟩
  have hil := (List.getElem?_eq_some_iff.1 hi).1
  apply win_shift
  obtain ⟨e, he, hd⟩ := h3 i hil (d % r.length) (Nat.mod_lt _ (List.length_pos_iff.2 hne))
  rw [hi, Option.getD_some] at he
  exact ⟨d % r.length + e, by omega, by omega, hd⟩

theorem dense_one {a : Nat} (ha : 1 ≤ a) : ∃ r, KeepsR [a] r :=
  ⟨[0], keeps_weaken (qs := [1]) (keeps_of_ok (by decide)) rfl fun i q n hq hn => by
    cases i with
    | zero => simp at hq hn; omega
    | succ i => simp at hq⟩

theorem dense_two {a b : Nat} (ha : 1 ≤ a) (hb : 1 ≤ b) (hd : sumN [a, b] ≤ prodN [a, b]) : ∃ r, KeepsR [a, b] r := by
  have h2 : 2 ≤ a ∧ 2 ≤ b := by
    simp only [sumN, prodN, Nat.mul_one, Nat.mul_zero, Nat.add_zero] at hd
    constructor
    · refine Classical.byContradiction fun hc => ?_
      have : a = 1 := by omega
      subst this
      omega
    · refine Classical.byContradiction fun hc => ?_
      have : b = 1 := by omega
      subst this
      omega
  exact ⟨[0, 1], keeps_weaken (qs := [2, 2]) (keeps_of_ok (by decide)) rfl fun i q n hq hn => by
    match i with
    | 0 => simp at hq hn; omega
    | 1 => simp at hq hn; omega
    | i + 2 => simp at hq⟩

theorem three_all : ((List.range 13).all fun a => (List.range 13).all fun b => (List.range 13).all fun c =>
    !(decide (1 ≤ a) && decide (1 ≤ b) && decide (1 ≤ c) && decide ((b * c + a * c + a * b) * 6 ≤ a * b * c * 5)) ||
    (decide (3 ≤ a ∧ 3 ≤ b ∧ 3 ≤ c) || decide (2 ≤ a ∧ 4 ≤ b ∧ 4 ≤ c) || decide (4 ≤ a ∧ 2 ≤ b ∧ 4 ≤ c) || decide (4 ≤ a ∧ 4 ≤ b ∧ 2 ≤ c))) = true := by decide +kernel

theorem three {a b c : Nat} (ha : 1 ≤ a ∧ a ≤ 12) (hb : 1 ≤ b ∧ b ≤ 12) (hc : 1 ≤ c ∧ c ≤ 12) (hd : (b * c + a * c + a * b) * 6 ≤ a * b * c * 5) :
    (3 ≤ a ∧ 3 ≤ b ∧ 3 ≤ c) ∨ (2 ≤ a ∧ 4 ≤ b ∧ 4 ≤ c) ∨ (4 ≤ a ∧ 2 ≤ b ∧ 4 ≤ c) ∨ (4 ≤ a ∧ 4 ≤ b ∧ 2 ≤ c) := by
  have h := three_all
  rw [List.all_eq_true] at h
  have h := h a (List.mem_range.2 (by omega))
  rw [List.all_eq_true] at h
  have h := h b (List.mem_range.2 (by omega))
  rw [List.all_eq_true] at h
  have h := h c (List.mem_range.2 (by omega))
  simp only [Bool.or_eq_true, Bool.not_eq_true', Bool.and_eq_false_imp, Bool.and_eq_true, decide_eq_true_eq, decide_eq_false_iff_not] at h
  rcases h with h | h
  · exact absurd hd (h ⟨⟨ha.1, hb.1⟩, hc.1⟩)
  · rcases h with ((h | h) | h) | h
    · exact .inl h
    · exact .inr (.inl h)
    · exact .inr (.inr (.inl h))
    · exact .inr (.inr (.inr h))

theorem dense_three {a b c : Nat} (ha : 1 ≤ a ∧ a ≤ 12) (hb : 1 ≤ b ∧ b ≤ 12) (hc : 1 ≤ c ∧ c ≤ 12) (hd : sumN [a, b, c] * 6 ≤ prodN [a, b, c] * 5) : ∃ r, KeepsR [a, b, c] r := by
  have h := three ha hb hc (by
    simp only [sumN, prodN, Nat.mul_one, Nat.mul_zero, Nat.add_zero] at hd
    have e1 : a * (c + b) = a * c + a * b := Nat.mul_add _ _ _
    have e2 : a * b * c = a * (b * c) := Nat.mul_assoc _ _ _
    rw [e2]
    rw [e1] at hd
    omega)
  have fin : ∀ (q0 q1 q2 : Nat), q0 ≤ a → q1 ≤ b → q2 ≤ c → ∀ (i q n : Nat), [q0, q1, q2][i]? = some q → [a, b, c][i]? = some n → q ≤ n := by
    intro q0 q1 q2 h0 h1 h2 i q n hq hn
    match i with
    | 0 => simp at hq hn; omega
    | 1 => simp at hq hn; omega
    | 2 => simp at hq hn; omega
    | i + 3 => simp at hq
  rcases h with ⟨h1, h2, h3⟩ | ⟨h1, h2, h3⟩ | ⟨h1, h2, h3⟩ | ⟨h1, h2, h3⟩
  · exact ⟨[0, 1, 2], keeps_weaken (qs := [3, 3, 3]) (keeps_of_ok (by decide)) rfl (fin _ _ _ h1 h2 h3)⟩
  · exact ⟨[0, 1, 0, 2], keeps_weaken (qs := [2, 4, 4]) (keeps_of_ok (by decide)) rfl (fin _ _ _ h1 h2 h3)⟩
  · exact ⟨[1, 0, 1, 2], keeps_weaken (qs := [4, 2, 4]) (keeps_of_ok (by decide)) rfl (fin _ _ _ h1 h2 h3)⟩
  · exact ⟨[2, 0, 2, 1], keeps_weaken (qs := [4, 4, 2]) (keeps_of_ok (by decide)) rfl (fin _ _ _ h1 h2 h3)⟩

end Go.AM
