/- Growths and bounds. -/
import Derived.Test.YtnhmgokjijlhbaaSh
namespace Go.AM
open Go.Proofs Go.Lives

/-! ### States without an end go round -/

theorem cyc_exists {ln : List Nat} (hok : ∀ x ∈ ln, 1 ≤ x) {c0 : Nat} (hc0 : c0 < prodN ln) (hn0 : lifeF ln c0 = -1) : ∃ r, KeepsR ln r := by
  have key : ∀ (m : Nat) (path : List Nat) (c : Nat), m = prodN ln - path.length → path.Nodup → (∀ x ∈ path, x < prodN ln) → c < prodN ln → lifeF ln c = -1 → (∀ d p, path[d]? = some p → walk ln p ((path.drop d).map (pickR ln)) = some c) →
      (∀ x ∈ path.map (pickR ln), x < ln.length) → ∃ r c', r ≠ [] ∧ (∀ x ∈ r, x < ln.length) ∧ walk ln c' r = some c' := by
    intro m
    induction m with
    | zero =>
      intro path c hm hnd hpD hc hcn hwalk htl
      have hplen : path.length ≤ prodN ln := by
        have := hnd.length_le_of_subset (l₂ := List.range (prodN ln)) fun x hx => List.mem_range.2 (hpD x hx)
        rwa [List.length_range] at this
      have hcp : c ∈ path := by
        refine Classical.byContradiction fun hcp => ?_
        have := (List.nodup_cons.2 ⟨hcp, hnd⟩).length_le_of_subset (l₂ := List.range (prodN ln)) fun x hx => by
          rcases List.mem_cons.1 hx with rfl | hx
          · exact List.mem_range.2 hc
          · exact List.mem_range.2 (hpD x hx)
        rw [List.length_range, List.length_cons] at this
        omega
      obtain ⟨d, hd⟩ := List.getElem?_of_mem hcp
      have hdl := (List.getElem?_eq_some_iff.1 hd).1
      refine ⟨(path.drop d).map (pickR ln), c, fun e => ?_, fun x hx => ?_, hwalk d c hd⟩
      · have := congrArg List.length e
        simp at this
        omega
      · obtain ⟨y, hy, rfl⟩ := List.mem_map.1 hx
        exact htl _ (List.mem_map.2 ⟨y, List.mem_of_mem_drop hy, rfl⟩)
    | succ m ih =>
      intro path c hm hnd hpD hc hcn hwalk htl
      by_cases hcp : c ∈ path
      · obtain ⟨d, hd⟩ := List.getElem?_of_mem hcp
        have hdl := (List.getElem?_eq_some_iff.1 hd).1
        refine ⟨(path.drop d).map (pickR ln), c, fun e => ?_, fun x hx => ?_, hwalk d c hd⟩
        · have := congrArg List.length e
          simp at this
          omega
        · obtain ⟨y, hy, rfl⟩ := List.mem_map.1 hx
          exact htl _ (List.mem_map.2 ⟨y, List.mem_of_mem_drop hy, rfl⟩)
      · obtain ⟨_, hpl, t, htD, haft, hlt⟩ := pickR_ok hok hc hcn
        refine ih (path ++ [c]) t (by simp; omega) ?_ (fun x hx => ?_) htD hlt (fun d p hp => ?_) (fun x hx => ?_)
        · rw [List.nodup_append]
          exact ⟨hnd, by simp, fun x hx y hy => by simp at hy; subst hy; exact fun e => hcp (e ▸ hx)⟩
        · rcases List.mem_append.1 hx with h | h
          · exact hpD x h
          · simp at h; subst h; exact hc
        · rcases Nat.lt_or_ge d path.length with hd | hd
          · rw [List.getElem?_append_left hd] at hp
            rw [List.drop_append_of_le_length (by omega), List.map_append, walk_append, hwalk d p hp]
            simp [walk, haft]
          · have hdp : d = path.length := by
              have := (List.getElem?_eq_some_iff.1 hp).1
              simp at this
              omega
            subst hdp
            rw [List.getElem?_append_right (Nat.le_refl _), Nat.sub_self] at hp
            simp at hp
            subst hp
            rw [List.drop_append_of_le_length (Nat.le_refl _), List.drop_length]
            simp [walk, haft]
        · rw [List.map_append, List.mem_append] at hx
          rcases hx with h | h
          · exact htl x h
          · simp at h; subst h; exact hpl
  obtain ⟨r, c', h1, h2, h3⟩ := key _ [] c0 rfl (by simp) (by simp) hc0 hn0 (by simp) (by simp)
  exact ⟨r, cyc_keeps hok h1 h2 h3⟩

/-! ### Growths -/

structure GrowI (gl : List Nat) : Prop where
  len : 1 ≤ gl.length ∧ gl.length ≤ 4
  rng : ∀ x ∈ gl, 1 ≤ x ∧ x ≤ 5

def divL (gl : List Nat) (b : Nat) : List Nat := gl.map fun n => b / n

/-- A bound that holds. -/
def feas (gl : List Nat) (b : Nat) : Prop := (∀ n ∈ gl, n ≤ b) ∧ lifeF (divL gl b) (beg (divL gl b)) = -1

theorem divL_ok {gl : List Nat} {b : Nat} (hg : ∀ x ∈ gl, 1 ≤ x ∧ x ≤ 5) (h : ∀ n ∈ gl, n ≤ b) : ∀ x ∈ divL gl b, 1 ≤ x := by
  intro x hx
  obtain ⟨n, hn, rfl⟩ := List.mem_map.1 hx
  exact (Nat.le_div_iff_mul_le (by have := hg n hn; omega)).2 (by have := h n hn; omega)

theorem feas_keeps {gl : List Nat} {b : Nat} (hg : ∀ x ∈ gl, 1 ≤ x ∧ x ≤ 5) : feas gl b ↔ (∀ n ∈ gl, n ≤ b) ∧ ∃ r, KeepsR (divL gl b) r := by
  constructor
  · rintro ⟨h1, h2⟩
    have hok := divL_ok hg h1
    exact ⟨h1, cyc_exists hok (beg_spec hok).1 h2⟩
  · rintro ⟨h1, r, h2⟩
    exact ⟨h1, keeps_life (divL_ok hg h1) h2⟩

theorem divL_get {gl : List Nat} {b i m : Nat} (h : (divL gl b)[i]? = some m) : ∃ n, gl[i]? = some n ∧ m = b / n := by
  unfold divL at h
  rw [List.getElem?_map] at h
  cases hg : gl[i]? with
  | none => rw [hg] at h; cases h
  | some n => rw [hg] at h; exact ⟨n, rfl, (Option.some.inj h).symm⟩

theorem feas_sum {gl : List Nat} {b : Nat} (hg : ∀ x ∈ gl, 1 ≤ x ∧ x ≤ 5) (h : feas gl b) : gl.sum ≤ b := by
  obtain ⟨h1, r, hr⟩ := (feas_keeps hg).1 h
  have hok := divL_ok hg h1
  have hd := keeps_dens hok hr
  have hp := prodN_pos hok
  have key : ∀ l : List Nat, l.sum * prodN (divL l b) ≤ b * sumN (divL l b) := by
    intro l
    induction l with
    | nil => simp [divL, sumN]
    | cons n l ih =>
      have e : divL (n :: l) b = (b / n) :: divL l b := rfl
      rw [e]
      simp only [List.sum_cons, prodN, sumN]
      have h2 : n * (b / n) ≤ b := Nat.mul_div_le b n
      have h3 := Nat.mul_le_mul_right (prodN (divL l b)) h2
      have h4 := Nat.mul_le_mul_left (b / n) ih
      rw [Nat.add_mul, Nat.mul_add]
      have e1 : n * (b / n * prodN (divL l b)) = n * (b / n) * prodN (divL l b) := (Nat.mul_assoc _ _ _).symm
      have e2 : l.sum * (b / n * prodN (divL l b)) = b / n * (l.sum * prodN (divL l b)) := Nat.mul_left_comm _ _ _
      have e3 : b * (b / n * sumN (divL l b)) = b / n * (b * sumN (divL l b)) := Nat.mul_left_comm _ _ _
      rw [e1, e2, e3]
      exact Nat.add_le_add h3 h4
  have h2 := key gl
  have h3 : gl.sum * prodN (divL gl b) ≤ b * prodN (divL gl b) := Nat.le_trans h2 (Nat.mul_le_mul_left b hd)
  exact Nat.le_of_mul_le_mul_right h3 hp

/-! #### Twice the sum holds -/

def pow3 (n : Nat) : Nat := if n < 2 then 1 else if n < 4 then 2 else if n < 8 then 4 else 8
def qsG (gl : List Nat) : List Nat := gl.map fun n => pow3 (2 * gl.sum / n)

def sched3 (qs : List Nat) : List Nat :=
  (([1, 2, 4, 8].foldl (fun slots p => (List.range qs.length).foldl (fun slots i => if qs[i]? = some p then place slots i p else slots) slots) (List.replicate 8 none)).map fun o => o.getD 0)

def growL : Nat → List (List Nat)
  | 0 => [[]]
  | n + 1 => (growL n).flatMap fun l => [1 :: l, 2 :: l, 3 :: l, 4 :: l, 5 :: l]

def okG (gl : List Nat) : Bool := decide (prodN (divL gl (2 * gl.sum)) ≤ 20000) && okR (qsG gl) (sched3 (qsG gl))

theorem grow_ok : ((List.range 5).all fun n => (growL n).all fun gl => gl.isEmpty || okG gl) = true := by decide +kernel

theorem grow_mem : ∀ gl : List Nat, (∀ x ∈ gl, 1 ≤ x ∧ x ≤ 5) → gl ∈ growL gl.length := by
  intro gl
  induction gl with
  | nil => intro _; simp [growL]
  | cons x l ih =>
    intro h
    have hx := h x (by simp)
    simp only [List.length_cons, growL, List.mem_flatMap]
    refine ⟨l, ih fun y hy => h y (by simp [hy]), ?_⟩
    have : x = 1 ∨ x = 2 ∨ x = 3 ∨ x = 4 ∨ x = 5 := by omega
    rcases this with rfl | rfl | rfl | rfl | rfl <;> simp

theorem grow_facts {gl : List Nat} (hg : GrowI gl) : prodN (divL gl (2 * gl.sum)) ≤ 20000 ∧ KeepsR (qsG gl) (sched3 (qsG gl)) := by
  have h := grow_ok
  rw [List.all_eq_true] at h
  have h := h gl.length (List.mem_range.2 (by have := hg.len; omega))
  rw [List.all_eq_true] at h
  have h := h gl (grow_mem gl hg.rng)
  have hne : gl.isEmpty = false := by
    cases gl with
    | nil => have := hg.len; simp at this
    | cons => rfl
  rw [hne, Bool.false_or] at h
  unfold okG at h
  rw [Bool.and_eq_true, decide_eq_true_iff] at h
  exact ⟨h.1, keeps_of_ok h.2⟩

theorem mem_le_sum {gl : List Nat} {n : Nat} (h : n ∈ gl) : n ≤ gl.sum := by
  induction gl with
  | nil => simp at h
  | cons x l ih =>
    rw [List.sum_cons]
    rcases List.mem_cons.1 h with rfl | h
    · omega
    · have := ih h; omega

theorem feas_twice {gl : List Nat} (hg : GrowI gl) : feas gl (2 * gl.sum) := by
  refine (feas_keeps hg.rng).2 ⟨fun n hn => by have := mem_le_sum hn; omega, _, keeps_weaken (grow_facts hg).2 (by simp [qsG, divL]) fun i q n hq hn => ?_⟩
  obtain ⟨x, hx, rfl⟩ := divL_get hn
  unfold qsG at hq
  rw [List.getElem?_map, hx] at hq
  have hq := Option.some.inj hq
  have hxm := List.mem_of_getElem? hx
  have h1 := hg.rng x hxm
  have h2 := mem_le_sum hxm
  have h3 : 1 ≤ 2 * gl.sum / x := (Nat.le_div_iff_mul_le (by omega)).2 (by omega)
  rw [← hq]
  show pow3 (2 * gl.sum / x) ≤ _
  unfold pow3
  split
  · omega
  · split
    · omega
    · split <;> omega

theorem prodN_mono : ∀ (a b : List Nat), a.length = b.length → (∀ (i x y : Nat), a[i]? = some x → b[i]? = some y → x ≤ y) → prodN a ≤ prodN b := by
  intro a
  induction a with
  | nil => intro b h _; cases b <;> simp_all
  | cons x a ih =>
    intro b hl h
    cases b with
    | nil => simp at hl
    | cons y b =>
      simp only [prodN]
      exact Nat.mul_le_mul (h 0 x y rfl rfl) (ih b (by simpa using hl) fun i x y hx hy => h (i + 1) x y (by simpa using hx) (by simpa using hy))

theorem sum_le {gl : List Nat} (hg : GrowI gl) : 1 ≤ gl.sum ∧ gl.sum ≤ 20 := by
  have h1 : ∀ l : List Nat, (∀ x ∈ l, 1 ≤ x ∧ x ≤ 5) → l.sum ≤ 5 * l.length ∧ l.length ≤ l.sum := by
    intro l
    induction l with
    | nil => intro _; simp
    | cons x l ih =>
      intro h
      have := ih fun y hy => h y (by simp [hy])
      have := h x (by simp)
      rw [List.sum_cons, List.length_cons]
      omega
  have := h1 gl hg.rng
  have := hg.len
  omega

/-- The tasks of a bound. -/
theorem divL_task {gl : List Nat} (hg : GrowI gl) {b : Nat} (h1 : ∀ n ∈ gl, n ≤ b) (h2 : b ≤ 2 * gl.sum) : TaskI (nI (divL gl b)) := by
  have hok := divL_ok hg.rng h1
  have hs := sum_le hg
  refine ⟨by simp [divL]; have := hg.len; omega, fun x hx => ?_, ?_⟩
  · obtain ⟨y, hy, rfl⟩ := List.mem_map.1 hx
    have := hok y hy
    obtain ⟨n, hn, rfl⟩ := List.mem_map.1 hy
    have : b / n ≤ b := Nat.div_le_self _ _
    omega
  · rw [prodP_nI]
    have := prodN_mono (divL gl b) (divL gl (2 * gl.sum)) (by simp [divL]) fun i x y hx hy => by
      obtain ⟨n, hn, rfl⟩ := divL_get hx
      obtain ⟨n', hn', rfl⟩ := divL_get hy
      rw [hn] at hn'
      cases hn'
      exact Nat.div_le_div_right h2
    have := (grow_facts hg).1
    omega

/-- The least bound. -/
theorem bound_ex {gl : List Nat} (hg : GrowI gl) : ∃ b, feas gl b ∧ ∀ b', b' < b → ¬ feas gl b' := by
  have key : ∀ n, feas gl n → ∃ b, feas gl b ∧ ∀ b', b' < b → ¬ feas gl b' := by
    intro n
    induction n using Nat.strongRecOn with
    | ind n ih =>
      intro h
      by_cases hex : ∃ b', b' < n ∧ feas gl b'
      · obtain ⟨b', h1, h2⟩ := hex
        exact ih b' h1 h2
      · exact ⟨n, h, fun b' h1 h2 => hex ⟨b', h1, h2⟩⟩
  exact key _ (feas_twice hg)

noncomputable def boundP (gl : List Nat) : Nat := by
  classical
  exact if h : ∃ b, feas gl b ∧ ∀ b', b' < b → ¬ feas gl b' then Classical.choose h else 0

theorem bound_spec {gl : List Nat} (hg : GrowI gl) : feas gl (boundP gl) ∧ (∀ b', b' < boundP gl → ¬ feas gl b') ∧ gl.sum ≤ boundP gl ∧ boundP gl ≤ 2 * gl.sum := by
  have h := bound_ex hg
  have hs := Classical.choose_spec h
  have e : boundP gl = Classical.choose h := by unfold boundP; rw [dif_pos h]
  rw [← e] at hs
  refine ⟨hs.1, hs.2, feas_sum hg.rng hs.1, ?_⟩
  refine Classical.byContradiction fun hc => ?_
  exact hs.2 _ (by omega) (feas_twice hg)

end Go.AM
