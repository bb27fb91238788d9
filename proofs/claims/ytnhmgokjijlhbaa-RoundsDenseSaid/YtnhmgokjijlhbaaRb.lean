/- Fractions: the greatest common divisor, densities. -/
import Derived.Test.YtnhmgokjijlhbaaRa
import Derived.Test.YtnhmgokjijlhbaaRw
namespace Go.AM
open Go.Proofs

variable {k : Nat} {R : Type}

attribute [local simp] nx_eq nx_new nx_set blk_new blk_set asI_int asK_int asB_bool asP_ptr al_eq bx_eq len_slice onE_exit onE_ret onR_ret Value.cells d3 d22 d31 w31 cell_new cell_set rd_new rd_set off eq lt le ifB gv out eqF1 eqF2 eqF3 eqF4 eqF5 eqF6 eqF7 eqF8 ext20 ext21

theorem quo_nat {a b : Nat} (ha : a < 2 ^ 62) : quo .i64 (a : Int) (b : Int) = ((a / b : Nat) : Int) := by
  unfold quo
  have e : ((a : Int).tdiv (b : Int)) = ((a / b : Nat) : Int) := by
    rw [Int.tdiv_eq_ediv_of_nonneg (by omega)]
    exact (Int.natCast_ediv a b).symm
  rw [e]
  have : a / b ≤ a := Nat.div_le_self a b
  generalize a / b = c at *
  exact wrap64 (by omega) (by omega)

theorem rem_nat (a b : Nat) : rem .i64 (a : Int) (b : Int) = ((a % b : Nat) : Int) := by
  unfold rem
  rw [Int.tmod_eq_emod_of_nonneg (by omega)]
  exact (Int.natCast_emod a b).symm

/-- Euclid's loop. -/
theorem euclid {F : List Value → H → Option (Ex × List Value × H)} {oj : Nat} {h : H} (hF : ∀ a b : Nat, F [iv a, iv b] h = if b = 0 then some (.exit oj, [iv a, iv b], h) else some (.normal, [iv b, iv ((a % b : Nat) : Int)], h)) :
    ∀ (b a k : Nat), b < k → lpGo F k [iv a, iv b] h = some (.exit oj, [iv (Nat.gcd a b), iv 0], h) := by
  intro b
  induction b using Nat.strongRecOn with
  | ind b ih =>
    intro a k hk
    cases k with
    | zero => omega
    | succ k =>
      by_cases hb : b = 0
      · subst hb
        have := hF a 0
        rw [if_pos rfl] at this
        rw [lpGo_exit this]
        simp
      · have := hF a b
        rw [if_neg hb] at this
        have hm : a % b < b := Nat.mod_lt _ (by omega)
        rw [lpGo_next this, ih (a % b) hm b k (by omega)]
        congr 4
        rw [Nat.gcd_comm b, ← Nat.gcd_rec, Nat.gcd_comm]

theorem s58 {a b : Nat} (h : H) : rn 58 #[iv a, iv b] h = some (iv (Nat.gcd a b), h) := by
  refine p58 (k := b + 1) (h1 := h) ?_ rfl (.refl _)
  have hl := euclid (F := f58_l1 rn (b + 1)) (oj := 0) (h := h) (fun a b => by
    by_cases hb : b = 0
    · subst hb; simp [f58_l1]
    · simp [f58_l1, hb, nz_ne, rem_nat, show ((b : Int) = 0) = False from eq_false (by omega)]) b a (b + 1) (by omega)
  simp [f58, lp_eq hl]

/-- The sum of parts: the product of others, of each one. -/
def prodN : List Nat → Nat
  | [] => 1
  | x :: l => x * prodN l
def sumN : List Nat → Nat
  | [] => 0
  | x :: l => prodN l + x * sumN l

def stepD (f : Nat × Nat) (n : Nat) : Nat × Nat := ((f.1 * n + f.2) / Nat.gcd (f.1 * n + f.2) (f.2 * n), (f.2 * n) / Nat.gcd (f.1 * n + f.2) (f.2 * n))

def red (f : Nat × Nat) : Nat × Nat := (f.1 / Nat.gcd f.1 f.2, f.2 / Nat.gcd f.1 f.2)

theorem red_step {N D n : Nat} (hD : 0 < D) : stepD (red (N, D)) n = red (N * n + D, D * n) := by
  obtain ⟨p, hp⟩ : Nat.gcd N D ∣ N := Nat.gcd_dvd_left _ _
  obtain ⟨q, hq⟩ : Nat.gcd N D ∣ D := Nat.gcd_dvd_right _ _
  have hg : 0 < Nat.gcd N D := Nat.gcd_pos_of_pos_right _ hD
  have r : red (N, D) = (N / Nat.gcd N D, D / Nat.gcd N D) := rfl
  rw [r]
  generalize Nat.gcd N D = g at *
  have e1 : N / g = p := by rw [hp, Nat.mul_div_cancel_left _ hg]
  have e2 : D / g = q := by rw [hq, Nat.mul_div_cancel_left _ hg]
  have e3 : N * n + D = g * (p * n + q) := by rw [hp, hq, Nat.mul_add, Nat.mul_assoc]
  have e4 : D * n = g * (q * n) := by rw [hq, Nat.mul_assoc]
  rw [e1, e2]
  unfold stepD red
  simp only
  rw [e3, e4, Nat.gcd_mul_left, Nat.mul_div_mul_left _ _ hg, Nat.mul_div_mul_left _ _ hg]

theorem prodN_pos {l : List Nat} (h : ∀ x ∈ l, 1 ≤ x) : 0 < prodN l := by
  induction l with
  | nil => decide
  | cons x l ih => exact Nat.mul_pos (h x (by simp)) (ih fun y hy => h y (by simp [hy]))

/-- The reference's fraction, step by step. -/
theorem stepD_fold : ∀ (l : List Nat) (N D : Nat), 0 < D → (∀ x ∈ l, 1 ≤ x) → l.foldl stepD (red (N, D)) = red (N * prodN l + D * sumN l, D * prodN l) := by
  intro l
  induction l with
  | nil => intro N D _ _; simp [prodN, sumN]
  | cons x l ih =>
    intro N D hD hx
    rw [List.foldl_cons, red_step hD, ih _ _ (Nat.mul_pos hD (hx x (by simp))) (fun y hy => hx y (by simp [hy]))]
    simp only [prodN, sumN]
    congr 2
    · grind
    · grind

/-- The program's sum. -/
theorem sum_fold : ∀ (l : List Nat) (c a : Nat), (∀ x ∈ l, 1 ≤ x) → l.foldl (fun s x => s + c * prodN l / x) a = a + c * sumN l := by
  have key : ∀ (l : List Nat) (den c a : Nat), (∀ x ∈ l, 1 ≤ x) → den = c * prodN l → l.foldl (fun s x => s + den / x) a = a + c * sumN l := by
    intro l
    induction l with
    | nil => intro den c a _ _; simp [sumN]
    | cons x l ih =>
      intro den c a hx hd
      have h1 := hx x (by simp)
      rw [List.foldl_cons, ih den (c * x) _ (fun y hy => hx y (by simp [hy])) (by rw [hd]; simp only [prodN]; grind)]
      have : den / x = c * prodN l := by
        rw [hd]
        simp only [prodN]
        rw [show c * (x * prodN l) = x * (c * prodN l) by grind, Nat.mul_div_cancel_left _ h1]
      rw [this]
      simp only [sumN]
      grind
  intro l c a h
  exact key l _ c a h rfl

/-- The density of tasks. -/
def densP (l : List Nat) : Nat × Nat := red (sumN l, prodN l)

theorem dens_ref {l : List Nat} (h : ∀ x ∈ l, 1 ≤ x) : l.foldl stepD (0, 1) = densP l := by
  have := stepD_fold l 0 1 (by decide) h
  have r : red (0, 1) = (0, 1) := by decide
  rw [r] at this
  rw [this]
  simp [densP]

theorem sumN_le {l : List Nat} (h : ∀ x ∈ l, 1 ≤ x ∧ x ≤ 12) : sumN l ≤ l.length * 12 ^ l.length ∧ prodN l ≤ 12 ^ l.length := by
  induction l with
  | nil => decide
  | cons x l ih =>
    obtain ⟨h1, h2⟩ := ih fun y hy => h y (by simp [hy])
    have h3 := h x (by simp)
    have h4 : x * prodN l ≤ 12 * 12 ^ l.length := Nat.mul_le_mul h3.2 h2
    have h5 : x * sumN l ≤ 12 * (l.length * 12 ^ l.length) := Nat.mul_le_mul h3.2 h1
    simp only [prodN, sumN, List.length_cons, Nat.pow_succ]
    generalize 12 ^ l.length = p at *
    refine ⟨?_, by omega⟩
    have h6 : (l.length + 1) * (p * 12) = 12 * (l.length * p) + 12 * p := by grind
    omega

end Go.AM
