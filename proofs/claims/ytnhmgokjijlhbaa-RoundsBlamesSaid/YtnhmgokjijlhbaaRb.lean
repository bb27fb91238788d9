/- Fractions: the greatest common divisor, densities. -/
/- RoundsDensity, on the abstract machine. -/
/- RoundsDensity, on the abstract machine: the program's density, and the law. -/
import Derived.Test.YtnhmgokjijlhbaaRa
import Derived.Test.YtnhmgokjijlhbaaRw

namespace Go.AM
open Go.Proofs

variable {k : Nat} {R : Type}

attribute [local simp] nx_eq nx_new nx_set blk_new blk_set asI_int asK_int asB_bool asP_ptr al_eq bx_eq len_slice onE_exit onE_ret onR_ret Value.cells d3 d22 d31 w31 cell_new cell_set rd_new rd_set off eq lt le ifB gv out eqF1 eqF2 eqF3 eqF4 eqF5 eqF6 eqF7 eqF8 ext20 ext21

theorem quo_nat {a b : Nat} (ha : a < 2 ^ 62) : quo .i64 (a : Int) (b : Int) = ((a / b : Nat) : Int) := by
  unfold quo
  have e : ((a : Int).tdiv (b : Int)) = ((a / b : Nat) : Int) := by
    rw [Int.tdiv_eq_ediv_of_nonneg (by omega)]
    exact (Int.natCast_ediv a b).symm
  rw [e]
  have : a / b ≤ a := Nat.div_le_self a b
  generalize a / b = c at *
  exact wrap64 (by omega) (by omega)

theorem rem_nat (a b : Nat) : rem .i64 (a : Int) (b : Int) = ((a % b : Nat) : Int) := by
  unfold rem
  rw [Int.tmod_eq_emod_of_nonneg (by omega)]
  exact (Int.natCast_emod a b).symm

/-- Euclid's loop. -/
theorem euclid {F : List Value → H → Option (Ex × List Value × H)} {oj : Nat} {h : H} (hF : ∀ a b : Nat, F [iv a, iv b] h = if b = 0 then some (.exit oj, [iv a, iv b], h) else some (.normal, [iv b, iv ((a % b : Nat) : Int)], h)) :
    ∀ (b a k : Nat), b < k → lpGo F k [iv a, iv b] h = some (.exit oj, [iv (Nat.gcd a b), iv 0], h) := by
  intro b
  induction b using Nat.strongRecOn with
  | ind b ih =>
    intro a k hk
    cases k with
    | zero => omega
    | succ k =>
      by_cases hb : b = 0
      · subst hb
        have := hF a 0
        rw [if_pos rfl] at this
        rw [lpGo_exit this]
        simp
      · have := hF a b
        rw [if_neg hb] at this
        have hm : a % b < b := Nat.mod_lt _ (by omega)
        rw [lpGo_next this, ih (a % b) hm b k (by omega)]
        congr 4
        rw [Nat.gcd_comm b, ← Nat.gcd_rec, Nat.gcd_comm]

theorem s58 {a b : Nat} (h : H) : rn 58 #[iv a, iv b] h = some (iv (Nat.gcd a b), h) := by
  refine p58 (k := b + 1) (h1 := h) ?_ rfl (.refl _)
  have hl := euclid (F := f58_l1 rn (b + 1)) (oj := 0) (h := h) (fun a b => by
    by_cases hb : b = 0
    · subst hb; simp [f58_l1]
    · simp [f58_l1, hb, nz_ne, rem_nat, show ((b : Int) = 0) = False from eq_false (by omega)]) b a (b + 1) (by omega)
  simp [f58, lp_eq hl]

/-- The sum of parts: the product of others, of each one. -/
def prodN : List Nat → Nat
  | [] => 1
  | x :: l => x * prodN l
def sumN : List Nat → Nat
  | [] => 0
  | x :: l => prodN l + x * sumN l

def stepD (f : Nat × Nat) (n : Nat) : Nat × Nat := ((f.1 * n + f.2) / Nat.gcd (f.1 * n + f.2) (f.2 * n), (f.2 * n) / Nat.gcd (f.1 * n + f.2) (f.2 * n))

def red (f : Nat × Nat) : Nat × Nat := (f.1 / Nat.gcd f.1 f.2, f.2 / Nat.gcd f.1 f.2)

theorem red_step {N D n : Nat} (hD : 0 < D) : stepD (red (N, D)) n = red (N * n + D, D * n) := by
  obtain ⟨p, hp⟩ : Nat.gcd N D ∣ N := Nat.gcd_dvd_left _ _
  obtain ⟨q, hq⟩ : Nat.gcd N D ∣ D := Nat.gcd_dvd_right _ _
  have hg : 0 < Nat.gcd N D := Nat.gcd_pos_of_pos_right _ hD
  have r : red (N, D) = (N / Nat.gcd N D, D / Nat.gcd N D) := rfl
  rw [r]
  generalize Nat.gcd N D = g at *
  have e1 : N / g = p := by rw [hp, Nat.mul_div_cancel_left _ hg]
  have e2 : D / g = q := by rw [hq, Nat.mul_div_cancel_left _ hg]
  have e3 : N * n + D = g * (p * n + q) := by rw [hp, hq, Nat.mul_add, Nat.mul_assoc]
  have e4 : D * n = g * (q * n) := by rw [hq, Nat.mul_assoc]
  rw [e1, e2]
  unfold stepD red
  simp only
  rw [e3, e4, Nat.gcd_mul_left, Nat.mul_div_mul_left _ _ hg, Nat.mul_div_mul_left _ _ hg]

theorem prodN_pos {l : List Nat} (h : ∀ x ∈ l, 1 ≤ x) : 0 < prodN l := by
  induction l with
  | nil => decide
  | cons x l ih => exact Nat.mul_pos (h x (by simp)) (ih fun y hy => h y (by simp [hy]))

/-- The reference's fraction, step by step. -/
theorem stepD_fold : ∀ (l : List Nat) (N D : Nat), 0 < D → (∀ x ∈ l, 1 ≤ x) → l.foldl stepD (red (N, D)) = red (N * prodN l + D * sumN l, D * prodN l) := by
  intro l
  induction l with
  | nil => intro N D _ _; simp [prodN, sumN]
  | cons x l ih =>
    intro N D hD hx
    rw [List.foldl_cons, red_step hD, ih _ _ (Nat.mul_pos hD (hx x (by simp))) (fun y hy => hx y (by simp [hy]))]
    simp only [prodN, sumN]
    congr 2
    · grind
    · grind

/-- The program's sum. -/
theorem sum_fold : ∀ (l : List Nat) (c a : Nat), (∀ x ∈ l, 1 ≤ x) → l.foldl (fun s x => s + c * prodN l / x) a = a + c * sumN l := by
  have key : ∀ (l : List Nat) (den c a : Nat), (∀ x ∈ l, 1 ≤ x) → den = c * prodN l → l.foldl (fun s x => s + den / x) a = a + c * sumN l := by
    intro l
    induction l with
    | nil => intro den c a _ _; simp [sumN]
    | cons x l ih =>
      intro den c a hx hd
      have h1 := hx x (by simp)
      rw [List.foldl_cons, ih den (c * x) _ (fun y hy => hx y (by simp [hy])) (by rw [hd]; simp only [prodN]; grind)]
      have : den / x = c * prodN l := by
        rw [hd]
        simp only [prodN]
        rw [show c * (x * prodN l) = x * (c * prodN l) by grind, Nat.mul_div_cancel_left _ h1]
      rw [this]
      simp only [sumN]
      grind
  intro l c a h
  exact key l _ c a h rfl

/-- The density of tasks. -/
def densP (l : List Nat) : Nat × Nat := red (sumN l, prodN l)

theorem dens_ref {l : List Nat} (h : ∀ x ∈ l, 1 ≤ x) : l.foldl stepD (0, 1) = densP l := by
  have := stepD_fold l 0 1 (by decide) h
  have r : red (0, 1) = (0, 1) := by decide
  rw [r] at this
  rw [this]
  simp [densP]

theorem sumN_le {l : List Nat} (h : ∀ x ∈ l, 1 ≤ x ∧ x ≤ 12) : sumN l ≤ l.length * 12 ^ l.length ∧ prodN l ≤ 12 ^ l.length := by
  induction l with
  | nil => decide
  | cons x l ih =>
    obtain ⟨h1, h2⟩ := ih fun y hy => h y (by simp [hy])
    have h3 := h x (by simp)
    have h4 : x * prodN l ≤ 12 * 12 ^ l.length := Nat.mul_le_mul h3.2 h2
    have h5 : x * sumN l ≤ 12 * (l.length * 12 ^ l.length) := Nat.mul_le_mul h3.2 h1
    simp only [prodN, sumN, List.length_cons, Nat.pow_succ]
    generalize 12 ^ l.length = p at *
    refine ⟨?_, by omega⟩
    have h6 : (l.length + 1) * (p * 12) = 12 * (l.length * p) + 12 * p := by grind
    omega

end Go.AM

namespace Go.AM
open Go.Proofs

variable {k : Nat} {R : Type}

attribute [local simp] nx_eq nx_new nx_set blk_new blk_set asI_int asK_int asB_bool asP_ptr al_eq bx_eq len_slice onE_exit onE_ret onR_ret Value.cells d3 d22 d31 w31 cell_new cell_set rd_new rd_set off eq lt le ifB gv out eqF1 eqF2 eqF3 eqF4 eqF5 eqF6 eqF7 eqF8 ext20 ext21

theorem kbld31 (a b : Int) (K : Value → Option R) : bld Try.prog 31 [(0, .int .i64 a), (1, .int .i64 b)] K = K (.agg #[.int .i64 a, .int .i64 b]) := bld_some (by kernel_rfl)
theorem kbld31d (b : Int) (K : Value → Option R) : bld Try.prog 31 [(1, .int .i64 b)] K = K (.agg #[.int .i64 0, .int .i64 b]) := bld_some (by kernel_rfl)
theorem kbld31e (K : Value → Option R) : bld Try.prog 31 [] K = K (.agg #[.int .i64 0, .int .i64 0]) := bld_some (by kernel_rfl)

theorem keqv31 (a b c d : Int) (K : Bool → Option R) : eqv Try.prog 31 (.agg #[.int .i64 a, .int .i64 b]) (.agg #[.int .i64 c, .int .i64 d]) K = K (a == c && b == d) := by
  have : binOp Try.prog .eql 31 (.agg #[iv a, iv b]) (.agg #[iv c, iv d]) = (if (a == c) = true then (if (b == d) = true then some true else some false) else some false).map Value.bool := by kernel_rfl
  unfold eqv
  rw [this]
  cases h1 : (a == c) <;> cases h2 : (b == d) <;> simp

theorem wrc31 {h : H} {b : Nat} {p q x y : Int} (hb : h.blk b = some (.row [iv p, iv q] 31 true)) : wrc 2 h b 0 (.agg #[.int .i64 x, .int .i64 y]) = some (h.set b (.row [iv x, iv y] 31 true)) := by
  simp only [wrc, hb]
  rfl

abbrev nI (ln : List Nat) : List Int := ln.map fun n : Nat => (n : Int)

theorem nI_get {v : Value} {ln : List Nat} {h : H} (hs : SlR h 3 1 v (cellsI (nI ln))) {i : Nat} {x : Nat} (hx : ln[i]? = some x) {T : Type} (K : Value → Option T) : (six v (i : Int) 1 fun b o => (h.cell b o).bind K) = K (iv x) :=
  hs.c0 (by omega) (x := [iv x]) (by simp [hx]) rfl K

def FI (h0 : H) (i : Nat) (f : Nat × Nat) (ws : List Value) (g : H) : Prop :=
  ws = [iv i] ∧ Ext h0 g ∧ h0.nx + 2 ≤ g.nx ∧ g.blk h0.nx = some (.row [iv 0, iv 0] 31 true) ∧ g.blk (h0.nx + 1) = some (.row [iv f.1, iv f.2] 31 true) ∧ f.1 ≤ i * 12 ^ i ∧ 1 ≤ f.2 ∧ f.2 ≤ 12 ^ i

/-- The reference's density. -/
theorem s22 {v : Value} {ln : List Nat} {h : H} (hs : SlR h 3 1 v (cellsI (nI ln))) (h5 : ln.length ≤ 5) (hok : ∀ x ∈ ln, 1 ≤ x ∧ x ≤ 12) : rn 22 #[v] h = some (.agg #[iv (densP ln).1, iv (densP ln).2], h) := by
  have hn : ∀ {T : Type} (K : Int → Option T), len v K = K (ln.length : Int) := fun K => by rw [hs.len]; simp
  let h1 : H := h.new (.row [iv 0, iv 0] 31 true)
  let h3 : H := h1.fresh 31 [iv 0, iv 0] [iv 0, iv 1]
  have x1 : Ext h h1 := .new _ _
  have x3 : Ext h h3 := x1.fresh _ _ _
  have hlp := lp_for (F := f22_l1 rn (ln.length + 1) v h1 ln.length) (k := ln.length + 1) (l := ln) (fun _ x f => stepD f x) (FI h) 0 (ws := [iv 0]) (h := h3) (s0 := (0, 1))
    ⟨rfl, x3, by show h.nx + 2 ≤ h.nx + 1 + 1; omega, by
      show (h1.fresh 31 _ _).blk h.nx = _
      exact ((Ext.refl h1).fresh 31 [iv 0, iv 0] [iv 0, iv 1]).blk h.nx (Nat.lt_succ_self _) |>.trans (blk_new_self _ _), blk_fresh _ _ _ _, by decide, by decide, by decide⟩ (by omega)
    (by
      rintro f ws g ⟨rfl, _⟩
      simp [f22_l1])
    (by
      rintro i x ⟨p, q⟩ ws g hx ⟨rfl, xg, hn2, hb0, hb1, b1, b2, b3⟩
      have hi := (List.getElem?_eq_some_iff.1 hx).1
      have hxx := hok x (List.mem_of_getElem? hx)
      have e1 := fun (K : Value → Option (Ex × List Value × H)) => nI_get (hs.ext xg) hx K
      have hadd : add .i64 (i : Int) 1 = (i : Int) + 1 := add64 (by omega) (by omega)
      simp only at b1 b2 b3 hb1
      -- the numbers stay small
      have p12 : 12 ^ i ≤ 12 ^ 5 := Nat.pow_le_pow_right (by omega) (by omega)
      have b1' : i * 12 ^ i ≤ 5 * 12 ^ 5 := Nat.mul_le_mul (by omega) p12
      have m1 : p * x ≤ 12 * (i * 12 ^ i) := by rw [Nat.mul_comm]; exact Nat.mul_le_mul hxx.2 b1
      have m2 : q * x ≤ 12 * 12 ^ i := by rw [Nat.mul_comm]; exact Nat.mul_le_mul hxx.2 b3
      have m3 : 1 ≤ q * x := Nat.mul_pos b2 hxx.1
      have hp : stepD (p, q) x = ((p * x + q) / Nat.gcd (p * x + q) (q * x), q * x / Nat.gcd (p * x + q) (q * x)) := rfl
      rw [hp]
      have c1 : mul .i64 (p : Int) (x : Int) = ((p * x : Nat) : Int) := by
        rw [mul64 (by have : (0 : Int) ≤ (p : Int) * x := by exact_mod_cast Nat.zero_le _
                      omega) (by have : (p : Int) * x = ((p * x : Nat) : Int) := by simp
                                 omega)]
        simp
      have c3 : mul .i64 (q : Int) (x : Int) = ((q * x : Nat) : Int) := by
        rw [mul64 (by have : (0 : Int) ≤ (q : Int) * x := by exact_mod_cast Nat.zero_le _
                      omega) (by have : (q : Int) * x = ((q * x : Nat) : Int) := by simp
                                 omega)]
        simp
      have c2 : add .i64 (((p * x : Nat)) : Int) (q : Int) = ((p * x + q : Nat) : Int) := by
        rw [add64 (by omega) (by omega)]
        simp
      have hP : p * x + q ≤ 12 * (i * 12 ^ i) + 12 ^ i := by omega
      generalize p * x + q = P at *
      generalize p * x = px at *
      generalize q * x = Q at *
      have hG : 0 < Nat.gcd P Q := Nat.gcd_pos_of_pos_right _ m3
      have hGQ : Nat.gcd P Q ∣ Q := Nat.gcd_dvd_right _ _
      have c4 := fun (g : H) (K : Value → H → Option (Ex × List Value × H)) => calls_eq (K := K) (xs := [iv P, iv Q]) (s58 (a := P) (b := Q) g)
      generalize Nat.gcd P Q = G at *
      have q1 : quo .i64 (P : Int) (G : Int) = ((P / G : Nat) : Int) := quo_nat (by omega)
      have q2 : quo .i64 (Q : Int) (G : Int) = ((Q / G : Nat) : Int) := quo_nat (by omega)
      have l1 : P / G ≤ P := Nat.div_le_self _ _
      have l2 : Q / G ≤ Q := Nat.div_le_self _ _
      have l3 : 1 ≤ Q / G := Nat.div_pos (Nat.le_of_dvd m3 hGQ) hG
      generalize P / G = A at *
      generalize Q / G = B at *
      refine ⟨[iv ((i : Int) + 1)], (g.set (h.nx + 1) (.row [iv P, iv Q] 31 true)).set (h.nx + 1) (.row [iv A, iv B] 31 true), ?_, by simp, (xg.set (by omega) _).set (by omega) _, hn2, ?_, blk_set_self _ _ _, ?_, l3, ?_⟩
      · have nh1 : h1.nx = h.nx + 1 := rfl
        have hw1 := wrc31 (x := P) (y := Q) hb1
        have hw2 := wrc31 (h := g.set (h.nx + 1) (.row [iv P, iv Q] 31 true)) (b := h.nx + 1) (p := P) (q := Q) (x := A) (y := B) (blk_set_self _ _ _)
        have ce := cell_of (o := 0) hb1
        have ce1 := cell_of (o := 1) hb1
        simp [f22_l1, nh1, show i < ln.length by omega, e1, hadd, ce, ce1, c1, c2, c3, kbld31, hw1, hw2, c4, nz_ne (show ((G : Nat) : Int) ≠ 0 by omega), q1, q2]
      · rw [blk_set, if_neg (by omega), blk_set, if_neg (by omega)]; exact hb0
      · rw [Nat.pow_succ]
        have : (i + 1) * (12 ^ i * 12) = 12 * (i * 12 ^ i) + 12 * 12 ^ i := by grind
        omega
      · rw [Nat.pow_succ]; omega)
  obtain ⟨ws', g, e, hw, xg, hn2, hb0, hb1, _⟩ := hlp
  have hf : ∀ (l : List Nat) (i : Nat) (s : Nat × Nat), foldI (fun _ x f => stepD f x) l i s = l.foldl stepD s := by
    intro l
    induction l with
    | nil => intro i s; rfl
    | cons x l ih => intro i s; exact ih _ _
  rw [hf, dens_ref (fun x hx => (hok x hx).1)] at hb1
  have hst : ∀ (K : H → Option (Value × H)), (al h1 31 [.int .i64 0, .int .i64 0] fun h2 => st Try.prog h2 31 (AM.nx h1) 0 (.agg #[.int .i64 0, .int .i64 1]) K) = K h3 := fun K => al_st (zs := [iv 0, iv 0]) (xs := [iv 0, iv 1]) sz31 rfl rfl
  refine p22 (k := ln.length + 1) (h1 := g.set h.nx (.row [iv (densP ln).1, iv (densP ln).2] 31 true)) ?_ rfl (xg.set (Nat.le_refl _) _)
  unfold f22
  rw [al_eq, show h.new (.row [.int .i64 0, .int .i64 0] 31 true) = h1 from rfl, kbld31d, hst, hn, lp_eq e, onE_exit, if_pos rfl]
  have hw1 := wrc31 (x := (densP ln).1) (y := (densP ln).2) hb0
  have r1 : ∀ (K : Value → Option (Value × H)), ld Try.prog g 31 (AM.nx h1) 0 K = K (.agg #[iv (densP ln).1, iv (densP ln).2]) := fun K => by
    rw [d31, show AM.nx h1 = h.nx + 1 from rfl, rd_of hb1]; rfl
  rw [r1]
  simp [hw1]

end Go.AM

namespace Go.AM
open Go.Proofs

variable {k : Nat} {R : Type}

attribute [local simp] nx_eq nx_new nx_set blk_new blk_set asI_int asK_int asB_bool asP_ptr al_eq bx_eq len_slice onE_exit onE_ret onR_ret Value.cells d3 d22 d31 w31 cell_new cell_set rd_new rd_set off eq lt le ifB gv out eqF1 eqF2 eqF3 eqF4 eqF5 eqF6 eqF7 eqF8 ext20 ext21 kbld31 kbld31e

theorem prod_nI (ln : List Nat) : prodP (nI ln) = (prodN ln : Nat) := by
  induction ln with
  | nil => rfl
  | cons x l ih =>
    rw [show nI (x :: l) = (x : Int) :: nI l from rfl, prod_cons, ih]
    simp [prodN]

theorem tasks_nI {l : List Int} (h : tasksP l = true) : ∃ ln : List Nat, l = nI ln ∧ ln.length ≤ 5 ∧ 1 ≤ ln.length ∧ (∀ x ∈ ln, 1 ≤ x ∧ x ≤ 12) ∧ prodN ln ≤ 4000 := by
  simp only [tasksP, Bool.and_eq_true, decide_eq_true_eq] at h
  obtain ⟨⟨h1, h2⟩, h3⟩ := h
  have hall := okN_all.1 h2
  have e : l = nI (l.map Int.toNat) := by
    unfold nI
    rw [List.map_map]
    conv => lhs; rw [← List.map_id l]
    apply List.map_congr_left
    intro x hx
    have := hall x hx
    simp only [id_eq, Function.comp_apply]
    omega
  refine ⟨l.map Int.toNat, e, by simpa using h1.2, by simpa using h1.1, fun x hx => ?_, ?_⟩
  · obtain ⟨y, hy, rfl⟩ := List.mem_map.1 hx
    have := hall y hy
    omega
  · rw [e, prod_nI] at h3
    omega

/-- The program's density. -/
theorem s20 {v : Value} {ln : List Nat} {h : H} (hs : SlR h 3 1 v (cellsI (nI ln))) (ht : tasksP (nI ln) = true) (h5 : ln.length ≤ 5) (hok : ∀ x ∈ ln, 1 ≤ x ∧ x ≤ 12) (h4000 : prodN ln ≤ 4000) :
    rn 20 #[v] h = some (.tuple #[.agg #[iv (densP ln).1, iv (densP ln).2], iv 0], h) := by
  have hn : ∀ {T : Type} (K : Int → Option T), len v K = K (ln.length : Int) := fun K => by rw [hs.len]; simp
  have x1 : Ext h (h.new (.row [iv 0, iv 0] 31 true)) := .new _ _
  have hs1 := hs.ext x1
  have hb1 : (h.new (.row [iv 0, iv 0] 31 true)).blk h.nx = some (.row [iv 0, iv 0] 31 true) := blk_new_self _ _
  have n1 : (h.new (.row [iv 0, iv 0] 31 true)).nx = h.nx + 1 := rfl
  have hD : 0 < prodN ln := prodN_pos fun x hx => (hok x hx).1
  have hb := (sumN_le hok).1
  have p12 : 12 ^ ln.length ≤ 12 ^ 5 := Nat.pow_le_pow_right (by omega) h5
  have hb' : ln.length * 12 ^ ln.length ≤ 5 * 12 ^ 5 := Nat.mul_le_mul h5 p12
  have hsum := sum_fold ln 1 0 fun x hx => (hok x hx).1
  simp only [Nat.one_mul, Nat.zero_add] at hsum
  have hok' : ∀ x ∈ nI ln, 1 ≤ x ∧ x ≤ 12 := fun x hx => by
    obtain ⟨y, hy, rfl⟩ := List.mem_map.1 hx
    have := hok y hy
    omega
  have c53 := fun (K : Value → H → Option (Value × H)) => calls_eq (K := K) (xs := [_]) (s53 hs1)
  have c57 := fun (K : Value → H → Option (Value × H)) => calls_eq (K := K) (xs := [_]) (s57 hs1 (by simpa using h5) fun x hx => by have := hok' x hx; omega)
  rw [prod_nI] at c57
  have hw1 := fun p q => wrc31 (x := p) (y := q) hb1
  suffices hh : ∃ h1, f20 rn 4010 v h = some (.tuple #[.agg #[iv (densP ln).1, iv (densP ln).2], iv 0], h1) ∧ Ext h h1 by
    obtain ⟨h1, e, x⟩ := hh
    exact p20 e rfl x
  unfold f20
  rw [al_eq]
  generalize h.new (.row [.int .i64 0, .int .i64 0] 31 true) = h1 at *
  unfold densP red
  generalize hDn : prodN ln = D at *
  have hl := lp_same (ρ := Empty) (F := f20_l1 rn 4010 v D ln.length) (k := 4010) (l := ln) (h := h1) (fun i (st : Nat) => [iv st, iv i])
    (fun _ x st => .inl (st + D / x)) (fun i st => st ≤ i * D) (fun _ => .ret) (fun _ => []) 0 (fun st => [iv st, iv ln.length]) (ws := [iv 0, iv 0]) (s0 := (0 : Nat)) rfl (by omega) (by omega) (by simp)
    (fun _ _ => by simp [f20_l1])
    (by
      intro i x st hx hI
      have hi := (List.getElem?_eq_some_iff.1 hx).1
      have hxx := hok x (List.mem_of_getElem? hx)
      have hdx : D / x ≤ D := Nat.div_le_self _ _
      have hiD : i * D ≤ 5 * 4000 := Nat.mul_le_mul (by omega) h4000
      have e1 := fun (K : Value → Option (Ex × List Value × H)) => nI_get hs1 hx K
      have hadd : add .i64 (i : Int) 1 = (i : Int) + 1 := add64 (by omega) (by omega)
      have hq : quo .i64 (D : Int) (x : Int) = ((D / x : Nat) : Int) := quo_nat (by omega)
      have hst : st + D / x ≤ (i + 1) * D := by rw [Nat.add_mul, Nat.one_mul]; omega
      generalize D / x = q at *
      have hadd2 : add .i64 (st : Int) (q : Int) = ((st + q : Nat) : Int) := by rw [add64 (by omega) (by omega)]; simp
      generalize st + q = sq at *
      refine ⟨fun s' hs' => by cases hs'; exact hst, ?_⟩
      simp [f20_l1, show i < ln.length by omega, e1, rnd, hadd, hq, hadd2, nz_ne (show (x : Int) ≠ 0 by omega)])
  rw [itL_inl (fun _ x st => st + D / x)] at hl
  have hf : ∀ (l : List Nat) (i : Nat) (s : Nat), foldI (fun _ x st => st + D / x) l i s = l.foldl (fun s x => s + D / x) s := by
    intro l
    induction l with
    | nil => intro i s; rfl
    | cons x l ih => intro i s; exact ih _ _
  rw [hf, hsum] at hl
  have hl2 := euclid (F := f20_l2 rn 4010) (oj := 2) (h := h1) (fun a b => by
    by_cases hb : b = 0
    · subst hb; simp [f20_l2]
    · simp [f20_l2, hb, nz_ne, rem_nat, show ((b : Int) = 0) = False from eq_false (by omega)]) D (sumN ln) 4010 (by omega)
  have hG : 0 < Nat.gcd (sumN ln) D := Nat.gcd_pos_of_pos_right _ hD
  have hS : sumN ln ≤ 5 * 12 ^ 5 := by omega
  generalize sumN ln = S at *
  generalize Nat.gcd S D = G at *
  have q1 : quo .i64 (S : Int) (G : Int) = ((S / G : Nat) : Int) := quo_nat (by omega)
  have q2 : quo .i64 (D : Int) (G : Int) = ((D / G : Nat) : Int) := quo_nat (by omega)
  generalize S / G = A at *
  generalize D / G = B at *
  refine ⟨h1.set h.nx (.row [iv A, iv B] 31 true), ?_, x1.set (Nat.le_refl _) _⟩
  simp [c53, ht, c57, hn, lp_eq hl.1, lp_eq hl2, nz_ne (show ((G : Nat) : Int) ≠ 0 by omega), q1, q2, hw1]

theorem s20_bad {v : Value} {l : List Int} {h : H} (hs : SlR h 3 1 v (cellsI l)) (ht : tasksP l = false) : rn 20 #[v] h = some (.tuple #[.agg #[iv 0, iv 0], iv 2], h) := by
  have x1 : Ext h (h.new (.row [iv 0, iv 0] 31 true)) := .new _ _
  have hb1 : (h.new (.row [iv 0, iv 0] 31 true)).blk h.nx = some (.row [iv 0, iv 0] 31 true) := blk_new_self _ _
  have c53 := fun (K : Value → H → Option (Value × H)) => calls_eq (K := K) (xs := [_]) (s53 (hs.ext x1))
  have hw1 := fun p q => wrc31 (x := p) (y := q) hb1
  refine p20 (k := 0) (h1 := (h.new (.row [iv 0, iv 0] 31 true)).set h.nx (.row [iv 0, iv 0] 31 true)) ?_ rfl (x1.set (Nat.le_refl _) _)
  unfold f20
  rw [al_eq]
  generalize h.new (.row [.int .i64 0, .int .i64 0] 31 true) = h1 at *
  simp [c53, ht, hw1]

theorem s4 {v : Value} {l : List Int} {h : H} (hs : SlR h 3 1 v (cellsI l)) : ∃ h', rn 4 #[v] h = some (.bool true, h') := by
  obtain ⟨v1, h1, e1, x1, s1⟩ := s18 hs
  have hs1 := hs.ext x1
  have hal : ∀ (a b : Int) (K : H → Option (Value × H)), (al h1 31 [.int .i64 0, .int .i64 0] fun h3 => st Try.prog h3 31 (AM.nx h1) 0 (.agg #[.int .i64 a, .int .i64 b]) K) = K (h1.fresh 31 [iv 0, iv 0] [iv a, iv b]) := fun a b K => al_st (zs := [iv 0, iv 0]) (xs := [iv a, iv b]) sz31 rfl rfl
  have hx : ∀ a b, Ext h1 (h1.fresh 31 [iv 0, iv 0] [iv a, iv b]) := fun a b => (Ext.refl _).fresh _ _ _
  have hb : ∀ a b, (h1.fresh 31 [iv 0, iv 0] [iv a, iv b]).blk h1.nx = some (.row [iv a, iv b] 31 true) := fun a b => blk_fresh _ _ _ _
  have hnx : ∀ a b, h1.nx < (h1.fresh 31 [iv 0, iv 0] [iv a, iv b]).nx := fun a b => Nat.lt_succ_self _
  suffices hh : ∃ h', f4 rn 0 v h = some (.bool true, h') by
    obtain ⟨h', e⟩ := hh
    exact ⟨_, t4 e⟩
  unfold f4
  rw [calls_eq (xs := [_]) e1]
  cases ht : tasksP l with
  | false =>
    have e2 := s20_bad s1 (by rw [tasks_take]; exact ht)
    rw [calls_eq (xs := [_]) e2, ext20, ext21, asI_int, hal]
    have hx0 := hx 0 0
    have hb0 := hb 0 0
    generalize h1.fresh 31 [iv 0, iv 0] [iv 0, iv 0] = h4 at *
    rw [calls_eq (xs := [_]) (s21 (hs1.ext hx0)), ht]
    exact ⟨h4, by simp [rd_of hb0, keqv31, k19]⟩
  | true =>
    obtain ⟨ln, rfl, hl5, hl1, hok, h4000⟩ := tasks_nI ht
    have htk : (nI ln).take 14 = nI ln := List.take_of_length_le (by rw [List.length_map]; omega)
    rw [htk] at s1
    have e2 := s20 s1 ht hl5 hok h4000
    rw [calls_eq (xs := [_]) e2, ext20, ext21, asI_int, hal]
    have hx0 := hx (densP ln).1 (densP ln).2
    have hb0 := hb (densP ln).1 (densP ln).2
    have hn0 := hnx (densP ln).1 (densP ln).2
    generalize h1.fresh 31 [iv 0, iv 0] [iv (densP ln).1, iv (densP ln).2] = h4 at *
    have e3 := s22 (hs1.ext hx0) hl5 hok
    have c3 := fun (K : Value → H → Option (Value × H)) => calls_eq (K := K) (xs := [_]) e3
    rw [calls_eq (xs := [_]) (s21 (hs1.ext hx0)), ht]
    exact ⟨h4, by simp [rd_of hb0, keqv31, k19, c3, freq, same, hn0, ck_true]⟩

end Go.AM
