/- RoundsDensity, on the abstract machine. -/
import Derived.Test.YtnhmgokjijlhbaaRb
namespace Go.AM
open Go.Proofs

variable {k : Nat} {R : Type}

attribute [local simp] nx_eq nx_new nx_set blk_new blk_set asI_int asK_int asB_bool asP_ptr al_eq bx_eq len_slice onE_exit onE_ret onR_ret Value.cells d3 d22 d31 w31 cell_new cell_set rd_new rd_set off eq lt le ifB gv out eqF1 eqF2 eqF3 eqF4 eqF5 eqF6 eqF7 eqF8 ext20 ext21

theorem kbld31 (a b : Int) (K : Value → Option R) : bld Try.prog 31 [(0, .int .i64 a), (1, .int .i64 b)] K = K (.agg #[.int .i64 a, .int .i64 b]) := bld_some (by kernel_rfl)
theorem kbld31d (b : Int) (K : Value → Option R) : bld Try.prog 31 [(1, .int .i64 b)] K = K (.agg #[.int .i64 0, .int .i64 b]) := bld_some (by kernel_rfl)
theorem kbld31e (K : Value → Option R) : bld Try.prog 31 [] K = K (.agg #[.int .i64 0, .int .i64 0]) := bld_some (by kernel_rfl)

theorem keqv31 (a b c d : Int) (K : Bool → Option R) : eqv Try.prog 31 (.agg #[.int .i64 a, .int .i64 b]) (.agg #[.int .i64 c, .int .i64 d]) K = K (a == c && b == d) := by
  have : binOp Try.prog .eql 31 (.agg #[iv a, iv b]) (.agg #[iv c, iv d]) = (if (a == c) = true then (if (b == d) = true then some true else some false) else some false).map Value.bool := by kernel_rfl
  unfold eqv
  rw [this]
  cases h1 : (a == c) <;> cases h2 : (b == d) <;> simp

theorem wrc31 {h : H} {b : Nat} {p q x y : Int} (hb : h.blk b = some (.row [iv p, iv q] 31 true)) : wrc 2 h b 0 (.agg #[.int .i64 x, .int .i64 y]) = some (h.set b (.row [iv x, iv y] 31 true)) := by
  simp only [wrc, hb]
  rfl

abbrev nI (ln : List Nat) : List Int := ln.map fun n : Nat => (n : Int)

theorem nI_get {v : Value} {ln : List Nat} {h : H} (hs : SlR h 3 1 v (cellsI (nI ln))) {i : Nat} {x : Nat} (hx : ln[i]? = some x) {T : Type} (K : Value → Option T) : (six v (i : Int) 1 fun b o => (h.cell b o).bind K) = K (iv x) :=
  hs.c0 (by omega) (x := [iv x]) (by simp [hx]) rfl K

def FI (h0 : H) (i : Nat) (f : Nat × Nat) (ws : List Value) (g : H) : Prop :=
  ws = [iv i] ∧ Ext h0 g ∧ h0.nx + 2 ≤ g.nx ∧ g.blk h0.nx = some (.row [iv 0, iv 0] 31 true) ∧ g.blk (h0.nx + 1) = some (.row [iv f.1, iv f.2] 31 true) ∧ f.1 ≤ i * 12 ^ i ∧ 1 ≤ f.2 ∧ f.2 ≤ 12 ^ i

/-- The reference's density. -/
theorem s22 {v : Value} {ln : List Nat} {h : H} (hs : SlR h 3 1 v (cellsI (nI ln))) (h5 : ln.length ≤ 5) (hok : ∀ x ∈ ln, 1 ≤ x ∧ x ≤ 12) : rn 22 #[v] h = some (.agg #[iv (densP ln).1, iv (densP ln).2], h) := by
  have hn : ∀ {T : Type} (K : Int → Option T), len v K = K (ln.length : Int) := fun K => by rw [hs.len]; simp
  let h1 : H := h.new (.row [iv 0, iv 0] 31 true)
  let h3 : H := h1.fresh 31 [iv 0, iv 0] [iv 0, iv 1]
  have x1 : Ext h h1 := .new _ _
  have x3 : Ext h h3 := x1.fresh _ _ _
  have hlp := lp_for (F := f22_l1 rn (ln.length + 1) v h1 ln.length) (k := ln.length + 1) (l := ln) (fun _ x f => stepD f x) (FI h) 0 (ws := [iv 0]) (h := h3) (s0 := (0, 1))
    ⟨rfl, x3, by show h.nx + 2 ≤ h.nx + 1 + 1; omega, by
      show (h1.fresh 31 _ _).blk h.nx = _
      exact ((Ext.refl h1).fresh 31 [iv 0, iv 0] [iv 0, iv 1]).blk h.nx (Nat.lt_succ_self _) |>.trans (blk_new_self _ _), blk_fresh _ _ _ _, by decide, by decide, by decide⟩ (by omega)
    (by
      rintro f ws g ⟨rfl, _⟩
      simp [f22_l1])
    (by
      rintro i x ⟨p, q⟩ ws g hx ⟨rfl, xg, hn2, hb0, hb1, b1, b2, b3⟩
      have hi := (List.getElem?_eq_some_iff.1 hx).1
      have hxx := hok x (List.mem_of_getElem? hx)
      have e1 := fun (K : Value → Option (Ex × List Value × H)) => nI_get (hs.ext xg) hx K
      have hadd : add .i64 (i : Int) 1 = (i : Int) + 1 := add64 (by omega) (by omega)
      simp only at b1 b2 b3 hb1
      -- the numbers stay small
      have p12 : 12 ^ i ≤ 12 ^ 5 := Nat.pow_le_pow_right (by omega) (by omega)
      have b1' : i * 12 ^ i ≤ 5 * 12 ^ 5 := Nat.mul_le_mul (by omega) p12
      have m1 : p * x ≤ 12 * (i * 12 ^ i) := by rw [Nat.mul_comm]; exact Nat.mul_le_mul hxx.2 b1
      have m2 : q * x ≤ 12 * 12 ^ i := by rw [Nat.mul_comm]; exact Nat.mul_le_mul hxx.2 b3
      have m3 : 1 ≤ q * x := Nat.mul_pos b2 hxx.1
      have hp : stepD (p, q) x = ((p * x + q) / Nat.gcd (p * x + q) (q * x), q * x / Nat.gcd (p * x + q) (q * x)) := rfl
      rw [hp]
      have c1 : mul .i64 (p : Int) (x : Int) = ((p * x : Nat) : Int) := by
        rw [mul64 (by have : (0 : Int) ≤ (p : Int) * x := by exact_mod_cast Nat.zero_le _
                      omega) (by have : (p : Int) * x = ((p * x : Nat) : Int) := by simp
                                 omega)]
        simp
      have c3 : mul .i64 (q : Int) (x : Int) = ((q * x : Nat) : Int) := by
        rw [mul64 (by have : (0 : Int) ≤ (q : Int) * x := by exact_mod_cast Nat.zero_le _
                      omega) (by have : (q : Int) * x = ((q * x : Nat) : Int) := by simp
                                 omega)]
        simp
      have c2 : add .i64 (((p * x : Nat)) : Int) (q : Int) = ((p * x + q : Nat) : Int) := by
        rw [add64 (by omega) (by omega)]
        simp
      have hP : p * x + q ≤ 12 * (i * 12 ^ i) + 12 ^ i := by omega
      generalize p * x + q = P at *
      generalize p * x = px at *
      generalize q * x = Q at *
      have hG : 0 < Nat.gcd P Q := Nat.gcd_pos_of_pos_right _ m3
      have hGQ : Nat.gcd P Q ∣ Q := Nat.gcd_dvd_right _ _
      have c4 := fun (g : H) (K : Value → H → Option (Ex × List Value × H)) => calls_eq (K := K) (xs := [iv P, iv Q]) (s58 (a := P) (b := Q) g)
      generalize Nat.gcd P Q = G at *
      have q1 : quo .i64 (P : Int) (G : Int) = ((P / G : Nat) : Int) := quo_nat (by omega)
      have q2 : quo .i64 (Q : Int) (G : Int) = ((Q / G : Nat) : Int) := quo_nat (by omega)
      have l1 : P / G ≤ P := Nat.div_le_self _ _
      have l2 : Q / G ≤ Q := Nat.div_le_self _ _
      have l3 : 1 ≤ Q / G := Nat.div_pos (Nat.le_of_dvd m3 hGQ) hG
      generalize P / G = A at *
      generalize Q / G = B at *
      refine ⟨[iv ((i : Int) + 1)], (g.set (h.nx + 1) (.row [iv P, iv Q] 31 true)).set (h.nx + 1) (.row [iv A, iv B] 31 true), ?_, by simp, (xg.set (by omega) _).set (by omega) _, hn2, ?_, blk_set_self _ _ _, ?_, l3, ?_⟩
      · have nh1 : h1.nx = h.nx + 1 := rfl
        have hw1 := wrc31 (x := P) (y := Q) hb1
        have hw2 := wrc31 (h := g.set (h.nx + 1) (.row [iv P, iv Q] 31 true)) (b := h.nx + 1) (p := P) (q := Q) (x := A) (y := B) (blk_set_self _ _ _)
        have ce := cell_of (o := 0) hb1
        have ce1 := cell_of (o := 1) hb1
        simp [f22_l1, nh1, show i < ln.length by omega, e1, hadd, ce, ce1, c1, c2, c3, kbld31, hw1, hw2, c4, nz_ne (show ((G : Nat) : Int) ≠ 0 by omega), q1, q2]
      · rw [blk_set, if_neg (by omega), blk_set, if_neg (by omega)]; exact hb0
      · rw [Nat.pow_succ]
        have : (i + 1) * (12 ^ i * 12) = 12 * (i * 12 ^ i) + 12 * 12 ^ i := by grind
        omega
      · rw [Nat.pow_succ]; omega)
  obtain ⟨ws', g, e, hw, xg, hn2, hb0, hb1, _⟩ := hlp
  have hf : ∀ (l : List Nat) (i : Nat) (s : Nat × Nat), foldI (fun _ x f => stepD f x) l i s = l.foldl stepD s := by
    intro l
    induction l with
    | nil => intro i s; rfl
    | cons x l ih => intro i s; exact ih _ _
  rw [hf, dens_ref (fun x hx => (hok x hx).1)] at hb1
  have hst : ∀ (K : H → Option (Value × H)), (al h1 31 [.int .i64 0, .int .i64 0] fun h2 => st Try.prog h2 31 (AM.nx h1) 0 (.agg #[.int .i64 0, .int .i64 1]) K) = K h3 := fun K => al_st (zs := [iv 0, iv 0]) (xs := [iv 0, iv 1]) sz31 rfl rfl
  refine p22 (k := ln.length + 1) (h1 := g.set h.nx (.row [iv (densP ln).1, iv (densP ln).2] 31 true)) ?_ rfl (xg.set (Nat.le_refl _) _)
  unfold f22
  rw [al_eq, show h.new (.row [.int .i64 0, .int .i64 0] 31 true) = h1 from rfl, kbld31d, hst, hn, lp_eq e, onE_exit, if_pos rfl]
  have hw1 := wrc31 (x := (densP ln).1) (y := (densP ln).2) hb0
  have r1 : ∀ (K : Value → Option (Value × H)), ld Try.prog g 31 (AM.nx h1) 0 K = K (.agg #[iv (densP ln).1, iv (densP ln).2]) := fun K => by
    rw [d31, show AM.nx h1 = h.nx + 1 from rfl, rd_of hb1]; rfl
  rw [r1]
  simp [hw1]

end Go.AM
