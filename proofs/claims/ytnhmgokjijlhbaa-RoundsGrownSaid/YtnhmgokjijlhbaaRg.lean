/- The state of a number. -/
import Derived.Test.YtnhmgokjijlhbaaRf
namespace Go.AM
open Go.Proofs

variable {k : Nat} {R : Type}

attribute [local simp] nx_eq nx_new nx_set blk_new blk_set asI_int asK_int asB_bool asP_ptr al_eq bx_eq len_slice onE_exit onE_ret onR_ret Value.cells d3 d22 d31 w3 cell_new cell_set rd_new rd_set off eq lt le ifB gv out eqF1 eqF2 eqF3 eqF4 eqF5 eqF6 eqF7 eqF8 ext20 ext21

/-- The digits of a number, from the right; what is left. -/
def digR : List Nat → Nat → List Nat × Nat
  | [], c => ([], c)
  | x :: l, c => let (ds, c') := digR l c; ((c' % x + 1) :: ds, c' / x)

/-- The state of a number. -/
def stateP (ln : List Nat) (c : Nat) : List Nat := (digR ln c).1

theorem digR_len (ln : List Nat) (c : Nat) : (digR ln c).1.length = ln.length := by
  induction ln with
  | nil => rfl
  | cons x l ih => simp only [digR, List.length_cons, ih]

/-- The number of a state, in whole numbers. -/
def codeN : Nat → List Nat → List Nat → Nat
  | a, x :: l, y :: s => codeN (a * x + y - 1) l s
  | a, _, _ => a

theorem code_nI (ln sn : List Nat) (hp : ∀ y ∈ sn, 1 ≤ y) : codeP (nI ln) (nI sn) = (codeN 0 ln sn : Nat) := by
  unfold codeP
  have : ∀ (ln sn : List Nat) (a : Nat), (∀ y ∈ sn, 1 ≤ y) → ((nI ln).zip (nI sn)).foldl (fun (n : Int) (p : Int × Int) => n * p.1 + p.2 - 1) a = (codeN a ln sn : Nat) := by
    intro ln
    induction ln with
    | nil => intro sn a _; rfl
    | cons x l ih =>
      intro sn a hy
      cases sn with
      | nil => rfl
      | cons y s =>
        have h1 := hy y (by simp)
        show ((nI l).zip (nI s)).foldl _ ((a : Int) * x + y - 1) = _
        have e : ((a : Int) * x + y - 1) = ((a * x + y - 1 : Nat) : Int) := by
          have : ((a * x : Nat) : Int) = (a : Int) * x := by simp
          omega
        rw [e, ih s _ (fun z hz => hy z (by simp [hz]))]
        rfl
  exact this ln sn 0 hp

/-- A number is that of its state. -/
theorem code_digR : ∀ (ln : List Nat) (c a : Nat), (∀ x ∈ ln, 1 ≤ x) → codeN (a + (digR ln c).2) ln (digR ln c).1 = a * prodN ln + c := by
  intro ln
  induction ln with
  | nil => intro c a _; simp [digR, codeN, prodN]
  | cons x l ih =>
    intro c a hx
    have h1 := hx x (by simp)
    simp only [digR, codeN, prodN]
    have e : (a + (digR l c).2 / x) * x + ((digR l c).2 % x + 1) - 1 = a * x + (digR l c).2 := by
      have := Nat.div_add_mod (digR l c).2 x
      have h2 : (a + (digR l c).2 / x) * x = a * x + x * ((digR l c).2 / x) := by rw [Nat.add_mul, Nat.mul_comm ((digR l c).2 / x)]
      omega
    rw [e, ih c (a * x) fun y hy => hx y (by simp [hy])]
    grind

theorem digR_zero : ∀ (ln : List Nat) (c : Nat), (∀ x ∈ ln, 1 ≤ x) → c < prodN ln → (digR ln c).2 = 0 := by
  have key : ∀ (ln : List Nat) (c : Nat), (∀ x ∈ ln, 1 ≤ x) → (digR ln c).2 = c / prodN ln := by
    intro ln
    induction ln with
    | nil => intro c _; simp [digR, prodN]
    | cons x l ih =>
      intro c hx
      simp only [digR, prodN]
      rw [ih c fun y hy => hx y (by simp [hy]), Nat.div_div_eq_div_mul, Nat.mul_comm]
  intro ln c hx hc
  rw [key ln c hx]
  exact Nat.div_eq_of_lt hc

theorem digR_ok : ∀ (ln : List Nat) (c : Nat), (∀ x ∈ ln, 1 ≤ x) → ∀ p ∈ ln.zip (digR ln c).1, 1 ≤ p.2 ∧ p.2 ≤ p.1 := by
  intro ln
  induction ln with
  | nil => intro c _ p hp; simp at hp
  | cons x l ih =>
    intro c hx p hp
    simp only [digR, List.zip_cons_cons, List.mem_cons] at hp
    have h1 := hx x (by simp)
    rcases hp with rfl | hp
    · have := Nat.mod_lt (digR l c).2 h1
      simp only
      omega
    · exact ih c (fun y hy => hx y (by simp [hy])) p hp

/-- The number of a state is below the number of states, and its state is the state. -/
theorem digR_code : ∀ (ln sn : List Nat) (a : Nat), sn.length = ln.length → (∀ p ∈ ln.zip sn, 1 ≤ p.2 ∧ p.2 ≤ p.1) → (digR ln (codeN a ln sn)) = (sn, a) := by
  intro ln
  induction ln with
  | nil =>
    intro sn a h _
    rw [List.eq_nil_of_length_eq_zero h]
    rfl
  | cons x l ih =>
    intro sn a h hp
    cases sn with
    | nil => simp at h
    | cons y s =>
      have h1 := hp (x, y) (by simp)
      simp only at h1
      simp only [digR, codeN]
      rw [ih s (a * x + y - 1) (by simpa using h) fun p hp' => hp p (by simp [hp'])]
      simp only
      have e : a * x + y - 1 = (y - 1) + x * a := by rw [Nat.mul_comm]; omega
      have e1 : (a * x + y - 1) % x = y - 1 := by rw [e, Nat.add_mul_mod_self_left, Nat.mod_eq_of_lt (by omega)]
      have e2 : (a * x + y - 1) / x = a := by rw [e, Nat.add_mul_div_left _ _ (by omega), Nat.div_eq_of_lt (by omega), Nat.zero_add]
      rw [e1, e2]
      congr 2
      omega

theorem code_lt : ∀ (ln sn : List Nat) (a : Nat), sn.length = ln.length → (∀ p ∈ ln.zip sn, 1 ≤ p.2 ∧ p.2 ≤ p.1) → codeN a ln sn < (a + 1) * prodN ln := by
  intro ln
  induction ln with
  | nil => intro sn a h _; rw [List.eq_nil_of_length_eq_zero h]; simp [codeN, prodN]
  | cons x l ih =>
    intro sn a h hp
    cases sn with
    | nil => simp at h
    | cons y s =>
      have h1 := hp (x, y) (by simp)
      simp only at h1
      have := ih s (a * x + y - 1) (by simpa using h) fun p hp' => hp p (by simp [hp'])
      simp only [codeN, prodN]
      have e : a * x + y - 1 + 1 ≤ (a + 1) * x := by rw [Nat.add_mul, Nat.one_mul]; omega
      have h2 := Nat.mul_le_mul_right (prodN l) e
      rw [← Nat.mul_assoc]
      omega

theorem s89 {v : Value} {ln : List Nat} {c : Nat} {h : H} (hl : SlR h 3 1 v (cellsI (nI ln))) (h5 : ln.length ≤ 5) (h1 : 1 ≤ ln.length) (hok : ∀ x ∈ ln, 1 ≤ x ∧ x ≤ 40) (hc : c < 2 ^ 30) :
    ∃ v' h' b, rn 89 #[v, iv c] h = some (v', h') ∧ Ext h h' ∧ IA h' b v' (nI (stateP ln c)) := by
  have hn : ∀ {T : Type} (K : Int → Option T), len v K = K (ln.length : Int) := fun K => by rw [hl.len]; simp
  have hmk : ∀ (K : Value → H → Option (Value × H)), mks Try.prog h 22 (ln.length : Int) (ln.length : Int) K = K (.slice (some ⟨h.nx, 0, none⟩) ln.length ln.length) (h.new (.row ((List.replicate ln.length 0).map iv) 3 true)) := fun K => mks_ints app22 zero3 (by omega) K
  have x1 : Ext h (h.new (.row ((List.replicate ln.length 0).map iv) 3 true)) := .new _ _
  have ia1 : IA (h.new (.row ((List.replicate ln.length 0).map iv) 3 true)) h.nx (.slice (some ⟨h.nx, 0, none⟩) ln.length ln.length) (List.replicate ln.length 0) := ia_new (by omega) (by simp)
  have hsc : (Value.slice (some ⟨h.nx, 0, none⟩) ln.length ln.length).cells = #[.slice (some ⟨h.nx, 0, none⟩) ln.length ln.length] := rfl
  generalize Value.slice (some ⟨h.nx, 0, none⟩) ln.length ln.length = v2 at *
  generalize h.new (.row ((List.replicate ln.length 0).map iv) 3 true) = h1 at *
  have hle : ∀ l : List Nat, (digR l c).2 ≤ c := by
    intro l
    induction l with
    | nil => exact Nat.le_refl _
    | cons x l ih => exact Nat.le_trans (Nat.div_le_self _ _) ih
  obtain ⟨ws', h', hlp, xg, ia, hw⟩ := lp_for (σ := Unit) (F := f89_l1 rn (ln.length + 1) v v2) (k := ln.length + 1) (l := ln.reverse) (fun _ _ _ => ())
    (fun j _ ws g => Ext h g ∧ IA g h.nx v2 (List.replicate (ln.length - j) 0 ++ nI (digR (ln.drop (ln.length - j)) c).1) ∧ ws = [iv (digR (ln.drop (ln.length - j)) c).2, iv ((ln.length : Int) - 1 - j)]) 0 (ws := [iv c, iv ((ln.length : Int) - 1)]) (h := h1) (s0 := ())
    ⟨x1, by simpa [digR] using ia1, by simp [digR]⟩ (by simp)
    (by
      rintro _ ws g ⟨_, _, rfl⟩
      simp [f89_l1, show ((ln.length : Int) - 1 - ln.length) = -1 by omega])
    (by
      rintro j x _ ws g hx ⟨xg, ia, rfl⟩
      have hj := (List.getElem?_eq_some_iff.1 hx).1
      rw [List.length_reverse] at hj
      rw [List.getElem?_reverse hj] at hx
      have hxx := hok x (List.mem_of_getElem? hx)
      -- the place
      obtain ⟨i, hi⟩ : ∃ i, i = ln.length - 1 - j := ⟨_, rfl⟩
      rw [← hi] at hx
      have hdrop : ln.drop (ln.length - (j + 1)) = x :: ln.drop (ln.length - j) := by
        rw [show ln.length - (j + 1) = i by omega, show ln.length - j = i + 1 by omega]
        have hil := (List.getElem?_eq_some_iff.1 hx)
        rw [List.drop_eq_getElem_cons hil.1, hil.2]
      have hij : ((ln.length : Int) - 1 - j) = (i : Int) := by omega
      rw [hij, hdrop]
      simp only [digR]
      have hlc := hle (ln.drop (ln.length - j))
      have hlen := digR_len (ln.drop (ln.length - j)) c
      generalize (digR (ln.drop (ln.length - j)) c).1 = ds at *
      generalize (digR (ln.drop (ln.length - j)) c).2 = c' at *
      have hm := Nat.mod_lt c' hxx.1
      have hset : (List.replicate (ln.length - j) 0 ++ nI ds).set i (((c' % x + 1 : Nat)) : Int) = List.replicate (ln.length - (j + 1)) 0 ++ nI ((c' % x + 1) :: ds) := by
        rw [List.set_append_left _ _ (by simp; omega)]
        have e : List.replicate (ln.length - j) (0 : Int) = List.replicate i 0 ++ [0] := by
          rw [show ln.length - j = i + 1 by omega, List.replicate_succ']
        rw [e, List.set_append_right _ _ (by simp)]
        simp [show ln.length - (j + 1) = i by omega]
      have il : i < (List.replicate (ln.length - j) (0 : Int) ++ nI ds).length := by simp; omega
      have hq : quo .i64 (c' : Int) (x : Int) = ((c' / x : Nat) : Int) := quo_nat (by omega)
      have hr : rem .i64 (c' : Int) (x : Int) = ((c' % x : Nat) : Int) := rem_nat _ _
      have hsub : sub .i64 (i : Int) 1 = (i : Int) - 1 := sub64 (by omega) (by omega)
      have hadd : add .i64 ((c' % x : Nat) : Int) 1 = ((c' % x + 1 : Nat) : Int) := by rw [add64 (by omega) (by omega)]; simp
      generalize c' % x + 1 = d at *
      generalize c' % x = r at *
      generalize c' / x = c2 at *
      have p2 : ∀ (K : H → Option (Ex × List Value × H)), (six v2 (i : Int) 1 fun b o => (wrc 1 g b o (.int .i64 d)).bind K) = K (g.set h.nx (.row (((List.replicate (ln.length - j) 0 ++ nI ds).set i (d : Int)).map iv) 3 true)) := fun K => by rw [ia.put (i := (i : Int)) (by omega) (by rw [Int.toNat_natCast]; exact il), ia.wrc (i := ((i : Int)).toNat) (by rw [Int.toNat_natCast]; exact il)]; rfl
      have ia3 := ia.set i (d : Int)
      have x3 : Ext h (g.set h.nx (.row (((List.replicate (ln.length - j) 0 ++ nI ds).set i (d : Int)).map iv) 3 true)) := xg.set (Nat.le_refl _) _
      rw [hset] at ia3 x3
      simp only [hset] at p2
      have e1 := fun (K : Value → Option (Ex × List Value × H)) => nI_get (hl.ext xg) hx K
      generalize g.set h.nx (.row ((List.replicate (ln.length - (j + 1)) 0 ++ nI (d :: ds)).map iv) 3 true) = h3 at *
      have e3 := fun (K : Value → Option (Ex × List Value × H)) => nI_get (hl.ext x3) hx K
      refine ⟨[iv c2, iv ((i : Int) - 1)], h3, ?_, x3, ia3, by rw [show ((ln.length : Int) - 1 - ((j + 1 : Nat) : Int)) = (i : Int) - 1 by omega]⟩
      simp [f89_l1, e1, hr, hadd, p2, e3, hq, hsub, nz_ne (show (x : Int) ≠ 0 by omega)])
  simp only [List.length_reverse, Nat.sub_self, List.replicate_zero, List.nil_append, List.drop_zero] at ia
  refine ⟨v2, h', h.nx, x89 (k := ln.length + 1) ?_ ia.slR.notR, xg, ia⟩
  have hsub : sub .i64 (ln.length : Int) 1 = (ln.length : Int) - 1 := sub64 (by omega) (by omega)
  simp [f89, hn, hmk, hsub, lp_eq hlp]

end Go.AM
