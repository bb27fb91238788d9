/- The document's lives: its states in order, and those that come. -/
import Derived.Test.YtnhmgokjijlhbaaRo
namespace Go.AM
open Go.Proofs Go.Lives

variable {R : Type}

attribute [local simp] nx_eq nx_new nx_set blk_new blk_set asI_int asK_int asB_bool asP_ptr al_eq bx_eq len_slice onE_exit onE_ret onR_ret Value.cells d3 d22 d31 d60 w60 w3 w22 cell_new cell_set rd_new rd_set off eq lt le ifB gv out eqF1 eqF2 eqF3 eqF4 eqF5 eqF6 eqF7 eqF8 ext20 ext21

/-! ### The next state, in order -/

def incL : List Nat → List Nat → List Nat × Nat
  | x :: l, d :: ds => if (incL l ds).2 = 0 then (d :: (incL l ds).1, 0) else if d + 1 ≤ x then ((d + 1) :: (incL l ds).1, 0) else (1 :: (incL l ds).1, 1)
  | _, _ => ([], 1)

theorem incL_digR : ∀ (l : List Nat) (c : Nat), (∀ x ∈ l, 1 ≤ x) → (incL l (digR l c).1).1 = (digR l (c + 1)).1 ∧ (digR l (c + 1)).2 = (digR l c).2 + (incL l (digR l c).1).2 ∧ ((incL l (digR l c).1).2 = 0 ∨ (incL l (digR l c).1).2 = 1) := by
  intro l
  induction l with
  | nil => intro c _; simp [incL, digR]
  | cons x l ih =>
    intro c h
    obtain ⟨i1, i2, i3⟩ := ih c (fun y hy => h y (by simp [hy]))
    have hx := h x (by simp)
    simp only [digR, incL]
    rw [i1, i2]
    generalize (digR l c).2 = q at *
    generalize (digR l (c + 1)).1 = ds at *
    rcases i3 with i3 | i3 <;> rw [i3]
    · simp
    · have hm := Nat.mod_lt q (show 0 < x by omega)
      have hd := Nat.div_add_mod q x
      by_cases hc : q % x + 1 + 1 ≤ x
      · rw [if_neg (by omega), if_pos hc]
        have e1 : (q + 1) % x = q % x + 1 := by
          rw [← hd, Nat.add_assoc, Nat.mul_add_mod, Nat.mul_add_mod, Nat.mod_mod]
          exact Nat.mod_eq_of_lt (by omega)
        have e2 : (q + 1) / x = q / x := by
          rw [Nat.div_eq_iff (by omega)]
          have h1 := Nat.div_mul_le_self q x
          have h2 : q = x * (q / x) + q % x := hd.symm
          rw [Nat.mul_comm] at h2
          constructor <;> omega
        simp [e1, e2]
      · rw [if_neg (by omega), if_neg hc]
        have e : q + 1 = x * (q / x + 1) := by rw [Nat.mul_add, Nat.mul_one]; omega
        have e1 : (q + 1) % x = 0 := by rw [e]; exact Nat.mul_mod_right _ _
        have e2 : (q + 1) / x = q / x + 1 := by rw [e]; exact Nat.mul_div_cancel_left _ (by omega)
        simp [e1, e2]

theorem incL_len : ∀ (l ds : List Nat), ds.length = l.length → (incL l ds).1.length = l.length := by
  intro l
  induction l with
  | nil => intro ds h; cases ds <;> simp_all [incL]
  | cons x l ih =>
    intro ds h
    cases ds with
    | nil => simp at h
    | cons d ds =>
      have := ih ds (by simpa using h)
      simp only [incL]
      split
      · simp [this]
      · split <;> simp [this]

theorem incL_take : ∀ (i : Nat) (l ds : List Nat), ds.length = l.length → i ≤ l.length → (incL (l.drop i) (ds.drop i)).2 = 0 → (incL l ds).1 = ds.take i ++ (incL (l.drop i) (ds.drop i)).1 ∧ (incL l ds).2 = 0 := by
  intro i
  induction i with
  | zero => intro l ds _ _ h; simpa using h
  | succ i ih =>
    intro l ds hl hi h
    cases l with
    | nil => simp at hi
    | cons x l =>
      cases ds with
      | nil => simp at hl
      | cons d ds =>
        simp only [List.drop_succ_cons] at h
        obtain ⟨h1, h2⟩ := ih l ds (by simpa using hl) (by simpa using hi) h
        simp only [incL, h2, if_true, List.drop_succ_cons, List.take_succ_cons, List.cons_append]
        exact ⟨by rw [h1], trivial⟩

theorem state_succ {ln : List Nat} (h : ∀ x ∈ ln, 1 ≤ x) (c : Nat) : (incL ln (stateP ln c)).1 = stateP ln (c + 1) := (incL_digR ln c h).1

theorem state_zero (ln : List Nat) (h : ∀ x ∈ ln, 1 ≤ x) : stateP ln 0 = List.replicate ln.length 1 := by
  have key : ∀ l : List Nat, (digR l 0) = (List.replicate l.length 1, 0) := by
    intro l
    induction l with
    | nil => rfl
    | cons x l ih => simp [digR, ih, List.replicate_succ]
  unfold stateP
  rw [key]

/-- The odometer. -/
theorem odo_loop {v0 v3 : Value} {ln ds : List Nat} {b2 : Nat} {g0 : H} (hl : SlR g0 3 1 v0 (cellsI (nI ln))) (hlb : ∀ b, blkOf v0 = some b → b ≠ b2) (ia : IA g0 b2 v3 (nI ds)) (hlen : ds.length = ln.length) (h5 : ln.length ≤ 5) (hok : ∀ x ∈ ln, x ≤ 40) (hds : ∀ x ∈ ds, x ≤ 40) :
    ∃ ws' g', lpGo (f62_l5 rn 200010 v0 v3) 200010 [iv ((ln.length : Int) - 1)] g0 = some (.exit 8, ws', g') ∧ IA g' b2 v3 (nI (incL ln ds).1) ∧ g'.nx = g0.nx ∧ ∀ b, b ≠ b2 → g'.blk b = g0.blk b := by
  obtain ⟨e, ws', g', hlp, rfl, hq⟩ := lpGo_inv (F := f62_l5 rn 200010 v0 v3)
    (fun d ws g => ws = [iv ((d : Int) - 1)] ∧ d ≤ ln.length ∧ IA g b2 v3 (nI (ds.take d ++ (incL (ln.drop d) (ds.drop d)).1)) ∧ (incL (ln.drop d) (ds.drop d)).2 = 1 ∧ g.nx = g0.nx ∧ ∀ b, b ≠ b2 → g.blk b = g0.blk b)
    (fun e _ g => e = .exit 8 ∧ IA g b2 v3 (nI (incL ln ds).1) ∧ g.nx = g0.nx ∧ ∀ b, b ≠ b2 → g.blk b = g0.blk b)
    (by
      rintro d ws g ⟨rfl, hd, iag, hc, hn, hk⟩
      cases d with
      | zero =>
        refine ⟨.exit 8, [iv (-1)], g, by simp [f62_l5], .inr ⟨by simp, rfl, by simpa using iag, hn, hk⟩⟩
      | succ i =>
        have hil : i < ln.length := by omega
        have hid : i < ds.length := by omega
        have hx : ln[i]? = some ln[i] := List.getElem?_eq_getElem hil
        have hxx := hok _ (List.getElem_mem hil)
        have hdd := hds _ (List.getElem_mem hid)
        have hdl : ln.drop i = ln[i] :: ln.drop (i + 1) := List.drop_eq_getElem_cons hil
        have hdd' : ds.drop i = ds[i] :: ds.drop (i + 1) := List.drop_eq_getElem_cons hid
        have htk : ds.take (i + 1) = ds.take i ++ [ds[i]] := by rw [List.take_add_one, List.getElem?_eq_getElem hid]; rfl
        have hti : (ds.take i).length = i := by simp; omega
        have hinc : incL (ln.drop i) (ds.drop i) = if ds[i] + 1 ≤ ln[i] then ((ds[i] + 1) :: (incL (ln.drop (i + 1)) (ds.drop (i + 1))).1, 0) else (1 :: (incL (ln.drop (i + 1)) (ds.drop (i + 1))).1, 1) := by
          rw [hdl, hdd']
          simp only [incL]
          rw [if_neg (by omega)]
        generalize hr : (incL (ln.drop (i + 1)) (ds.drop (i + 1))).1 = r at *
        generalize ln[i] = x at *
        generalize ds[i] = y at *
        have hii : ((i + 1 : Nat) : Int) - 1 = (i : Int) := by omega
        rw [hii]
        rw [htk, List.append_assoc, List.singleton_append] at iag
        have hget : ∀ z : Nat, (nI (ds.take i ++ z :: r))[i]? = some (z : Int) := fun z => by
          rw [List.getElem?_map, List.getElem?_append_right (by omega), hti, Nat.sub_self]; rfl
        have hset : ∀ z w : Nat, (nI (ds.take i ++ z :: r)).set i (w : Int) = nI (ds.take i ++ w :: r) := fun z w => by
          show (List.map _ _).set i _ = _
          rw [← List.map_set, List.set_append_right _ _ (by omega), hti, Nat.sub_self]; rfl
        have hle : ∀ z : Nat, i < (nI (ds.take i ++ z :: r)).length := fun z => by simp; omega
        have e1 : ∀ (K : Value → Option (Ex × List Value × H)), (six v3 (i : Int) 1 fun b o => (g.cell b o).bind K) = K (iv (y : Int)) := fun K => iag.get (by omega) (by rw [Int.toNat_natCast]; exact hget y) K
        have hadd : add .i64 (y : Int) 1 = ((y + 1 : Nat) : Int) := by rw [add64 (by omega) (by omega)]; simp
        have e2 : ∀ (K : H → Option (Ex × List Value × H)), (six v3 (i : Int) 1 fun b o => (wrc 1 g b o (.int .i64 ((y + 1 : Nat) : Int))).bind K) = K (g.set b2 (.row ((nI (ds.take i ++ (y + 1) :: r)).map iv) 3 true)) := fun K => by
          rw [iag.put (by omega) (by rw [Int.toNat_natCast]; exact hle y), iag.wrc (i := ((i : Int)).toNat) (by rw [Int.toNat_natCast]; exact hle y), Int.toNat_natCast, hset]; rfl
        have ia1 : IA (g.set b2 (.row ((nI (ds.take i ++ (y + 1) :: r)).map iv) 3 true)) b2 v3 (nI (ds.take i ++ (y + 1) :: r)) := by
          have := iag.set i ((y + 1 : Nat) : Int); rw [hset] at this; exact this
        have k1 : ∀ b, b ≠ b2 → (g.set b2 (.row ((nI (ds.take i ++ (y + 1) :: r)).map iv) 3 true)).blk b = g0.blk b := fun b hb => (blk_set_ne _ _ _ hb).trans (hk b hb)
        have n1 : (g.set b2 (.row ((nI (ds.take i ++ (y + 1) :: r)).map iv) 3 true)).nx = g0.nx := hn
        generalize g.set b2 (.row ((nI (ds.take i ++ (y + 1) :: r)).map iv) 3 true) = g1 at *
        have e3 : ∀ (K : Value → Option (Ex × List Value × H)), (six v3 (i : Int) 1 fun b o => (g1.cell b o).bind K) = K (iv ((y + 1 : Nat) : Int)) := fun K => ia1.get (by omega) (by rw [Int.toNat_natCast]; exact hget (y + 1)) K
        have hl1 : SlR g1 3 1 v0 (cellsI (nI ln)) := hl.keepB (by omega) fun b hb => k1 b (hlb b hb)
        have e4 := fun (K : Value → Option (Ex × List Value × H)) => nI_get hl1 hx K
        have hsub : sub .i64 (i : Int) 1 = (i : Int) - 1 := sub64 (by omega) (by omega)
        by_cases hc2 : y + 1 ≤ x
        · rw [if_pos hc2] at hinc
          obtain ⟨t1, t2⟩ := incL_take i ln ds hlen (by omega) (by rw [hinc])
          refine ⟨.exit 8, [iv (i : Int)], g1, ?_, .inr ⟨by simp, rfl, ?_, n1, k1⟩⟩
          · have : ((y : Int) + 1 ≤ (x : Int)) := by omega
            simp only [Int.natCast_add, Int.cast_ofNat_Int] at hadd e2 e3
            simp [f62_l5, e1, hadd, e2, e3, e4, this]
          · rw [t1, hinc]; exact ia1
        · rw [if_neg hc2] at hinc
          have e5 : ∀ (K : H → Option (Ex × List Value × H)), (six v3 (i : Int) 1 fun b o => (wrc 1 g1 b o (.int .i64 1)).bind K) = K (g1.set b2 (.row ((nI (ds.take i ++ 1 :: r)).map iv) 3 true)) := fun K => by
            rw [ia1.put (by omega) (by rw [Int.toNat_natCast]; exact hle _), ia1.wrc (i := ((i : Int)).toNat) (by rw [Int.toNat_natCast]; exact hle _), Int.toNat_natCast]
            have := hset (y + 1) 1
            rw [show ((1 : Nat) : Int) = 1 from rfl] at this
            rw [this]; rfl
          have ia2 : IA (g1.set b2 (.row ((nI (ds.take i ++ 1 :: r)).map iv) 3 true)) b2 v3 (nI (ds.take i ++ 1 :: r)) := by
            have := ia1.set i ((1 : Nat) : Int); rw [hset] at this; exact this
          refine ⟨.normal, [iv ((i : Int) - 1)], g1.set b2 (.row ((nI (ds.take i ++ 1 :: r)).map iv) 3 true), ?_, .inl ⟨rfl, i, by omega, rfl, by omega, ?_, by rw [hinc], n1, fun b hb => (blk_set_ne _ _ _ hb).trans (k1 b hb)⟩⟩
          · have : ¬ ((y : Int) + 1 ≤ (x : Int)) := by omega
            simp only [Int.natCast_add, Int.cast_ofNat_Int] at hadd e2 e3
            simp [f62_l5, e1, hadd, e2, e3, e4, this, e5, hsub]
          · rw [hinc]; exact ia2)
    ln.length 200010 (by omega) ⟨rfl, Nat.le_refl _, by
      have h1 : ln.drop ln.length = [] := List.drop_length
      have h2 : ds.drop ln.length = [] := by rw [← hlen]; exact List.drop_length
      rw [h1, h2, ← hlen, List.take_length]
      simpa [incL] using ia, by
      have h1 : ln.drop ln.length = [] := List.drop_length
      rw [h1]; simp [incL], rfl, fun _ _ => rfl⟩
  exact ⟨ws', g', hlp, hq⟩

end Go.AM
