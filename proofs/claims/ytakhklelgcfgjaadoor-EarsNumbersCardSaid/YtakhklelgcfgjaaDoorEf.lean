/- Cut nodes; a town without an edge. -/
import Derived.Test.YtakhklelgcfgjaaDoorEe
namespace Go.AM
open Go.Proofs

variable {R : Type}

attribute [local simp] nx_eq nx_new nx_set blk_new blk_set asI_int asK_int asB_bool asP_ptr al_eq bx_eq len_slice onE_exit onE_ret onR_ret Value.cells d3 d22 d23 d32 d78 w3 cell_new cell_set rd_new rd_set off eq lt le ifB gv out ext20 ext21

/-! ### Cut nodes -/

/-- Is a node a cut node of a set that has it? -/
noncomputable def cutQ (g : List Nat) (S v : Nat) : Bool := !connS g (without (rch g S v) (2 ^ v))
noncomputable def cutsP (g : List Nat) (S : Nat) : Nat := mkS (fun v => S.testBit v && cutQ g S v) 10

theorem cutsP_lt (g : List Nat) (S : Nat) : cutsP g S < 1024 := mkS_lt _ 10
theorem cutsP_bit {g : List Nat} {S v : Nat} (hS : S < 1024) : (cutsP g S).testBit v = true ↔ S.testBit v = true ∧ cutQ g S v = true := by
  unfold cutsP
  rw [mkS_bit, Bool.and_eq_true, Bool.and_eq_true, decide_eq_true_iff]
  exact ⟨And.right, fun h => ⟨bit_lt (n := 10) hS h.1, h⟩⟩

/-- Numbers put into a set one by one. -/
theorem orIf_bit {p : Nat → Bool} {u : Nat} : ∀ (L : List Nat) (i s : Nat), (foldI (fun _ v s => if p v = true then s ||| 2 ^ v else s) L i s).testBit u = true ↔ s.testBit u = true ∨ (u ∈ L ∧ p u = true) := by
  intro L
  induction L with
  | nil => intro i s; simp [foldI]
  | cons v L ih =>
    intro i s
    simp only [foldI]
    rw [ih]
    have h1 : (if p v = true then s ||| 2 ^ v else s).testBit u = true ↔ s.testBit u = true ∨ (u = v ∧ p u = true) := by
      split
      · rename_i hp
        rw [Nat.testBit_or, Nat.testBit_two_pow, Bool.or_eq_true, decide_eq_true_iff]
        constructor
        · rintro (h | h)
          · exact .inl h
          · exact .inr ⟨h.symm, h ▸ hp⟩
        · rintro (h | ⟨h, _⟩)
          · exact .inl h
          · exact .inr h.symm
      · rename_i hp
        constructor
        · exact .inl
        · rintro (h | ⟨rfl, h⟩)
          · exact h
          · exact absurd h hp
    rw [h1, List.mem_cons]
    constructor
    · rintro ((h | ⟨h, h'⟩) | ⟨h, h'⟩)
      · exact .inl h
      · exact .inr ⟨.inl h, h'⟩
      · exact .inr ⟨.inr h, h'⟩
    · rintro (h | ⟨h | h, h'⟩)
      · exact .inl (.inl h)
      · exact .inl (.inr ⟨h, h'⟩)
      · exact .inr ⟨h, h'⟩

theorem orIf_lt {p : Nat → Bool} {n : Nat} : ∀ (L : List Nat) (i s : Nat), s < 2 ^ n → (∀ v ∈ L, v < n) → foldI (fun _ v s => if p v = true then s ||| 2 ^ v else s) L i s < 2 ^ n := by
  intro L
  induction L with
  | nil => intro i s h _; exact h
  | cons v L ih =>
    intro i s h hv
    simp only [foldI]
    refine ih _ _ ?_ fun w hw => hv w (List.mem_cons_of_mem _ hw)
    split
    · exact Nat.or_lt_two_pow h (Nat.pow_lt_pow_right (by omega) (hv v List.mem_cons_self))
    · exact h

theorem rch_ltn {g : List Nat} {W v : Nat} (hg : GrB g) (hv : v < g.length) (hW : W < 2 ^ g.length) : rch g W v < 2 ^ g.length := by
  have hlen := hg.len
  have hW' : W < 1024 := Nat.lt_of_lt_of_le hW hg.pow
  refine Nat.lt_pow_two_of_testBit _ fun i hi => ?_
  rw [Bool.eq_false_iff]
  intro h
  have hr := (rch_bit (by omega) hW').1 h
  cases hr with
  | base => omega
  | step _ _ hb => have := bit_lt hW hb; omega

theorem cut_calc {g : List Nat} {S v : Nat} (hg : GrB g) (hv : v < g.length) (hS : S < 2 ^ g.length) : AM.andNot .i64 (rch g S v : Int) (AM.shl .i64 1 (v : Int)) = ((without (rch g S v) (2 ^ v) : Nat) : Int) := by
  have h1 := rch_lt g S v
  have hlen := hg.len
  have hv' : 2 ^ v < 2 ^ 10 := Nat.pow_lt_pow_right (by omega) (by omega)
  rw [shl1_nat (by omega), andNot_nat (by omega) (by omega)]

theorem s70 {tv : Value} {g : List Nat} {S : Nat} {h : H} (hg : GrB g) (hs : SlR h 3 1 tv (cellsN g)) (hS : S < 2 ^ g.length) : rn 70 #[tv, iv S] h = some (iv (cutsP g S : Nat), h) := by
  have hlen := hg.len
  have hS' : S < 1024 := Nat.lt_of_lt_of_le hS hg.pow
  obtain ⟨nv, h1, e76, x1w, hn⟩ := s76 hS' h
  have x1 := x1w.toExt
  have c76 := fun (K : Value → H → Option (Value × H)) => calls_eq (K := K) (xs := [iv S]) e76
  have hnn : ∀ {T : Type} (K : Int → Option T), len nv K = K ((elts S).length : Int) := fun K => by rw [hn.len]; simp
  have hpl : (elts S).length ≤ 10 := by rw [elts_len]; exact pop_le_n (Nat.le_refl 10) hS'
  have hl := lp_same (σ := Nat) (ρ := Empty) (F := f70_l1 rn 200 tv S nv (elts S).length) (k := 200) (l := elts S) (h := h1) (fun i s => [iv s, iv i])
    (fun _ v s => .inl (if cutQ g S v = true then s ||| 2 ^ v else s)) (fun _ s => s < 1024) (fun _ => .ret) (fun _ => []) 0 (fun s => [iv s, iv (elts S).length]) (ws := [iv 0, iv 0]) (s0 := 0) rfl (by decide) (by omega) (by simp)
    (fun _ _ => by simp [f70_l1])
    (by
      intro i v s hx hI
      have hi := (List.getElem?_eq_some_iff.1 hx).1
      have hv : v < g.length := bit_lt hS ((mem_elts hS').1 (List.mem_of_getElem? hx))
      have hv' : 2 ^ v < 2 ^ 10 := Nat.pow_lt_pow_right (by omega) (by omega)
      refine ⟨fun s' hs' => by cases hs'; split; exact Nat.or_lt_two_pow (n := 10) hI hv'; exact hI, ?_⟩
      have e1 : ∀ (K : Value → Option (Ex × List Value × H)), (six nv (i : Int) 1 fun b o => (h1.cell b o).bind K) = K (iv v) := fun K => hn.c0 (by omega) (x := [iv v]) (by simp [hx]) rfl K
      have c78 := fun (K : Value → H → Option (Ex × List Value × H)) => calls_eq (K := K) (xs := [tv, iv v, iv S]) (s78 hg (hs.ext x1) hv hS)
      have c64 := fun (K : Value → H → Option (Ex × List Value × H)) => calls_eq (K := K) (xs := [tv, iv (without (rch g S v) (2 ^ v) : Nat)]) (s64 hg (hs.ext x1) (without_le _ _ (rch_ltn hg hv hS)))
      have hadd : add .i64 (i : Int) 1 = (i : Int) + 1 := add64 (by omega) (by omega)
      have hor : AM.or .i64 (s : Int) (AM.shl .i64 1 (v : Int)) = ((s ||| 2 ^ v : Nat) : Int) := by rw [shl1_nat (by omega), or_nat (by omega) (by omega)]
      have hcalc := cut_calc hg hv hS
      unfold cutQ
      cases hq : connS g (without (rch g S v) (2 ^ v)) with
      | true => simp [f70_l1, hi, e1, c78, nn_ge (show (0 : Int) ≤ (v : Int) by omega), hcalc, c64, hq, hadd, rnd]
      | false => simp [f70_l1, hi, e1, c78, nn_ge (show (0 : Int) ≤ (v : Int) by omega), hcalc, c64, hq, hadd, hor, rnd])
  rw [itL_inl (fun _ v s => if cutQ g S v = true then s ||| 2 ^ v else s)] at hl
  have he : foldI (fun _ v s => if cutQ g S v = true then s ||| 2 ^ v else s) (elts S) 0 0 = cutsP g S := by
    refine set_ext (n := 10) (orIf_lt (n := 10) _ _ _ (by decide) fun v hv => by have := bit_lt hS ((mem_elts hS').1 hv); omega) (cutsP_lt g S) fun i _ => ?_
    rw [Bool.eq_iff_iff, orIf_bit, cutsP_bit hS', mem_elts hS']
    simp
  rw [he] at hl
  refine p70 (k := 200) (h1 := h1) ?_ rfl x1
  unfold f70
  rw [c76, hnn]
  refine (lp_eq hl.1).trans ?_
  rfl

theorem s74 {tv : Value} {g : List Nat} {S : Nat} {h : H} (hg : GrB g) (hs : SlR h 3 1 tv (cellsN g)) (hS : S < 2 ^ g.length) : rn 74 #[tv, iv S] h = some (iv (cutsP g S : Nat), h) := by
  have hlen := hg.len
  have hS' : S < 1024 := Nat.lt_of_lt_of_le hS hg.pow
  have hn : ∀ {T : Type} (K : Int → Option T), len tv K = K (g.length : Int) := fun K => by rw [hs.len]; simp
  have hl := lp_same (σ := Nat) (ρ := Empty) (F := f74_l1 rn 200 tv S g.length) (k := 200) (l := List.range g.length) (h := h) (fun i s => [iv s, iv i])
    (fun _ v s => .inl (if (S.testBit v && cutQ g S v) = true then s ||| 2 ^ v else s)) (fun _ s => s < 1024) (fun _ => .ret) (fun _ => []) 0 (fun s => [iv s, iv g.length]) (ws := [iv 0, iv 0]) (s0 := 0) rfl (by decide) (by simp; omega) (by simp)
    (fun _ _ => by rw [List.length_range]; simp [f74_l1])
    (by
      intro i v s hx hI
      obtain ⟨hv, rfl⟩ := range_get hx
      have hv' : 2 ^ v < 2 ^ 10 := Nat.pow_lt_pow_right (by omega) (by omega)
      refine ⟨fun s' hs' => by cases hs'; split; exact Nat.or_lt_two_pow (n := 10) hI hv'; exact hI, ?_⟩
      have c33 := fun (K : Value → H → Option (Ex × List Value × H)) => calls_eq (K := K) (xs := [tv, iv S, iv v]) (s33 hg hs hv hS)
      have c67 := fun (K : Value → H → Option (Ex × List Value × H)) => calls_eq (K := K) (xs := [tv, iv (without (rch g S v) (2 ^ v) : Nat)]) (s67 hg hs (without_le _ _ (rch_ltn hg hv hS)))
      have hadd : add .i64 (v : Int) 1 = (v : Int) + 1 := add64 (by omega) (by omega)
      have hor : AM.or .i64 (s : Int) (AM.shl .i64 1 (v : Int)) = ((s ||| 2 ^ v : Nat) : Int) := by rw [shl1_nat (by omega), or_nat (by omega) (by omega)]
      have hcalc := cut_calc hg hv hS
      have hbit : AM.and .i64 (shr .i64 (S : Int) (v : Int)) 1 = if S.testBit v then 1 else 0 := bit_nat (by omega) (by omega)
      unfold cutQ
      cases hb : S.testBit v with
      | false => simp [f74_l1, hv, c33, nn_ge (show (0 : Int) ≤ (v : Int) by omega), hbit, hb, hadd, rnd]
      | true =>
        by_cases h0 : without (rch g S v) (2 ^ v) = 0
        · have hc : connS g 0 = true := by simp [connS]
          rw [h0] at hcalc
          simp [f74_l1, hv, c33, nn_ge (show (0 : Int) ≤ (v : Int) by omega), hbit, hb, hcalc, h0, hc, hadd, rnd]
        · rw [decide_eq_true (show without (rch g S v) (2 ^ v) ≠ 0 from h0), Bool.true_and] at c67
          have hne : ¬ ((without (rch g S v) (2 ^ v) : Nat) : Int) = 0 := by omega
          cases hq : connS g (without (rch g S v) (2 ^ v)) with
          | true => simp [f74_l1, hv, c33, nn_ge (show (0 : Int) ≤ (v : Int) by omega), hbit, hb, hcalc, hne, h0, c67, hq, hadd, rnd]
          | false => simp [f74_l1, hv, c33, nn_ge (show (0 : Int) ≤ (v : Int) by omega), hbit, hb, hcalc, hne, h0, c67, hq, hadd, hor, rnd])
  rw [itL_inl (fun _ v s => if (S.testBit v && cutQ g S v) = true then s ||| 2 ^ v else s)] at hl
  have he : foldI (fun _ v s => if (S.testBit v && cutQ g S v) = true then s ||| 2 ^ v else s) (List.range g.length) 0 0 = cutsP g S := by
    refine set_ext (n := 10) (orIf_lt (n := 10) _ _ _ (by decide) fun v hv => by have := List.mem_range.1 hv; omega) (cutsP_lt g S) fun i _ => ?_
    rw [Bool.eq_iff_iff, orIf_bit, cutsP_bit hS', List.mem_range, Bool.and_eq_true]
    constructor
    · rintro (h | ⟨_, h⟩)
      · simp at h
      · exact h
    · intro h
      exact .inr ⟨bit_lt hS h.1, h⟩
  rw [he] at hl
  refine p74 (k := 200) (h1 := h) ?_ rfl (.refl _)
  unfold f74
  rw [hn]
  refine (lp_eq hl.1).trans ?_
  rfl

end Go.AM
