/- Where blocks meet: the law. -/
import Derived.Test.YtakhklelgcfgjaaDoorEo
import Derived.Test.YtakhklelgcfgjaaDoorEq
import Derived.Test.YtakhklelgcfgjaaDoorF6
namespace Go.AM
open Go.Proofs

variable {R : Type}

attribute [local simp] nx_eq nx_new nx_set blk_new blk_set asI_int asK_int asB_bool asP_ptr al_eq bx_eq len_slice onE_exit onE_ret onR_ret Value.cells d3 d22 d23 d32 d78 w3 w32 cell_new cell_set rd_new rd_set off eq lt le ifB gv out ext20 ext21

theorem s94 (a b : Int) (h : H) : rn 94 #[iv a, iv b] h = some (.bool (decide (a < b)), h) := by
  have h110 : ∀ (x : Int) (g : H), rn 110 #[iv x] g = some (.bool false, g) := fun x g => p110 (k := 0) (h1 := g) (by simp [f110]) rfl (.refl _)
  have c110 := fun (x : Int) (g : H) (K : Value → H → Option (Value × H)) => calls_eq (K := K) (xs := [iv x]) (h110 x g)
  refine p94 (k := 0) (h1 := h) ?_ rfl (.refl _)
  by_cases hab : a < b <;> simp [f94, c110, hab]

/-- Numbers that rise. -/
theorem s48 {v : Value} {L : List Nat} {h : H} (hs : SlR h 3 1 v (cellsN L)) (hm : L.length < 2 ^ 20) (hp : L.Pairwise (· ≤ ·)) : rn 48 #[v] h = some (.bool true, h) := by
  have hn : ∀ {T : Type} (K : Int → Option T), len v K = K (L.length : Int) := fun K => by rw [hs.len]; simp
  obtain ⟨e, ws', h', hl, rfl, rfl⟩ := lpGo_inv (F := f48_l1 rn (2 ^ 21) v)
    (fun d ws g => g = h ∧ ∃ i : Int, ws = [.bool false, iv i] ∧ i < L.length ∧ (d : Int) = max i 0)
    (fun e ws g => e = .exit 0 ∧ g = h)
    (by
      rintro d ws g ⟨rfl, i, rfl, hi, hd⟩
      by_cases h0 : 0 < i
      · obtain ⟨j, rfl⟩ : ∃ j : Nat, i = ((j + 1 : Nat) : Int) := ⟨(i - 1).toNat, by omega⟩
        have hj : j + 1 < L.length := by omega
        have hx := List.getElem?_eq_getElem hj
        have hy := List.getElem?_eq_getElem (show j < L.length by omega)
        have hle : L[j] ≤ L[j + 1] := List.pairwise_iff_getElem.1 hp j (j + 1) (by omega) hj (by omega)
        generalize L[j + 1] = x at hx hle
        generalize L[j] = y at hy hle
        have e1 : ∀ (K : Value → Option (Ex × List Value × H)), (six v ((j + 1 : Nat) : Int) 1 fun b o => (g.cell b o).bind K) = K (iv x) := fun K => hs.c0 (by omega) (x := [iv x]) (by simp [hx]) rfl K
        have e2 : ∀ (K : Value → Option (Ex × List Value × H)), (six v (j : Int) 1 fun b o => (g.cell b o).bind K) = K (iv y) := fun K => hs.c0 (by omega) (x := [iv y]) (by simp [hy]) rfl K
        have c94 := fun (K : Value → H → Option (Ex × List Value × H)) => calls_eq (K := K) (xs := [iv x, iv y]) (s94 x y g)
        have hsub : sub .i64 ((j + 1 : Nat) : Int) 1 = (j : Int) := by rw [sub64 (by omega) (by omega)]; omega
        have hdec : decide ((x : Int) < (y : Int)) = false := decide_eq_false (by omega)
        refine ⟨.normal, [.bool false, iv j], g, ?_, .inl ⟨rfl, j, by omega, rfl, j, rfl, by omega, by omega⟩⟩
        unfold f48_l1
        simp only [gv, List.getD_cons_succ, List.getD_cons_zero, asI_int, lt_t (show (0 : Int) < ((j + 1 : Nat) : Int) by omega), ifB_true, asK_int, d3, e1, hsub, e2, c94, asB_bool, hdec]
        rfl
      · refine ⟨.exit 0, [.bool false, iv i], g, ?_, .inr ⟨by simp, rfl, rfl⟩⟩
        simp [f48_l1, h0])
    (max ((L.length : Int) - 1) 0).toNat (2 ^ 21) (by omega) (ws := [.bool false, iv ((L.length : Int) - 1)]) ⟨rfl, _, rfl, by omega, by omega⟩
  have hsub : sub .i64 (L.length : Int) 1 = (L.length : Int) - 1 := sub64 (by omega) (by omega)
  refine p48 (k := 2 ^ 21) (h1 := h') ?_ rfl (.refl _)
  unfold f48
  rw [hn, hsub]
  exact (lp_eq hl).trans rfl

/-- Is a number in a slice? -/
theorem s49 {v : Value} {L : List Nat} {x : Nat} {h : H} (hs : SlR h 3 1 v (cellsN L)) (hm : L.length < 2 ^ 20) : rn 49 #[v, iv x] h = some (.bool (decide (x ∈ L)), h) := by
  have hn : ∀ {T : Type} (K : Int → Option T), len v K = K (L.length : Int) := fun K => by rw [hs.len]; simp
  have hlp := lp_all (F := f95_l1 rn (2 ^ 21) v x L.length) (k := 2 ^ 21) (l := L) (h := h) (fun i => [iv 0, iv i])
    (fun _ y => !decide (x = y)) (fun i => [iv i, iv i]) 0 [iv 0, iv L.length] (ws := [iv 0, iv 0]) rfl (by omega)
    (by simp [f95_l1])
    (by
      intro i y hx
      have hi := (List.getElem?_eq_some_iff.1 hx).1
      have hadd : add .i64 (i : Int) 1 = (i : Int) + 1 := add64 (by omega) (by omega)
      have e1 : ∀ (K : Value → Option (Ex × List Value × H)), (six v (i : Int) 1 fun b o => (h.cell b o).bind K) = K (iv y) := fun K => hs.c0 (by omega) (x := [iv y]) (by simp [hx]) rfl K
      by_cases hxy : x = y
      · subst hxy; simp [f95_l1, hi, e1]
      · have : ¬ (x : Int) = (y : Int) := by omega
        simp [f95_l1, hi, e1, hxy, this, hadd])
  have key : ∃ i : Int, rn 95 #[v, iv x] h = some (iv i, h) ∧ (0 ≤ i ↔ x ∈ L) := by
    rcases hlp with ⟨i, y, hx, hf, _, hl⟩ | ⟨hall, hl⟩
    · refine ⟨i, p95 (k := 2 ^ 21) (h1 := h) ?_ rfl (.refl _), fun _ => ?_, fun _ => by omega⟩
      · unfold f95; rw [hn]; exact (lp_eq hl).trans rfl
      · have : x = y := by simpa using hf
        rw [this]; exact List.mem_of_getElem? hx
    · refine ⟨-1, p95 (k := 2 ^ 21) (h1 := h) ?_ rfl (.refl _), fun hc => by omega, fun hc => ?_⟩
      · unfold f95; rw [hn]; exact (lp_eq hl).trans rfl
      · obtain ⟨i, hi, rfl⟩ := List.getElem_of_mem hc
        have := hall i _ (List.getElem?_eq_getElem hi)
        simp at this
  obtain ⟨i, e, hi⟩ := key
  refine p49 (k := 0) (h1 := h) ?_ rfl (.refl _)
  unfold f49
  rw [calls_eq (xs := [v, iv x]) e, asI_int]
  have : AM.le 0 i = decide (x ∈ L) := by rw [Bool.eq_iff_iff, AM.le, decide_eq_true_iff, decide_eq_true_iff, hi]
  rw [this]

theorem keqvP (a b : Nat × Nat) (K : Bool → Option R) : eqv Tryd.prog 32 (.agg #[iv a.1, iv a.2]) (.agg #[iv b.1, iv b.2]) K = K (decide (a = b)) := by
  have h1 := keqv32 (a.1 : Int) a.2 b.1 b.2 K
  have h2 : ((a.1 : Int) == (b.1 : Int) && (a.2 : Int) == (b.2 : Int)) = decide (a = b) := by
    rw [Bool.eq_iff_iff, decide_eq_true_iff, Bool.and_eq_true, beq_iff_eq, beq_iff_eq]
    constructor
    · rintro ⟨h1, h2⟩; exact Prod.ext (by omega) (by omega)
    · rintro rfl; exact ⟨rfl, rfl⟩
  rw [h2] at h1
  exact h1

/-- Is a pair in a slice? -/
theorem s50 {v : Value} {L : List (Nat × Nat)} {x : Nat × Nat} {h : H} (hs0 : SlR h 32 2 v (cellsP L)) (hm : L.length < 2 ^ 20) : rn 50 #[v, .agg #[iv x.1, iv x.2]] h = some (.bool (decide (x ∈ L)), h) := by
  have key : ∀ g, SlR g 32 2 v (cellsP L) → ∃ i : Int, rn 96 #[v, .agg #[iv x.1, iv x.2]] g = some (iv i, g) ∧ (0 ≤ i ↔ x ∈ L) := by
    intro g hs0
    have x1 := Ext.new g (.row [iv x.1, iv x.2] 32 true)
    have hs := hs0.ext x1
    have hb1 : (g.new (.row [iv x.1, iv x.2] 32 true)).rd g.nx 0 2 = some [iv x.1, iv x.2] := rd_all (blk_new_self _ _) rfl
    have hn : ∀ {T : Type} (K : Int → Option T), len v K = K (L.length : Int) := fun K => by rw [hs.len]; simp
    have hlp := lp_all (F := f96_l1 rn (2 ^ 21) v g L.length) (k := 2 ^ 21) (l := L) (h := g.new (.row [iv x.1, iv x.2] 32 true)) (fun i => [iv 0, iv i])
      (fun _ y => !decide (x = y)) (fun i => [iv i, iv i]) 0 [iv 0, iv L.length] (ws := [iv 0, iv 0]) rfl (by omega)
      (by simp [f96_l1])
      (by
        intro i y hx
        have hi := (List.getElem?_eq_some_iff.1 hx).1
        have hadd : add .i64 (i : Int) 1 = (i : Int) + 1 := add64 (by omega) (by omega)
        have e1 : ∀ (K : Value → Option (Ex × List Value × H)), (six v (i : Int) 2 fun b o => ld Tryd.prog (g.new (.row [iv x.1, iv x.2] 32 true)) 32 b o K) = K (.agg #[iv y.1, iv y.2]) := fun K => hs.ldA ag32 sz32 (by omega) (x := [iv y.1, iv y.2]) (by simp [hx]) K
        unfold f96_l1
        simp only [gv, List.getD_cons_succ, List.getD_cons_zero, asI_int, lt_t (show (i : Int) < (L.length : Int) by omega), ifB_true, asK_int, nx_eq]
        rw [d32, hb1, Option.bind_some, e1]
        show eqv Tryd.prog 32 (.agg #[iv x.1, iv x.2]) _ _ = _
        rw [keqvP]
        by_cases hxy : x = y
        · subst hxy; simp
        · simp [hxy, hadd])
    rcases hlp with ⟨i, y, hx, hf, _, hl⟩ | ⟨hall, hl⟩
    · refine ⟨i, p96 (k := 2 ^ 21) ?_ rfl x1, fun _ => ?_, fun _ => by omega⟩
      · unfold f96; rw [bx_eq, hn]; exact (lp_eq hl).trans rfl
      · have : x = y := by simpa using hf
        rw [this]; exact List.mem_of_getElem? hx
    · refine ⟨-1, p96 (k := 2 ^ 21) ?_ rfl x1, fun hc => by omega, fun hc => ?_⟩
      · unfold f96; rw [bx_eq, hn]; exact (lp_eq hl).trans rfl
      · obtain ⟨i, hi, rfl⟩ := List.getElem_of_mem hc
        have := hall i _ (List.getElem?_eq_getElem hi)
        simp at this
  have x1 := Ext.new h (.row [iv x.1, iv x.2] 32 true)
  have hb1 : (h.new (.row [iv x.1, iv x.2] 32 true)).rd h.nx 0 2 = some [iv x.1, iv x.2] := rd_all (blk_new_self _ _) rfl
  obtain ⟨i, e, hi⟩ := key _ (hs0.ext x1)
  refine p50 (k := 0) (h1 := h.new (.row [iv x.1, iv x.2] 32 true)) ?_ rfl x1
  unfold f50
  rw [bx_eq, show (Value.agg #[iv (x.1 : Int), iv (x.2 : Int)]).cells.toList = [iv x.1, iv x.2] from rfl, nx_eq, d32, hb1, Option.bind_some, calls_eq (xs := [v, .agg #[iv x.1, iv x.2]]) e, asI_int]
  have : AM.le 0 i = decide (x ∈ L) := by rw [Bool.eq_iff_iff, AM.le, decide_eq_true_iff, decide_eq_true_iff, hi]
  rw [this]

theorem blocks_rise (g : List Nat) : (blocksP g).Pairwise (· ≤ ·) := by
  unfold blocksP candsP
  refine List.Pairwise.filter _ (List.Pairwise.filter _ (List.Pairwise.map _ (fun a b (h : a < b) => ?_) List.pairwise_lt_range))
  omega

theorem sumI_count {p : Nat → Bool} : ∀ (l : List Nat) (i s : Nat), foldI (fun _ x (s : Nat) => s + if p x = true then 1 else 0) l i s = s + l.countP p := by
  intro l
  induction l with
  | nil => intro i s; simp [foldI]
  | cons x l ih =>
    intro i s
    simp only [foldI, List.countP_cons]
    rw [ih]
    omega

set_option maxHeartbeats 1000000 in
/-- The law. -/
theorem s11 (hawake : ∀ h, rn 20 #[] h = some (.bool true, h)) {h : H} {v : Value} {l : List Int} (hs : SlR h 3 1 v (cellsI l)) : ∃ h', rn 11 #[v] h = some (.bool true, h') := by
  have c20 := fun (g : H) (K : Value → H → Option (Value × H)) => calls_eq (K := K) (xs := []) (hawake g)
  obtain ⟨v1, h1, e18, x1, hs1⟩ := s18 hs
  have c18 := fun (K : Value → H → Option (Value × H)) => calls_eq (K := K) (xs := [v]) e18
  by_cases hval : validG l = true
  · obtain ⟨g, rfl, hg⟩ := valid_nat hval
    have hlen := hg.len
    have hpow := hg.pow
    have htk : (g.map Int.ofNat).take 14 = g.map Int.ofNat := List.take_of_length_le (by have := hg.len; simp; omega)
    rw [htk, cellsN_eq] at hs1
    obtain ⟨v3, h2, e44, x2, hs3⟩ := s44 hg hval hs1
    have c44 := fun (K : Value → H → Option (Value × H)) => calls_eq (K := K) (xs := [v1]) e44
    obtain ⟨v5, h3, e18b, x3, hs5⟩ := s18 (hs.ext (x1.tr x2).toExt)
    rw [htk, cellsN_eq] at hs5
    have c18b := fun (K : Value → H → Option (Value × H)) => calls_eq (K := K) (xs := [v]) e18b
    have c24 := fun (K : Value → H → Option (Value × H)) => calls_eq (K := K) (xs := [v5]) (s24 hg hval hs5)
    obtain ⟨v9, h5, e18c, x5, hs9⟩ := s18 (hs.ext ((x1.tr x2).tr x3).toExt)
    rw [htk, cellsN_eq] at hs9
    have c18c := fun (K : Value → H → Option (Value × H)) => calls_eq (K := K) (xs := [v]) e18c
    obtain ⟨v11, h6, e23, x6, hs11⟩ := s23 hg hval hs9
    have c23 := fun (K : Value → H → Option (Value × H)) => calls_eq (K := K) (xs := [v9]) e23
    have hsv := hs.ext ((((x1.tr x2).tr x3).tr x5).tr x6).toExt
    rw [cellsN_eq] at hsv
    have hb6 := hs3.ext ((x3.tr x5).tr x6).toExt
    have hbl := blocks_len hg.toGrB
    have c48 := fun (K : Value → H → Option (Value × H)) => calls_eq (K := K) (xs := [v3]) (s48 hb6 (by omega) (blocks_rise g))
    have hn : ∀ {T : Type} (K : Int → Option T), len v K = K (g.length : Int) := fun K => by rw [hsv.len]; simp
    have hnb : ∀ {T : Type} (K : Int → Option T), len v3 K = K ((blocksP g).length : Int) := fun K => by rw [hb6.len]; simp
    have hcl := cutsP_lt g (allN g)
    have hbrl : (bridgesP g).length ≤ 100 := Nat.le_trans (List.length_filter_le _ _) (edges_len g hg.toGrB)
    -- how many blocks have both
    have loop3 : ∀ a b : Nat, a < 10 → b < 10 → ∃ w, lpGo (f11_l3 rn 20000 v3 [.bool false, iv a] [.bool false, iv b] (blocksP g).length) 20000 [iv 0, iv 0] h6 = some (.exit 4, [iv (bothN g (blocksP g) a b : Nat), w], h6) := by
      intro a b ha hb
      have hl := lp_same (σ := Nat) (ρ := Empty) (F := f11_l3 rn 20000 v3 [.bool false, iv a] [.bool false, iv b] (blocksP g).length) (k := 20000) (l := blocksP g) (h := h6) (fun i s => [iv s, iv i])
        (fun _ S s => .inl (s + if (S.testBit a && S.testBit b) = true then 1 else 0)) (fun i s => s ≤ i) (fun _ => .ret) (fun _ => []) 4 (fun s => [iv s, iv (blocksP g).length]) (ws := [iv 0, iv 0]) (s0 := 0) rfl (by omega) (by omega) (by simp)
        (fun _ _ => by simp [f11_l3])
        (by
          intro i S s hx hI
          have hi := (List.getElem?_eq_some_iff.1 hx).1
          have hS := blocks_lt (List.mem_of_getElem? hx)
          refine ⟨fun s' hs' => by cases hs'; split <;> omega, ?_⟩
          have e1 : ∀ (K : Value → Option (Ex × List Value × H)), (six v3 (i : Int) 1 fun b o => (h6.cell b o).bind K) = K (iv S) := fun K => hb6.c0 (by omega) (x := [iv S]) (by simp [hx]) rfl K
          have b1 : AM.and .i64 (shr .i64 (S : Int) (a : Int)) 1 = if S.testBit a then 1 else 0 := bit_nat (by omega) (by omega)
          have b2 : AM.and .i64 (shr .i64 (S : Int) (b : Int)) 1 = if S.testBit b then 1 else 0 := bit_nat (by omega) (by omega)
          have hadd : add .i64 (i : Int) 1 = (i : Int) + 1 := add64 (by omega) (by omega)
          have hmul : mul .i64 (if S.testBit a then 1 else 0 : Int) (if S.testBit b then 1 else 0 : Int) = if (S.testBit a && S.testBit b) = true then 1 else 0 := by
            cases S.testBit a <;> cases S.testBit b <;> rfl
          have hadd2 : add .i64 (s : Int) (if (S.testBit a && S.testBit b) = true then 1 else 0 : Int) = ((s + if (S.testBit a && S.testBit b) = true then 1 else 0 : Nat) : Int) := by
            split
            · rw [add64 (by omega) (by omega)]; omega
            · rw [add64 (by omega) (by omega)]; omega
          unfold f11_l3
          simp only [gv, List.getD_cons_succ, List.getD_cons_zero, asI_int, lt_t (show (i : Int) < ((blocksP g).length : Int) by omega), ifB_true, asK_int, d3, e1, nn_ge (show (0 : Int) ≤ (a : Int) by omega), nn_ge (show (0 : Int) ≤ (b : Int) by omega), b1, b2, hmul, hadd2, hadd]
          rfl)
      rw [itL_inl (fun (_ : Nat) (S : Nat) (s : Nat) => s + if (S.testBit a && S.testBit b) = true then 1 else 0), sumI_count (p := fun S => S.testBit a && S.testBit b)] at hl
      exact ⟨_, by simpa [bothN] using hl.1⟩
    -- two nodes
    have loop2 : ∀ a : Nat, a < g.length → lpGo (f11_l2 rn 20000 v v3 v11 [.bool false, iv a]) 20000 [.bool false, iv 0] h6 = some (.exit 2, [.bool false, iv a], h6) := by
      intro a ha
      have hlp := lp_all (F := f11_l2 rn 20000 v v3 v11 [.bool false, iv a]) (k := 20000) (l := List.range a) (h := h6) (fun i => [.bool false, iv i])
        (fun _ _ => true) (fun i => []) 2 [.bool false, iv a] (ws := [.bool false, iv 0]) rfl (by simp; omega)
        (by rw [List.length_range]; simp [f11_l2])
        (by
          intro i b hx
          obtain ⟨hb, rfl⟩ := range_get hx
          obtain ⟨w, hl3⟩ := loop3 a b (by omega) (by omega)
          have e2 := fun (K : Value → Option (Ex × List Value × H)) => getN hsv ha K
          have hbit := adj_bit hg.toGrB (a := a) (b := b) (by omega)
          have hadd : add .i64 (b : Int) 1 = (b : Int) + 1 := add64 (by omega) (by omega)
          have hor : AM.or .i64 (AM.shl .i64 1 (a : Int)) (AM.shl .i64 1 (b : Int)) = ((duo a b : Nat) : Int) := by
            have h1 : 2 ^ a ≤ 2 ^ 10 := Nat.pow_le_pow_right (by omega) (by omega)
            have h2 : 2 ^ b ≤ 2 ^ 10 := Nat.pow_le_pow_right (by omega) (by omega)
            rw [shl1_nat (by omega), shl1_nat (by omega), or_nat (by omega) (by omega)]; rfl
          have c49 := fun (K : Value → H → Option (Ex × List Value × H)) => calls_eq (K := K) (xs := [v3, iv (duo a b : Nat)]) (s49 (x := duo a b) hb6 (by omega))
          have c50 := fun (K : Value → H → Option (Ex × List Value × H)) => calls_eq (K := K) (xs := [v11, .agg #[iv b, iv a]]) (s50 (x := (b, a)) hs11 (by omega))
          have hduo : decide (duo a b ∈ blocksP g) = decide ((b, a) ∈ bridgesP g) := decide_eq_decide.2 (duo_bridge hg hb ha)
          have hone := both_le hg (a := a) (b := b) (by omega)
          have hlq := fun (K : Ex → List Value → H → Option (Ex × List Value × H)) => lp_eq (K := K) hl3
          rw [if_pos rfl]
          unfold f11_l2
          simp only [gv, List.getD_cons_succ, List.getD_cons_zero, asI_int, lt_t (show (b : Int) < (a : Int) by omega), ifB_true, hnb]
          refine (hlq _).trans ?_
          simp only [onE_exit, if_true, gv, List.getD_cons_zero, asI_int, asK_int, d3, e2, nn_ge (show (0 : Int) ≤ (a : Int) by omega), nn_ge (show (0 : Int) ≤ (b : Int) by omega), hbit, hor, c49, asB_bool, kbld32, c50, hduo, keqv4, hadd]
          have hself : ∀ q : Bool, (q == q) = true := by decide
          simp only [hself, Bool.not_true, ifB_false]
          have hlt1 : AM.lt 1 ((bothN g (blocksP g) a b : Nat) : Int) = false := by simp; omega
          have hnone : bothN g (blocksP g) a b = 0 → decide ((b, a) ∈ bridgesP g) = false := by
            intro h0
            rw [decide_eq_false_iff_not, ← duo_bridge hg hb ha]
            intro hm
            have : 0 < bothN g (blocksP g) a b := List.countP_pos_iff.2 ⟨_, hm, by rw [duo_bit.2 (.inl rfl), duo_bit.2 (.inr rfl)]; rfl⟩
            omega
          cases hadj : adj g a b with
          | true =>
            rw [both_edge hg hadj]
            simp
          | false =>
            rw [hlt1]
            by_cases h1 : bothN g (blocksP g) a b = 1
            · rw [h1]; simp
            · have h0 : bothN g (blocksP g) a b = 0 := by omega
              rw [hnone h0, h0]
              simp)
      rcases hlp with ⟨i, y, hx, hf, _, hl⟩ | ⟨_, hl⟩
      · cases hf
      · exact hl
    have loop1 : lpGo (f11_l1 rn 20000 v v3 v11 g.length) 20000 [.bool false, iv 0] h6 = some (.exit 0, [.bool false, iv g.length], h6) := by
      have hlp := lp_all (F := f11_l1 rn 20000 v v3 v11 g.length) (k := 20000) (l := List.range g.length) (h := h6) (fun i => [.bool false, iv i])
        (fun _ _ => true) (fun i => []) 0 [.bool false, iv g.length] (ws := [.bool false, iv 0]) rfl (by simp; omega)
        (by rw [List.length_range]; simp [f11_l1])
        (by
          intro i a hx
          obtain ⟨ha, rfl⟩ := range_get hx
          have hlq := fun (K : Ex → List Value → H → Option (Ex × List Value × H)) => lp_eq (K := K) (loop2 a ha)
          have hadd : add .i64 (a : Int) 1 = (a : Int) + 1 := add64 (by omega) (by omega)
          rw [if_pos rfl]
          unfold f11_l1
          simp only [gv, List.getD_cons_succ, List.getD_cons_zero, asI_int, lt_t (show (a : Int) < (g.length : Int) by omega), ifB_true]
          refine (hlq _).trans ?_
          simp only [onE_exit, if_true, gv, List.getD_cons_zero, asI_int, hadd]
          rfl)
      rcases hlp with ⟨i, y, hx, hf, _, hl⟩ | ⟨_, hl⟩
      · cases hf
      · exact hl
    -- two blocks
    have loop4 : lpGo (f11_l4 rn 20000 v3 (cutsP g (allN g) : Nat) (blocksP g).length) 20000 [.bool false, iv 0] h6 = some (.exit 6, [.bool false, iv (blocksP g).length], h6) := by
      have hlp := lp_all (F := f11_l4 rn 20000 v3 (cutsP g (allN g) : Nat) (blocksP g).length) (k := 20000) (l := blocksP g) (h := h6) (fun i => [.bool false, iv i])
        (fun _ _ => true) (fun i => []) 6 [.bool false, iv (blocksP g).length] (ws := [.bool false, iv 0]) rfl (by omega)
        (by simp [f11_l4])
        (by
          intro i S hx
          have hi := (List.getElem?_eq_some_iff.1 hx).1
          have hSm := List.mem_of_getElem? hx
          have hS := blocks_lt hSm
          have e1 : ∀ (K : Value → Option (Ex × List Value × H)), (six v3 (i : Int) 1 fun b o => (h6.cell b o).bind K) = K (iv S) := fun K => hb6.c0 (by omega) (x := [iv S]) (by simp [hx]) rfl K
          obtain ⟨tv, htv, et⟩ := hb6.take (i := (i : Int)) under22 sz3 (by omega) (by simp; omega)
          rw [← List.map_take, Int.toNat_natCast] at htv
          have hnt : ∀ {T : Type} (K : Int → Option T), len tv K = K (((blocksP g).take i).length : Int) := fun K => by rw [htv.len]; simp
          have htl : ((blocksP g).take i).length ≤ 1023 := by rw [List.length_take]; omega
          have hadd : add .i64 (i : Int) 1 = (i : Int) + 1 := add64 (by omega) (by omega)
          have hlp5 := lp_all (F := f11_l5 rn 20000 (cutsP g (allN g) : Nat) S tv ((blocksP g).take i).length) (k := 20000) (l := (blocksP g).take i) (h := h6) (fun i => [.bool false, iv i])
            (fun _ _ => true) (fun i => []) 8 [.bool false, iv ((blocksP g).take i).length] (ws := [.bool false, iv 0]) rfl (by omega)
            (by simp [f11_l5])
            (by
              intro j T hy
              have hj := (List.getElem?_eq_some_iff.1 hy).1
              have hji : j < i := by rw [List.length_take] at hj; omega
              have hTx : (blocksP g)[j]? = some T := by rwa [List.getElem?_take_of_lt hji] at hy
              have hTm := List.mem_of_getElem? hTx
              have hT := blocks_lt hTm
              have e2 : ∀ (K : Value → Option (Ex × List Value × H)), (six tv (j : Int) 1 fun b o => (h6.cell b o).bind K) = K (iv T) := fun K => htv.c0 (by omega) (x := [iv T]) (by rw [Int.toNat_natCast, List.getElem?_map, hy]; rfl) rfl K
              have hST : S ≠ T := by
                rintro rfl
                obtain ⟨h1, h2⟩ := List.getElem?_eq_some_iff.1 hx
                obtain ⟨h3, h4⟩ := List.getElem?_eq_some_iff.1 hTx
                have := (List.pairwise_iff_getElem.1 (blocks_nodup g)) j i h3 h1 hji
                exact this (h4.trans h2.symm)
              have hand : AM.and .i64 (S : Int) (T : Int) = ((S &&& T : Nat) : Int) := and_nat (by omega) (by omega)
              have hadd : add .i64 (j : Int) 1 = (j : Int) + 1 := add64 (by omega) (by omega)
              rw [if_pos rfl]
              unfold f11_l5
              simp only [gv, List.getD_cons_succ, List.getD_cons_zero, asI_int, lt_t (show (j : Int) < (((blocksP g).take i).length : Int) by omega), ifB_true, asK_int, d3, e2, hand, hadd]
              by_cases h0 : S &&& T = 0
              · rw [h0]; simp
              · have hlt : S &&& T < 1024 := Nat.and_lt_two_pow (n := 10) _ (by omega)
                have hpos : 0 < S &&& T := Nat.pos_of_ne_zero h0
                have hlow := low_bit hpos hlt
                rw [Nat.testBit_and, Bool.and_eq_true] at hlow
                have hpw : S &&& T = 2 ^ low (S &&& T) := by
                  refine Nat.eq_of_testBit_eq fun u => ?_
                  rw [Bool.eq_iff_iff, Nat.testBit_and, Bool.and_eq_true, Nat.testBit_two_pow, decide_eq_true_iff]
                  refine ⟨fun hu => Classical.byContradiction fun hc => hST (blocks_meet hg hSm hTm hc hlow.1 hlow.2 hu.1 hu.2), fun e => e ▸ hlow⟩
                have hcut := meet_cut hg hSm hTm hST hlow.1 hlow.2
                have hnext := (elts_next hpos hlt)
                have hz : (S &&& T) &&& ((S &&& T) - 1) = 0 := by
                  have h1 := pop_two (low (S &&& T)) (bit_lt (n := 10) hlt (low_bit hpos hlt))
                  rw [← hpw, ← elts_len, hnext.1] at h1
                  have h2 : elts ((S &&& T) &&& ((S &&& T) - 1)) = [] := by simpa using h1
                  have h3 := elts_len ((S &&& T) &&& ((S &&& T) - 1))
                  rw [h2] at h3
                  exact pop_zero' (by omega) h3.symm
                have hsub : sub .i64 ((S &&& T : Nat) : Int) 1 = (((S &&& T) - 1 : Nat) : Int) := by rw [sub64 (by omega) (by omega)]; omega
                have hand2 : AM.and .i64 ((S &&& T : Nat) : Int) (((S &&& T) - 1 : Nat) : Int) = (((S &&& T) &&& ((S &&& T) - 1) : Nat) : Int) := and_nat (by omega) (by omega)
                have hwo : without (S &&& T) (cutsP g (allN g)) = 0 := by
                  refine subS_iff.2 fun u hu => ?_
                  rw [hpw, Nat.testBit_two_pow, decide_eq_true_iff] at hu
                  rw [← hu]; exact hcut
                have hano : AM.andNot .i64 ((S &&& T : Nat) : Int) ((cutsP g (allN g) : Nat) : Int) = ((without (S &&& T) (cutsP g (allN g)) : Nat) : Int) := andNot_nat (by omega) (by omega)
                have hne : AM.eq ((S &&& T : Nat) : Int) 0 = false := by simp; omega
                rw [hsub, hand2, hano, hz, hwo, hne]
                simp)
          have hl5 : lpGo (f11_l5 rn 20000 (cutsP g (allN g) : Nat) S tv ((blocksP g).take i).length) 20000 [.bool false, iv 0] h6 = some (.exit 8, [.bool false, iv ((blocksP g).take i).length], h6) := by
            rcases hlp5 with ⟨i, y, hx, hf, _, hl⟩ | ⟨_, hl⟩
            · cases hf
            · exact hl
          have hlq := fun (K : Ex → List Value → H → Option (Ex × List Value × H)) => lp_eq (K := K) hl5
          rw [if_pos rfl]
          unfold f11_l4
          simp only [gv, List.getD_cons_succ, List.getD_cons_zero, asI_int, lt_t (show (i : Int) < ((blocksP g).length : Int) by omega), ifB_true, asK_int, d3, e1, et, hnt]
          refine (hlq _).trans ?_
          simp only [onE_exit, if_true, gv, List.getD_cons_zero, asI_int, hadd]
          rfl)
      rcases hlp with ⟨i, y, hx, hf, _, hl⟩ | ⟨_, hl⟩
      · cases hf
      · exact hl
    refine ⟨_, t11 (k := 20000) (v := .bool true) (h1 := h6) ?_⟩
    unfold f11
    simp only [c18, c44, c18b, c24, c18c, c23, ext20, ext21, asI_int, asB_bool, c48]
    rw [show (!AM.eq (0 : Int) 0) = false from rfl, ifB_false, ifB_false, ifB_false, show (!true) = false from rfl, ifB_false, hn]
    refine (lp_eq loop1).trans ?_
    simp only [onE_exit, if_true, hnb, gv, List.getD_cons_zero]
    refine (lp_eq loop4).trans ?_
    simp [c20]
  · have hv' : validG l = false := by simpa using hval
    have hv14 : validG (l.take 14) = false := by rw [validG_take]; exact hv'
    have c44 := fun (K : Value → H → Option (Value × H)) => calls_eq (K := K) (xs := [v1]) (s44_bad hv14 hs1)
    obtain ⟨v5, h3, e18b, x3, hs5⟩ := s18 (hs.ext x1.toExt)
    have c18b := fun (K : Value → H → Option (Value × H)) => calls_eq (K := K) (xs := [v]) e18b
    have c24 := fun (K : Value → H → Option (Value × H)) => calls_eq (K := K) (xs := [v5]) (s24_bad hv14 hs5)
    obtain ⟨v9, h5, e18c, x5, hs9⟩ := s18 (hs.ext (x1.tr x3).toExt)
    have c18c := fun (K : Value → H → Option (Value × H)) => calls_eq (K := K) (xs := [v]) e18c
    have c23 := fun (K : Value → H → Option (Value × H)) => calls_eq (K := K) (xs := [v9]) (s23_bad hv14 hs9)
    refine ⟨_, t11 (k := 0) (v := .bool true) (h1 := h5) ?_⟩
    simp [f11, c18, c44, c18b, c24, c18c, c23, c20]

end Go.AM
