/- Pairs that part a graph. -/
import Derived.Test.YtakhklelgcfgjaaDoorF3
import Derived.Test.YtakhklelgcfgjaaDoorEc
namespace Go.AM
open Go.Proofs

variable {R : Type}

attribute [local simp] nx_eq nx_new nx_set blk_new blk_set asI_int asK_int asB_bool asP_ptr al_eq bx_eq len_slice onE_exit onE_ret onR_ret Value.cells d3 d22 d23 d32 cell_new cell_set rd_new rd_set off eq lt le ifB gv out ext20 ext21

/-- Pairs of numbers, as they stand in a row. -/
abbrev cellsP (l : List (Nat × Nat)) : List (List Value) := l.map fun (q : Nat × Nat) => [iv (q.1 : Int), iv (q.2 : Int)]

theorem app24 : okApp Tryd.prog 24 32 2 = true := by kernel_rfl
theorem kbld32 (a b : Int) (K : Value → Option R) : bld Tryd.prog 32 [(0, .int .i64 a), (1, .int .i64 b)] K = K (.agg #[.int .i64 a, .int .i64 b]) := bld_some (by kernel_rfl)
theorem bls24 (a b : Int) (h : H) : buildSlice Tryd.prog 24 1 [(0, .agg #[.int .i64 a, .int .i64 b])] h = some (.slice (some ⟨h.nx, 0, none⟩) 1 1, h.new (.row [iv a, iv b] 32 true)) := by kernel_rfl
theorem keqv32 (a b c d : Int) (K : Bool → Option R) : eqv Tryd.prog 32 (.agg #[.int .i64 a, .int .i64 b]) (.agg #[.int .i64 c, .int .i64 d]) K = K (a == c && b == d) := by
  have : binOp Tryd.prog .eql 32 (.agg #[iv a, iv b]) (.agg #[iv c, iv d]) = (if (a == c) = true then (if (b == d) = true then some true else some false) else some false).map Value.bool := by kernel_rfl
  unfold eqv
  rw [this]
  cases h1 : (a == c) <;> cases h2 : (b == d) <;> simp

/-- Two slices of pairs: are they the same? -/
theorem s21 {v0 v1 : Value} {a b : List (Nat × Nat)} {h : H} (ha : SlR h 32 2 v0 (cellsP a)) (hb : SlR h 32 2 v1 (cellsP b)) : rn 21 #[v0, v1] h = some (.bool (decide (a = b)), h) := by
  have hla := ha.lt62
  rw [List.length_map] at hla
  have hn0 : ∀ {T : Type} (K : Int → Option T), len v0 K = K (a.length : Int) := fun K => by rw [ha.len]; simp
  have hn1 : ∀ {T : Type} (K : Int → Option T), len v1 K = K (b.length : Int) := fun K => by rw [hb.len]; simp
  by_cases hlen : a.length = b.length
  · have hlp := lp_all (F := f21_l1 rn (a.length + 1) v0 v1 a.length) (k := a.length + 1) (l := a) (h := h) (fun i => [.bool false, iv i])
      (fun i x => decide (b[i]? = some x)) (fun i => [.bool false, iv i]) 0 [.bool false, iv a.length] (ws := [.bool false, iv 0]) rfl (by omega)
      (by simp [f21_l1])
      (by
        intro i x hx
        have hi := (List.getElem?_eq_some_iff.1 hx).1
        have hy := List.getElem?_eq_getElem (show i < b.length by omega)
        have hadd : add .i64 (i : Int) 1 = (i : Int) + 1 := add64 (by omega) (by omega)
        generalize b[i] = y at hy
        unfold f21_l1
        rw [show AM.gv [.bool false, iv i] 1 = iv i from rfl, show AM.gv [.bool false, iv i] 0 = .bool false from rfl, asI_int, lt_t (by omega), ifB_true, asK_int, ha.ldA ag32 sz32 (by omega) (x := [iv (x.1 : Nat), iv (x.2 : Nat)]) (by simp [hx]), asK_int,
          hb.ldA ag32 sz32 (by omega) (x := [iv (y.1 : Nat), iv (y.2 : Nat)]) (by simp [hy])]
        show eqv Tryd.prog 32 (.agg #[.int .i64 (x.1 : Nat), .int .i64 (x.2 : Nat)]) (.agg #[.int .i64 (y.1 : Nat), .int .i64 (y.2 : Nat)]) _ = _
        rw [keqv32, hy]
        by_cases hxy : y = x
        · subst hxy; simp [hadd]
        · have : ((x.1 : Int) == (y.1 : Int) && (x.2 : Int) == (y.2 : Int)) = false := by
            rw [Bool.eq_false_iff]
            intro hc
            simp only [Bool.and_eq_true, beq_iff_eq] at hc
            exact hxy (Prod.ext (by omega) (by omega))
          rw [this]; simp [hxy])
    rcases hlp with ⟨i, x, hx, hf, _, hl⟩ | ⟨hall, hl⟩
    · have hne : a ≠ b := fun e => by subst e; rw [hx] at hf; simp at hf
      rw [decide_eq_false hne]
      refine p21 (k := a.length + 1) (h1 := h) ?_ rfl (.refl _)
      simp only [f21, hn0, hn1]
      rw [show AM.eq (a.length : Int) (b.length : Int) = true by simp [hlen], show (!true) = false from rfl, ifB_false]
      refine (lp_eq hl).trans ?_
      simp
    · have he : a = b := List.ext_getElem? fun i => by
        by_cases hi : i < a.length
        · have h1 := List.getElem?_eq_getElem hi
          have := hall i _ h1
          rw [h1]; exact (of_decide_eq_true this).symm
        · rw [List.getElem?_eq_none (by omega), List.getElem?_eq_none (by omega)]
      rw [decide_eq_true he]
      refine p21 (k := a.length + 1) (h1 := h) ?_ rfl (.refl _)
      simp only [f21, hn0, hn1]
      rw [show AM.eq (a.length : Int) (b.length : Int) = true by simp [hlen], show (!true) = false from rfl, ifB_false]
      refine (lp_eq hl).trans ?_
      simp
  · have hne : a ≠ b := fun e => hlen (by rw [e])
    rw [decide_eq_false hne]
    refine p21 (k := 0) (h1 := h) ?_ rfl (.refl _)
    simp [f21, hn0, hn1]
    omega

/-- A set without two numbers. -/
def del2 (S a b : Nat) : Nat := without (without S (2 ^ a)) (2 ^ b)

theorem del2_lt {S a b n : Nat} (h : S < 2 ^ n) : del2 S a b < 2 ^ n := without_le _ _ (without_le _ _ h)

/-- Does a pair part a graph? -/
noncomputable def partsP (g : List Nat) (a b : Nat) : Bool := connS g (allN g) && !connS g (del2 (allN g) a b)
noncomputable def pairIn (g : List Nat) (a j : Nat) (acc : List (Nat × Nat)) : List (Nat × Nat) := if partsP g a (a + 1 + j) = true then acc ++ [(a, a + 1 + j)] else acc
noncomputable def pairRow (g : List Nat) (a : Nat) (acc : List (Nat × Nat)) : List (Nat × Nat) := foldI (fun _ j acc => pairIn g a j acc) (List.range (g.length - 1 - a)) 0 acc

/-- All pairs that part a graph. -/
noncomputable def pairsP (g : List Nat) : List (Nat × Nat) := foldI (fun _ a acc => pairRow g a acc) (List.range g.length) 0 []

theorem foldI_len {α β : Type} {f : Nat → α → List β → List β} (hf : ∀ i x s, (f i x s).length ≤ s.length + 1) : ∀ (l : List α) (i : Nat) (s : List β), (foldI f l i s).length ≤ s.length + l.length := by
  intro l
  induction l with
  | nil => intro i s; simp [foldI]
  | cons x l ih =>
    intro i s
    have := ih (i + 1) (f i x s)
    have := hf i x s
    simp only [foldI, List.length_cons]
    omega

theorem pairIn_len (g : List Nat) (a j : Nat) (acc : List (Nat × Nat)) : (pairIn g a j acc).length ≤ acc.length + 1 := by
  unfold pairIn
  split <;> simp

theorem del_calc {g : List Nat} (hg : GrB g) {a b : Nat} (ha : a < g.length) (hb : b < g.length) :
    AM.andNot .i64 (AM.andNot .i64 (allN g : Int) (AM.shl .i64 1 (a : Int))) (AM.shl .i64 1 (b : Int)) = ((del2 (allN g) a b : Nat) : Int) := by
  have hlen := hg.len
  have h1 := allN_lt g
  have h2 := hg.pow
  have ha' : 2 ^ a < 2 ^ 10 := Nat.pow_lt_pow_right (by omega) (by omega)
  have hb' : 2 ^ b < 2 ^ 10 := Nat.pow_lt_pow_right (by omega) (by omega)
  have h3 : without (allN g) (2 ^ a) < 2 ^ 10 := without_le _ _ (by omega)
  rw [shl1_nat (by omega), shl1_nat (by omega), andNot_nat (by omega) (by omega), andNot_nat (by omega) (by omega)]
  rfl

/-- The program's loop over the second nodes. -/
theorem pair_loop {tv sv : Value} {g : List Nat} {h0 h : H} {a : Nat} {acc : List (Nat × Nat)} (hg : GrB g) (ha : a < g.length) (x0 : Ext h0 h) (hs : SlR h0 3 1 tv (cellsN g)) (hap : AqR h0.nx h 32 2 sv (cellsP acc)) (hacc : acc.length ≤ 200) (ws0 : List Value) (hw : AM.gv ws0 1 = iv a) :
    ∃ sv' w' h', lpGo (f17_l2 rn 200 tv ws0) 200 [sv, iv ((a : Int) + 1)] h = some (.exit 2, [sv', w'], h') ∧ Ext h0 h' ∧ AqR h0.nx h' 32 2 sv' (cellsP (pairRow g a acc)) := by
  have hlen := hg.len
  have hn : ∀ {T : Type} (K : Int → Option T), len tv K = K (g.length : Int) := fun K => by rw [hs.len]; simp
  have hwk : ∀ {T : Type} (K : Int → Option T), asK (AM.gv ws0 1) K = K a := fun K => by rw [hw]; rfl
  obtain ⟨ws', h', hl, xg, hll, sv', hap', rfl⟩ := lp_for (F := f17_l2 rn 200 tv ws0) (k := 200) (l := List.range (g.length - 1 - a)) (fun _ j acc => pairIn g a j acc)
    (fun i acc' ws h' => Ext h0 h' ∧ acc'.length ≤ acc.length + i ∧ ∃ sv, AqR h0.nx h' 32 2 sv (cellsP acc') ∧ ws = [sv, iv ((a + 1 + i : Nat) : Int)]) 2 (ws := [sv, iv ((a : Int) + 1)]) (h := h) (s0 := acc)
    ⟨x0, by omega, sv, hap, by simp⟩ (by simp; omega)
    (by
      rintro acc' ws h' ⟨_, _, sv, _, rfl⟩
      rw [List.length_range, show a + 1 + (g.length - 1 - a) = g.length by omega]
      simp [f17_l2, hn])
    (by
      rintro i x acc' ws h1 hx ⟨x1, hal, sv, hap1, rfl⟩
      obtain ⟨hi, rfl⟩ := range_get hx
      have hb : a + 1 + x < g.length := by omega
      have hs1 := hs.ext x1
      have hall := allN_lt g
      have c65 := fun (K : Value → H → Option (Ex × List Value × H)) => calls_eq (K := K) (xs := [tv]) (s65 hg hs1)
      have c64 := fun (K : Value → H → Option (Ex × List Value × H)) => calls_eq (K := K) (xs := [tv, iv (allN g : Nat)]) (s64 hg hs1 hall)
      have c64b := fun (K : Value → H → Option (Ex × List Value × H)) => calls_eq (K := K) (xs := [tv, iv (del2 (allN g) a (a + 1 + x) : Nat)]) (s64 hg hs1 (del2_lt hall))
      have hdel := del_calc hg ha hb
      have hadd : add .i64 ((a + 1 + x : Nat) : Int) 1 = ((a + 1 + (x + 1) : Nat) : Int) := by rw [add64 (by omega) (by omega)]; omega
      have hlt : AM.lt ((a + 1 + x : Nat) : Int) (g.length : Int) = true := by rw [AM.lt, decide_eq_true_iff]; omega
      have start : f17_l2 rn 200 tv ws0 [sv, iv ((a + 1 + x : Nat) : Int)] h1 = if partsP g a (a + 1 + x) = true then
          (bld Tryd.prog 32 [(0, iv a), (1, iv ((a + 1 + x : Nat) : Int))] fun v8 => bls Tryd.prog h1 24 1 [(0, v8)] fun v9 h8 => app Tryd.prog h8 24 24 sv v9 fun v10 h9 => AM.out .normal [v10, iv ((a + 1 + (x + 1) : Nat) : Int)] h9) else
          some (.normal, [sv, iv ((a + 1 + (x + 1) : Nat) : Int)], h1) := by
        unfold f17_l2
        rw [show AM.gv [sv, iv ((a + 1 + x : Nat) : Int)] 1 = iv ((a + 1 + x : Nat) : Int) from rfl, show AM.gv [sv, iv ((a + 1 + x : Nat) : Int)] 0 = sv from rfl]
        simp only [hn, asI_int, hlt, ifB_true, c65, c64, asB_bool, hwk, asK_int, nn_ge (show (0 : Int) ≤ (a : Int) by omega), nn_ge (show (0 : Int) ≤ ((a + 1 + x : Nat) : Int) by omega), hdel, c64b, hadd, hw]
        unfold partsP
        cases h5 : connS g (allN g) with
        | false => simp
        | true =>
          cases h6 : connS g (del2 (allN g) a (a + 1 + x)) with
          | true => simp
          | false => simp
      rw [start]
      by_cases hp : partsP g a (a + 1 + x) = true
      · rw [if_pos hp, kbld32]
        obtain ⟨sv', h2, e2, a2, n2, k2, b2, hb2, hb2'⟩ := hap1.push app24 app24 (bls24 (a : Int) ((a + 1 + x : Nat) : Int)) rfl rfl (by rw [List.length_map]; omega) x1.nx
        rw [e2]
        have hpi : pairIn g a x acc' = acc' ++ [(a, a + 1 + x)] := by unfold pairIn; rw [if_pos hp]
        refine ⟨_, _, rfl, ⟨by have := x1.nx; omega, fun b hb => ?_⟩, ?_, sv', ?_, rfl⟩
        · rw [k2 b (by have := x1.nx; omega) (fun e => by have := (hap1.blkOf e).1; omega)]
          exact x1.blk b hb
        · rw [hpi]; simp; omega
        · rw [hpi]
          have : cellsP (acc' ++ [(a, a + 1 + x)]) = cellsP acc' ++ [[iv (a : Int), iv ((a + 1 + x : Nat) : Int)]] := by simp
          rw [this]; exact a2
      · rw [if_neg hp]
        have hpi : pairIn g a x acc' = acc' := by unfold pairIn; rw [if_neg hp]
        exact ⟨_, _, rfl, x1, by rw [hpi]; omega, sv, by rw [hpi]; exact hap1, rfl⟩)
  exact ⟨sv', _, h', hl, xg, hap'⟩

theorem row_len {g : List Nat} {a : Nat} {acc : List (Nat × Nat)} : (pairRow g a acc).length ≤ acc.length + g.length := by
  have := foldI_len (f := fun (_ : Nat) (j : Nat) acc => pairIn g a j acc) (fun i x s => pairIn_len g a x s) (List.range (g.length - 1 - a)) 0 acc
  unfold pairRow
  rw [List.length_range] at this
  omega

theorem s17 {v : Value} {g : List Nat} {h : H} (hg : GrN g) (hval : validG (g.map Int.ofNat) = true) (hs : SlR h 3 1 v (cellsN g)) :
    ∃ v' h', rn 17 #[v] h = some (.tuple #[v', iv 0], h') ∧ Exw h h' ∧ SlR h' 32 2 v' (cellsP (pairsP g)) := by
  have hlen := hg.len
  have c63 := fun (K : Value → H → Option (Value × H)) => calls_eq (K := K) (xs := [v]) (s63 (l := g.map Int.ofNat) (h := h) (by rw [cellsN_eq]; exact hs))
  rw [if_pos hval] at c63
  have hn : ∀ {T : Type} (K : Int → Option T), len v K = K (g.length : Int) := fun K => by rw [hs.len]; simp
  obtain ⟨ws', h', hl, xg, hll, sv', hap', rfl⟩ := lp_for (F := f17_l1 rn 200 v g.length) (k := 200) (l := List.range g.length) (fun _ a acc => pairRow g a acc)
    (fun i acc' ws h' => Ext h h' ∧ acc'.length ≤ 10 * i ∧ ∃ sv, AqR h.nx h' 32 2 sv (cellsP acc') ∧ ws = [sv, iv i]) 0 (ws := [.slice none 0 0, iv 0]) (h := h) (s0 := [])
    ⟨.refl _, by simp, _, .nil, rfl⟩ (by simp; omega)
    (by
      rintro acc' ws h' ⟨_, _, sv, _, rfl⟩
      rw [List.length_range]
      simp [f17_l1])
    (by
      rintro i x acc' ws h1 hx ⟨x1, hal, sv, hap1, rfl⟩
      obtain ⟨hi, rfl⟩ := range_get hx
      have hadd : add .i64 (x : Int) 1 = (x : Int) + 1 := add64 (by omega) (by omega)
      obtain ⟨sv', w', h2, hl2, x2, hap2⟩ := pair_loop hg.toGrB hi x1 hs hap1 (by omega) [sv, iv x] rfl
      have hrl := row_len (g := g) (a := x) (acc := acc')
      refine ⟨[sv', iv ((x : Int) + 1)], h2, ?_, x2, by omega, sv', hap2, rfl⟩
      have hlq := fun (K : Ex → List Value → H → Option (Ex × List Value × H)) => lp_eq (K := K) hl2
      simp [f17_l1, hi, hadd, hlq])
  obtain ⟨h2, e2, m2, w2⟩ := x17 (k := 200) (v0 := v) (h := h) (h1 := h') (v := .tuple #[sv', iv 0]) (by
    unfold f17
    rw [c63, ext20, ext21, asB_bool, show (!true) = false from rfl, ifB_false, hn]
    refine (lp_eq hl).trans ?_
    rfl) (by obtain ⟨x, y, z, hz⟩ := hap'.isSl; rw [hz]; rfl)
  exact ⟨sv', h2, e2, w2 xg, hap'.slR.ext m2.ext⟩

theorem all_ne {g : List Nat} (hg : GrN g) : allN g ≠ 0 := by
  have h := hg.pos
  have : 2 ^ 1 ≤ 2 ^ g.length := Nat.pow_le_pow_right (by omega) h
  unfold allN
  omega

/-- The document's loop over the second nodes. -/
theorem pair_loopD {tv sv : Value} {g : List Nat} {h0 h : H} {a : Nat} {acc : List (Nat × Nat)} (hg : GrB g) (hc : connS g (allN g) = true) (ha : a < g.length) (x0 : Ext h0 h) (hs : SlR h0 3 1 tv (cellsN g)) (hap : AqR h0.nx h 32 2 sv (cellsP acc)) (hacc : acc.length ≤ 200) (ws0 : List Value) (hw : AM.gv ws0 1 = iv a) :
    ∃ sv' w' h', lpGo (f22_l2 rn 200 tv ws0) 200 [sv, iv ((a : Int) + 1)] h = some (.exit 2, [sv', w'], h') ∧ Ext h0 h' ∧ AqR h0.nx h' 32 2 sv' (cellsP (pairRow g a acc)) := by
  have hlen := hg.len
  have hn : ∀ {T : Type} (K : Int → Option T), len tv K = K (g.length : Int) := fun K => by rw [hs.len]; simp
  have hwk : ∀ {T : Type} (K : Int → Option T), asK (AM.gv ws0 1) K = K a := fun K => by rw [hw]; rfl
  obtain ⟨ws', h', hl, xg, hll, sv', hap', rfl⟩ := lp_for (F := f22_l2 rn 200 tv ws0) (k := 200) (l := List.range (g.length - 1 - a)) (fun _ j acc => pairIn g a j acc)
    (fun i acc' ws h' => Ext h0 h' ∧ acc'.length ≤ acc.length + i ∧ ∃ sv, AqR h0.nx h' 32 2 sv (cellsP acc') ∧ ws = [sv, iv ((a + 1 + i : Nat) : Int)]) 2 (ws := [sv, iv ((a : Int) + 1)]) (h := h) (s0 := acc)
    ⟨x0, by omega, sv, hap, by simp⟩ (by simp; omega)
    (by
      rintro acc' ws h' ⟨_, _, sv, _, rfl⟩
      rw [List.length_range, show a + 1 + (g.length - 1 - a) = g.length by omega]
      simp [f22_l2, hn])
    (by
      rintro i x acc' ws h1 hx ⟨x1, hal, sv, hap1, rfl⟩
      obtain ⟨hi, rfl⟩ := range_get hx
      have hb : a + 1 + x < g.length := by omega
      have hs1 := hs.ext x1
      have hall := allN_lt g
      have c68 := fun (K : Value → H → Option (Ex × List Value × H)) => calls_eq (K := K) (xs := [tv]) (s68 hg hs1)
      have c67 := fun (K : Value → H → Option (Ex × List Value × H)) => calls_eq (K := K) (xs := [tv, iv (del2 (allN g) a (a + 1 + x) : Nat)]) (s67 hg hs1 (del2_lt hall))
      have hdel := del_calc hg ha hb
      have hadd : add .i64 ((a + 1 + x : Nat) : Int) 1 = ((a + 1 + (x + 1) : Nat) : Int) := by rw [add64 (by omega) (by omega)]; omega
      have hlt : AM.lt ((a + 1 + x : Nat) : Int) (g.length : Int) = true := by rw [AM.lt, decide_eq_true_iff]; omega
      have start : f22_l2 rn 200 tv ws0 [sv, iv ((a + 1 + x : Nat) : Int)] h1 = if partsP g a (a + 1 + x) = true then
          (bld Tryd.prog 32 [(0, iv a), (1, iv ((a + 1 + x : Nat) : Int))] fun v8 => bls Tryd.prog h1 24 1 [(0, v8)] fun v9 h8 => app Tryd.prog h8 24 24 sv v9 fun v10 h9 => AM.out .normal [v10, iv ((a + 1 + (x + 1) : Nat) : Int)] h9) else
          some (.normal, [sv, iv ((a + 1 + (x + 1) : Nat) : Int)], h1) := by
        unfold f22_l2
        rw [show AM.gv [sv, iv ((a + 1 + x : Nat) : Int)] 1 = iv ((a + 1 + x : Nat) : Int) from rfl, show AM.gv [sv, iv ((a + 1 + x : Nat) : Int)] 0 = sv from rfl]
        simp only [hn, asI_int, hlt, ifB_true, c68, asB_bool, hwk, asK_int, nn_ge (show (0 : Int) ≤ (a : Int) by omega), nn_ge (show (0 : Int) ≤ ((a + 1 + x : Nat) : Int) by omega), hdel, hadd, hw]
        unfold partsP
        rw [hc]
        by_cases h0 : del2 (allN g) a (a + 1 + x) = 0
        · rw [h0]
          have : connS g 0 = true := by simp [connS]
          simp [this]
        · have e0 : AM.eq ((del2 (allN g) a (a + 1 + x) : Nat) : Int) 0 = false := by simp; omega
          rw [e0]
          simp only [Bool.not_false, ifB_true, c67, asB_bool, decide_eq_true (show del2 (allN g) a (a + 1 + x) ≠ 0 from h0)]
          cases h6 : connS g (del2 (allN g) a (a + 1 + x)) with
          | true => simp
          | false => simp
      rw [start]
      by_cases hp : partsP g a (a + 1 + x) = true
      · rw [if_pos hp, kbld32]
        obtain ⟨sv', h2, e2, a2, n2, k2, b2, hb2, hb2'⟩ := hap1.push app24 app24 (bls24 (a : Int) ((a + 1 + x : Nat) : Int)) rfl rfl (by rw [List.length_map]; omega) x1.nx
        rw [e2]
        have hpi : pairIn g a x acc' = acc' ++ [(a, a + 1 + x)] := by unfold pairIn; rw [if_pos hp]
        refine ⟨_, _, rfl, ⟨by have := x1.nx; omega, fun b hb => ?_⟩, ?_, sv', ?_, rfl⟩
        · rw [k2 b (by have := x1.nx; omega) (fun e => by have := (hap1.blkOf e).1; omega)]
          exact x1.blk b hb
        · rw [hpi]; simp; omega
        · rw [hpi]
          have : cellsP (acc' ++ [(a, a + 1 + x)]) = cellsP acc' ++ [[iv (a : Int), iv ((a + 1 + x : Nat) : Int)]] := by simp
          rw [this]; exact a2
      · rw [if_neg hp]
        have hpi : pairIn g a x acc' = acc' := by unfold pairIn; rw [if_neg hp]
        exact ⟨_, _, rfl, x1, by rw [hpi]; omega, sv, by rw [hpi]; exact hap1, rfl⟩)
  exact ⟨sv', _, h', hl, xg, hap'⟩

theorem foldI_id {α β : Type} {f : Nat → α → β → β} (hf : ∀ i x s, f i x s = s) : ∀ (l : List α) (i : Nat) (s : β), foldI f l i s = s := by
  intro l
  induction l with
  | nil => intro i s; rfl
  | cons x l ih => intro i s; simp only [foldI]; rw [hf, ih]

theorem pairs_none {g : List Nat} (hc : connS g (allN g) = false) : pairsP g = [] := by
  unfold pairsP
  refine foldI_id (fun i a s => ?_) _ _ _
  unfold pairRow
  refine foldI_id (fun i j s => ?_) _ _ _
  unfold pairIn partsP
  rw [hc]; simp

theorem s22 {v : Value} {g : List Nat} {h : H} (hg : GrN g) (hs : SlR h 3 1 v (cellsN g)) :
    ∃ v' h', rn 22 #[v] h = some (v', h') ∧ Exw h h' ∧ SlR h' 32 2 v' (cellsP (pairsP g)) := by
  have hlen := hg.len
  have hall := allN_lt g
  have c68 := fun (K : Value → H → Option (Value × H)) => calls_eq (K := K) (xs := [v]) (s68 hg.toGrB hs)
  have c67 := fun (K : Value → H → Option (Value × H)) => calls_eq (K := K) (xs := [v, iv (allN g : Nat)]) (s67 hg.toGrB hs hall)
  rw [decide_eq_true (all_ne hg), Bool.true_and] at c67
  have hn : ∀ {T : Type} (K : Int → Option T), len v K = K (g.length : Int) := fun K => by rw [hs.len]; simp
  cases hc : connS g (allN g) with
  | false =>
    rw [pairs_none hc]
    refine ⟨.slice none 0 0, h, y22 (k := 0) ?_, .refl _, .nil⟩
    simp [f22, c68, c67, hc]
  | true =>
    obtain ⟨ws', h', hl, xg, hll, sv', hap', rfl⟩ := lp_for (F := f22_l1 rn 200 v g.length) (k := 200) (l := List.range g.length) (fun _ a acc => pairRow g a acc)
      (fun i acc' ws h' => Ext h h' ∧ acc'.length ≤ 10 * i ∧ ∃ sv, AqR h.nx h' 32 2 sv (cellsP acc') ∧ ws = [sv, iv i]) 0 (ws := [.slice none 0 0, iv 0]) (h := h) (s0 := [])
      ⟨.refl _, by simp, _, .nil, rfl⟩ (by simp; omega)
      (by
        rintro acc' ws h' ⟨_, _, sv, _, rfl⟩
        rw [List.length_range]
        simp [f22_l1])
      (by
        rintro i x acc' ws h1 hx ⟨x1, hal, sv, hap1, rfl⟩
        obtain ⟨hi, rfl⟩ := range_get hx
        have hadd : add .i64 (x : Int) 1 = (x : Int) + 1 := add64 (by omega) (by omega)
        obtain ⟨sv', w', h2, hl2, x2, hap2⟩ := pair_loopD hg.toGrB hc hi x1 hs hap1 (by omega) [sv, iv x] rfl
        have hrl := row_len (g := g) (a := x) (acc := acc')
        refine ⟨[sv', iv ((x : Int) + 1)], h2, ?_, x2, by omega, sv', hap2, rfl⟩
        have hlq := fun (K : Ex → List Value → H → Option (Ex × List Value × H)) => lp_eq (K := K) hl2
        simp [f22_l1, hi, hadd, hlq])
    obtain ⟨h2, e2, m2, w2⟩ := x22 (k := 200) (v0 := v) (h := h) (h1 := h') (v := sv') (by
      unfold f22
      rw [c68, asI_int, c67, hc, asB_bool, show (!true) = false from rfl, ifB_false, hn]
      refine (lp_eq hl).trans ?_
      rfl) (by obtain ⟨x, y, z, hz⟩ := hap'.isSl; rw [hz]; rfl)
    exact ⟨sv', h2, e2, w2 xg, hap'.slR.ext m2.ext⟩

theorem s17_bad {v : Value} {l : List Int} {h : H} (hval : validG l = false) (hs : SlR h 3 1 v (cellsI l)) : rn 17 #[v] h = some (.tuple #[.slice none 0 0, iv 2], h) := by
  have c63 := fun (K : Value → H → Option (Value × H)) => calls_eq (K := K) (xs := [v]) (s63 hs)
  rw [hval] at c63
  refine y17 (k := 0) ?_
  simp [f17, c63]

/-- The law. -/
theorem s3 (hawake : ∀ h, rn 20 #[] h = some (.bool true, h)) {h : H} {v : Value} {l : List Int} (hs : SlR h 3 1 v (cellsI l)) : ∃ h', rn 3 #[v] h = some (.bool true, h') := by
  have c20 := fun (g : H) (K : Value → H → Option (Value × H)) => calls_eq (K := K) (xs := []) (hawake g)
  obtain ⟨v1, h1, e18, x1w, hs1⟩ := s18 hs
  have x1 := x1w.toExt
  have c18 := fun (K : Value → H → Option (Value × H)) => calls_eq (K := K) (xs := [v]) e18
  by_cases hval : validG l = true
  · obtain ⟨g, rfl, hg⟩ := valid_nat hval
    have htk : (g.map Int.ofNat).take 14 = g.map Int.ofNat := List.take_of_length_le (by have := hg.len; simp; omega)
    rw [htk, cellsN_eq] at hs1
    obtain ⟨v2, h2, e17, x2w, hs2⟩ := s17 hg hval hs1
    have x2 := x2w.toExt
    have c17 := fun (K : Value → H → Option (Value × H)) => calls_eq (K := K) (xs := [v1]) e17
    have hsv := hs.ext (x1.trans x2)
    have c19 := fun (K : Value → H → Option (Value × H)) => calls_eq (K := K) (xs := [v]) (s19 hsv)
    rw [cellsN_eq] at hsv
    obtain ⟨v3, h3, e22, x3w, hs3⟩ := s22 hg hsv
    have x3 := x3w.toExt
    have c22 := fun (K : Value → H → Option (Value × H)) => calls_eq (K := K) (xs := [v]) e22
    have c21 := fun (K : Value → H → Option (Value × H)) => calls_eq (K := K) (xs := [v2, v3]) (s21 (hs2.ext x3) hs3)
    refine ⟨_, t3 (k := 0) (v := .bool true) (h1 := h3) ?_⟩
    simp [f3, c18, c17, c19, hval, c22, c21, c20]
  · have hv' : validG l = false := by simpa using hval
    have c17 := fun (K : Value → H → Option (Value × H)) => calls_eq (K := K) (xs := [v1]) (s17_bad (by rw [validG_take]; exact hv') hs1)
    have c19 := fun (K : Value → H → Option (Value × H)) => calls_eq (K := K) (xs := [v]) (s19 (hs.ext x1))
    refine ⟨_, t3 (k := 0) (v := .bool true) (h1 := h1) ?_⟩
    simp [f3, c18, c17, c19, hv', c20]

end Go.AM
