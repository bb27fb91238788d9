/- Parts of the proof, put together: what the functions of the program answer, and plain laws. -/
import Derived.Test.YtakhklelgcfgjaaDoorAmMap
import Derived.Test.YtakhklelgcfgjaaDoorAmQue
import Derived.Test.YtakhklelgcfgjaaDoorDbl1

section

/- Pairs that part a graph. -/
namespace Go.AM
open Go.Proofs
variable {R : Type}
attribute [local simp] nx_eq nx_new nx_set blk_new blk_set asI_int asK_int asB_bool asP_ptr al_eq bx_eq len_slice onE_exit onE_ret onR_ret Value.cells d3 d22 d23 d32 cell_new cell_set rd_new rd_set off eq lt le ifB gv out ext20 ext21
/-- Pairs of numbers, as they stand in a row. -/
abbrev cellsP (l : List (Nat × Nat)) : List (List Value) := l.map fun (q : Nat × Nat) => [iv (q.1 : Int), iv (q.2 : Int)]

theorem app24 : okApp Tryd.prog 24 32 2 = true := by kernel_rfl

theorem kbld32 (a b : Int) (K : Value → Option R) : bld Tryd.prog 32 [(0, .int .i64 a), (1, .int .i64 b)] K = K (.agg #[.int .i64 a, .int .i64 b]) := bld_some (by kernel_rfl)

theorem bls24 (a b : Int) (h : H) : buildSlice Tryd.prog 24 1 [(0, .agg #[.int .i64 a, .int .i64 b])] h = some (.slice (some ⟨h.nx, 0, none⟩) 1 1, h.new (.row [iv a, iv b] 32 true)) := by kernel_rfl

theorem keqv32 (a b c d : Int) (K : Bool → Option R) : eqv Tryd.prog 32 (.agg #[.int .i64 a, .int .i64 b]) (.agg #[.int .i64 c, .int .i64 d]) K = K (a == c && b == d) := by
  have : binOp Tryd.prog .eql 32 (.agg #[iv a, iv b]) (.agg #[iv c, iv d]) = (if (a == c) = true then (if (b == d) = true then some true else some false) else some false).map Value.bool := by kernel_rfl
  unfold eqv
  rw [this]
  cases h1 : (a == c) <;> cases h2 : (b == d) <;> simp

/-- Two slices of pairs: are they the same? -/
theorem s21 {v0 v1 : Value} {a b : List (Nat × Nat)} {h : H} (ha : SlR h 32 2 v0 (cellsP a)) (hb : SlR h 32 2 v1 (cellsP b)) : rn 21 #[v0, v1] h = some (.bool (decide (a = b)), h) := by
  have hla := ha.lt62
  rw [List.length_map] at hla
  have hn0 : ∀ {T : Type} (K : Int → Option T), len v0 K = K (a.length : Int) := fun K => by rw [ha.len]; simp
  have hn1 : ∀ {T : Type} (K : Int → Option T), len v1 K = K (b.length : Int) := fun K => by rw [hb.len]; simp
  by_cases hlen : a.length = b.length
  · have hlp := lp_all (F := f21_l1 rn (a.length + 1) v0 v1 a.length) (k := a.length + 1) (l := a) (h := h) (fun i => [.bool false, iv i])
      (fun i x => decide (b[i]? = some x)) (fun i => [.bool false, iv i]) 0 [.bool false, iv a.length] (ws := [.bool false, iv 0]) rfl (by omega)
      (by simp [f21_l1])
      (by
        intro i x hx
        have hi := (List.getElem?_eq_some_iff.1 hx).1
        have hy := List.getElem?_eq_getElem (show i < b.length by omega)
        have hadd : add .i64 (i : Int) 1 = (i : Int) + 1 := add64 (by omega) (by omega)
        generalize b[i] = y at hy
        unfold f21_l1
        rw [show AM.gv [.bool false, iv i] 1 = iv i from rfl, show AM.gv [.bool false, iv i] 0 = .bool false from rfl, asI_int, lt_t (by omega), ifB_true, asK_int, ha.ldA ag32 sz32 (by omega) (x := [iv (x.1 : Nat), iv (x.2 : Nat)]) (by simp [hx]), asK_int,
          hb.ldA ag32 sz32 (by omega) (x := [iv (y.1 : Nat), iv (y.2 : Nat)]) (by simp [hy])]
        show eqv Tryd.prog 32 (.agg #[.int .i64 (x.1 : Nat), .int .i64 (x.2 : Nat)]) (.agg #[.int .i64 (y.1 : Nat), .int .i64 (y.2 : Nat)]) _ = _
        rw [keqv32, hy]
        by_cases hxy : y = x
        · subst hxy; simp [hadd]
        · have : ((x.1 : Int) == (y.1 : Int) && (x.2 : Int) == (y.2 : Int)) = false := by
            rw [Bool.eq_false_iff]
            intro hc
            simp only [Bool.and_eq_true, beq_iff_eq] at hc
            exact hxy (Prod.ext (by omega) (by omega))
          rw [this]; simp [hxy])
    rcases hlp with ⟨i, x, hx, hf, _, hl⟩ | ⟨hall, hl⟩
    · have hne : a ≠ b := fun e => by subst e; rw [hx] at hf; simp at hf
      rw [decide_eq_false hne]
      refine p21 (k := a.length + 1) (h1 := h) ?_ rfl (.refl _)
      simp only [f21, hn0, hn1]
      rw [show AM.eq (a.length : Int) (b.length : Int) = true by simp [hlen], show (!true) = false from rfl, ifB_false]
      refine (lp_eq hl).trans ?_
      simp
    · have he : a = b := List.ext_getElem? fun i => by
        by_cases hi : i < a.length
        · have h1 := List.getElem?_eq_getElem hi
          have := hall i _ h1
          rw [h1]; exact (of_decide_eq_true this).symm
        · rw [List.getElem?_eq_none (by omega), List.getElem?_eq_none (by omega)]
      rw [decide_eq_true he]
      refine p21 (k := a.length + 1) (h1 := h) ?_ rfl (.refl _)
      simp only [f21, hn0, hn1]
      rw [show AM.eq (a.length : Int) (b.length : Int) = true by simp [hlen], show (!true) = false from rfl, ifB_false]
      refine (lp_eq hl).trans ?_
      simp
  · have hne : a ≠ b := fun e => hlen (by rw [e])
    rw [decide_eq_false hne]
    refine p21 (k := 0) (h1 := h) ?_ rfl (.refl _)
    simp [f21, hn0, hn1]
    omega

/-- A set without two numbers. -/
def del2 (S a b : Nat) : Nat := without (without S (2 ^ a)) (2 ^ b)

theorem del2_lt {S a b n : Nat} (h : S < 2 ^ n) : del2 S a b < 2 ^ n := without_le _ _ (without_le _ _ h)

/-- Does a pair part a graph? -/
noncomputable def partsP (g : List Nat) (a b : Nat) : Bool := connS g (allN g) && !connS g (del2 (allN g) a b)

noncomputable def pairIn (g : List Nat) (a j : Nat) (acc : List (Nat × Nat)) : List (Nat × Nat) := if partsP g a (a + 1 + j) = true then acc ++ [(a, a + 1 + j)] else acc

noncomputable def pairRow (g : List Nat) (a : Nat) (acc : List (Nat × Nat)) : List (Nat × Nat) := foldI (fun _ j acc => pairIn g a j acc) (List.range (g.length - 1 - a)) 0 acc

/-- All pairs that part a graph. -/
noncomputable def pairsP (g : List Nat) : List (Nat × Nat) := foldI (fun _ a acc => pairRow g a acc) (List.range g.length) 0 []

theorem foldI_len {α β : Type} {f : Nat → α → List β → List β} (hf : ∀ i x s, (f i x s).length ≤ s.length + 1) : ∀ (l : List α) (i : Nat) (s : List β), (foldI f l i s).length ≤ s.length + l.length := by
  intro l
  induction l with
  | nil => intro i s; simp [foldI]
  | cons x l ih =>
    intro i s
    have := ih (i + 1) (f i x s)
    have := hf i x s
    simp only [foldI, List.length_cons]
    omega

theorem pairIn_len (g : List Nat) (a j : Nat) (acc : List (Nat × Nat)) : (pairIn g a j acc).length ≤ acc.length + 1 := by
  unfold pairIn
  split <;> simp

theorem del_calc {g : List Nat} (hg : GrB g) {a b : Nat} (ha : a < g.length) (hb : b < g.length) :
    AM.andNot .i64 (AM.andNot .i64 (allN g : Int) (AM.shl .i64 1 (a : Int))) (AM.shl .i64 1 (b : Int)) = ((del2 (allN g) a b : Nat) : Int) := by
  have hlen := hg.len
  have h1 := allN_lt g
  have h2 := hg.pow
  have ha' : 2 ^ a < 2 ^ 10 := Nat.pow_lt_pow_right (by omega) (by omega)
  have hb' : 2 ^ b < 2 ^ 10 := Nat.pow_lt_pow_right (by omega) (by omega)
  have h3 : without (allN g) (2 ^ a) < 2 ^ 10 := without_le _ _ (by omega)
  rw [shl1_nat (by omega), shl1_nat (by omega), andNot_nat (by omega) (by omega), andNot_nat (by omega) (by omega)]
  rfl

/-- The program's loop over the second nodes. -/
theorem pair_loop {tv sv : Value} {g : List Nat} {h0 h : H} {a : Nat} {acc : List (Nat × Nat)} (hg : GrB g) (ha : a < g.length) (x0 : Ext h0 h) (hs : SlR h0 3 1 tv (cellsN g)) (hap : AqR h0.nx h 32 2 sv (cellsP acc)) (hacc : acc.length ≤ 200) (ws0 : List Value) (hw : AM.gv ws0 1 = iv a) :
    ∃ sv' w' h', lpGo (f17_l2 rn 200 tv ws0) 200 [sv, iv ((a : Int) + 1)] h = some (.exit 2, [sv', w'], h') ∧ Ext h0 h' ∧ AqR h0.nx h' 32 2 sv' (cellsP (pairRow g a acc)) := by
  have hlen := hg.len
  have hn : ∀ {T : Type} (K : Int → Option T), len tv K = K (g.length : Int) := fun K => by rw [hs.len]; simp
  have hwk : ∀ {T : Type} (K : Int → Option T), asK (AM.gv ws0 1) K = K a := fun K => by rw [hw]; rfl
  obtain ⟨ws', h', hl, xg, hll, sv', hap', rfl⟩ := lp_for (F := f17_l2 rn 200 tv ws0) (k := 200) (l := List.range (g.length - 1 - a)) (fun _ j acc => pairIn g a j acc)
    (fun i acc' ws h' => Ext h0 h' ∧ acc'.length ≤ acc.length + i ∧ ∃ sv, AqR h0.nx h' 32 2 sv (cellsP acc') ∧ ws = [sv, iv ((a + 1 + i : Nat) : Int)]) 2 (ws := [sv, iv ((a : Int) + 1)]) (h := h) (s0 := acc)
    ⟨x0, by omega, sv, hap, by simp⟩ (by simp; omega)
    (by
      rintro acc' ws h' ⟨_, _, sv, _, rfl⟩
      rw [List.length_range, show a + 1 + (g.length - 1 - a) = g.length by omega]
      simp [f17_l2, hn])
    (by
      rintro i x acc' ws h1 hx ⟨x1, hal, sv, hap1, rfl⟩
      obtain ⟨hi, rfl⟩ := range_get hx
      have hb : a + 1 + x < g.length := by omega
      have hs1 := hs.ext x1
      have hall := allN_lt g
      have c65 := fun (K : Value → H → Option (Ex × List Value × H)) => calls_eq (K := K) (xs := [tv]) (s65 hg hs1)
      have c64 := fun (K : Value → H → Option (Ex × List Value × H)) => calls_eq (K := K) (xs := [tv, iv (allN g : Nat)]) (s64 hg hs1 hall)
      have c64b := fun (K : Value → H → Option (Ex × List Value × H)) => calls_eq (K := K) (xs := [tv, iv (del2 (allN g) a (a + 1 + x) : Nat)]) (s64 hg hs1 (del2_lt hall))
      have hdel := del_calc hg ha hb
      have hadd : add .i64 ((a + 1 + x : Nat) : Int) 1 = ((a + 1 + (x + 1) : Nat) : Int) := by rw [add64 (by omega) (by omega)]; omega
      have hlt : AM.lt ((a + 1 + x : Nat) : Int) (g.length : Int) = true := by rw [AM.lt, decide_eq_true_iff]; omega
      have start : f17_l2 rn 200 tv ws0 [sv, iv ((a + 1 + x : Nat) : Int)] h1 = if partsP g a (a + 1 + x) = true then
          (bld Tryd.prog 32 [(0, iv a), (1, iv ((a + 1 + x : Nat) : Int))] fun v8 => bls Tryd.prog h1 24 1 [(0, v8)] fun v9 h8 => app Tryd.prog h8 24 24 sv v9 fun v10 h9 => AM.out .normal [v10, iv ((a + 1 + (x + 1) : Nat) : Int)] h9) else
          some (.normal, [sv, iv ((a + 1 + (x + 1) : Nat) : Int)], h1) := by
        unfold f17_l2
        rw [show AM.gv [sv, iv ((a + 1 + x : Nat) : Int)] 1 = iv ((a + 1 + x : Nat) : Int) from rfl, show AM.gv [sv, iv ((a + 1 + x : Nat) : Int)] 0 = sv from rfl]
        simp only [hn, asI_int, hlt, ifB_true, c65, c64, asB_bool, hwk, asK_int, nn_ge (show (0 : Int) ≤ (a : Int) by omega), nn_ge (show (0 : Int) ≤ ((a + 1 + x : Nat) : Int) by omega), hdel, c64b, hadd, hw]
        unfold partsP
        cases h5 : connS g (allN g) with
        | false => simp
        | true =>
          cases h6 : connS g (del2 (allN g) a (a + 1 + x)) with
          | true => simp
          | false => simp
      rw [start]
      by_cases hp : partsP g a (a + 1 + x) = true
      · rw [if_pos hp, kbld32]
        obtain ⟨sv', h2, e2, a2, n2, k2, b2, hb2, hb2'⟩ := hap1.push app24 app24 (bls24 (a : Int) ((a + 1 + x : Nat) : Int)) rfl rfl (by rw [List.length_map]; omega) x1.nx
        rw [e2]
        have hpi : pairIn g a x acc' = acc' ++ [(a, a + 1 + x)] := by unfold pairIn; rw [if_pos hp]
        refine ⟨_, _, rfl, ⟨by have := x1.nx; omega, fun b hb => ?_⟩, ?_, sv', ?_, rfl⟩
        · rw [k2 b (by have := x1.nx; omega) (fun e => by have := (hap1.blkOf e).1; omega)]
          exact x1.blk b hb
        · rw [hpi]; simp; omega
        · rw [hpi]
          have : cellsP (acc' ++ [(a, a + 1 + x)]) = cellsP acc' ++ [[iv (a : Int), iv ((a + 1 + x : Nat) : Int)]] := by simp
          rw [this]; exact a2
      · rw [if_neg hp]
        have hpi : pairIn g a x acc' = acc' := by unfold pairIn; rw [if_neg hp]
        exact ⟨_, _, rfl, x1, by rw [hpi]; omega, sv, by rw [hpi]; exact hap1, rfl⟩)
  exact ⟨sv', _, h', hl, xg, hap'⟩

theorem row_len {g : List Nat} {a : Nat} {acc : List (Nat × Nat)} : (pairRow g a acc).length ≤ acc.length + g.length := by
  have := foldI_len (f := fun (_ : Nat) (j : Nat) acc => pairIn g a j acc) (fun i x s => pairIn_len g a x s) (List.range (g.length - 1 - a)) 0 acc
  unfold pairRow
  rw [List.length_range] at this
  omega

theorem s17 {v : Value} {g : List Nat} {h : H} (hg : GrN g) (hval : validG (g.map Int.ofNat) = true) (hs : SlR h 3 1 v (cellsN g)) :
    ∃ v' h', rn 17 #[v] h = some (.tuple #[v', iv 0], h') ∧ Exw h h' ∧ SlR h' 32 2 v' (cellsP (pairsP g)) := by
  have hlen := hg.len
  have c63 := fun (K : Value → H → Option (Value × H)) => calls_eq (K := K) (xs := [v]) (s63 (l := g.map Int.ofNat) (h := h) (by rw [cellsN_eq]; exact hs))
  rw [if_pos hval] at c63
  have hn : ∀ {T : Type} (K : Int → Option T), len v K = K (g.length : Int) := fun K => by rw [hs.len]; simp
  obtain ⟨ws', h', hl, xg, hll, sv', hap', rfl⟩ := lp_for (F := f17_l1 rn 200 v g.length) (k := 200) (l := List.range g.length) (fun _ a acc => pairRow g a acc)
    (fun i acc' ws h' => Ext h h' ∧ acc'.length ≤ 10 * i ∧ ∃ sv, AqR h.nx h' 32 2 sv (cellsP acc') ∧ ws = [sv, iv i]) 0 (ws := [.slice none 0 0, iv 0]) (h := h) (s0 := [])
    ⟨.refl _, by simp, _, .nil, rfl⟩ (by simp; omega)
    (by
      rintro acc' ws h' ⟨_, _, sv, _, rfl⟩
      rw [List.length_range]
      simp [f17_l1])
    (by
      rintro i x acc' ws h1 hx ⟨x1, hal, sv, hap1, rfl⟩
      obtain ⟨hi, rfl⟩ := range_get hx
      have hadd : add .i64 (x : Int) 1 = (x : Int) + 1 := add64 (by omega) (by omega)
      obtain ⟨sv', w', h2, hl2, x2, hap2⟩ := pair_loop hg.toGrB hi x1 hs hap1 (by omega) [sv, iv x] rfl
      have hrl := row_len (g := g) (a := x) (acc := acc')
      refine ⟨[sv', iv ((x : Int) + 1)], h2, ?_, x2, by omega, sv', hap2, rfl⟩
      have hlq := fun (K : Ex → List Value → H → Option (Ex × List Value × H)) => lp_eq (K := K) hl2
      simp [f17_l1, hi, hadd, hlq])
  obtain ⟨h2, e2, m2, w2⟩ := x17 (k := 200) (v0 := v) (h := h) (h1 := h') (v := .tuple #[sv', iv 0]) (by
    unfold f17
    rw [c63, ext20, ext21, asB_bool, show (!true) = false from rfl, ifB_false, hn]
    refine (lp_eq hl).trans ?_
    rfl) (by obtain ⟨x, y, z, hz⟩ := hap'.isSl; rw [hz]; rfl)
  exact ⟨sv', h2, e2, w2 xg, hap'.slR.ext m2.ext⟩

theorem all_ne {g : List Nat} (hg : GrN g) : allN g ≠ 0 := by
  have h := hg.pos
  have : 2 ^ 1 ≤ 2 ^ g.length := Nat.pow_le_pow_right (by omega) h
  unfold allN
  omega

/-- The document's loop over the second nodes. -/
theorem pair_loopD {tv sv : Value} {g : List Nat} {h0 h : H} {a : Nat} {acc : List (Nat × Nat)} (hg : GrB g) (hc : connS g (allN g) = true) (ha : a < g.length) (x0 : Ext h0 h) (hs : SlR h0 3 1 tv (cellsN g)) (hap : AqR h0.nx h 32 2 sv (cellsP acc)) (hacc : acc.length ≤ 200) (ws0 : List Value) (hw : AM.gv ws0 1 = iv a) :
    ∃ sv' w' h', lpGo (f22_l2 rn 200 tv ws0) 200 [sv, iv ((a : Int) + 1)] h = some (.exit 2, [sv', w'], h') ∧ Ext h0 h' ∧ AqR h0.nx h' 32 2 sv' (cellsP (pairRow g a acc)) := by
  have hlen := hg.len
  have hn : ∀ {T : Type} (K : Int → Option T), len tv K = K (g.length : Int) := fun K => by rw [hs.len]; simp
  have hwk : ∀ {T : Type} (K : Int → Option T), asK (AM.gv ws0 1) K = K a := fun K => by rw [hw]; rfl
  obtain ⟨ws', h', hl, xg, hll, sv', hap', rfl⟩ := lp_for (F := f22_l2 rn 200 tv ws0) (k := 200) (l := List.range (g.length - 1 - a)) (fun _ j acc => pairIn g a j acc)
    (fun i acc' ws h' => Ext h0 h' ∧ acc'.length ≤ acc.length + i ∧ ∃ sv, AqR h0.nx h' 32 2 sv (cellsP acc') ∧ ws = [sv, iv ((a + 1 + i : Nat) : Int)]) 2 (ws := [sv, iv ((a : Int) + 1)]) (h := h) (s0 := acc)
    ⟨x0, by omega, sv, hap, by simp⟩ (by simp; omega)
    (by
      rintro acc' ws h' ⟨_, _, sv, _, rfl⟩
      rw [List.length_range, show a + 1 + (g.length - 1 - a) = g.length by omega]
      simp [f22_l2, hn])
    (by
      rintro i x acc' ws h1 hx ⟨x1, hal, sv, hap1, rfl⟩
      obtain ⟨hi, rfl⟩ := range_get hx
      have hb : a + 1 + x < g.length := by omega
      have hs1 := hs.ext x1
      have hall := allN_lt g
      have c68 := fun (K : Value → H → Option (Ex × List Value × H)) => calls_eq (K := K) (xs := [tv]) (s68 hg hs1)
      have c67 := fun (K : Value → H → Option (Ex × List Value × H)) => calls_eq (K := K) (xs := [tv, iv (del2 (allN g) a (a + 1 + x) : Nat)]) (s67 hg hs1 (del2_lt hall))
      have hdel := del_calc hg ha hb
      have hadd : add .i64 ((a + 1 + x : Nat) : Int) 1 = ((a + 1 + (x + 1) : Nat) : Int) := by rw [add64 (by omega) (by omega)]; omega
      have hlt : AM.lt ((a + 1 + x : Nat) : Int) (g.length : Int) = true := by rw [AM.lt, decide_eq_true_iff]; omega
      have start : f22_l2 rn 200 tv ws0 [sv, iv ((a + 1 + x : Nat) : Int)] h1 = if partsP g a (a + 1 + x) = true then
          (bld Tryd.prog 32 [(0, iv a), (1, iv ((a + 1 + x : Nat) : Int))] fun v8 => bls Tryd.prog h1 24 1 [(0, v8)] fun v9 h8 => app Tryd.prog h8 24 24 sv v9 fun v10 h9 => AM.out .normal [v10, iv ((a + 1 + (x + 1) : Nat) : Int)] h9) else
          some (.normal, [sv, iv ((a + 1 + (x + 1) : Nat) : Int)], h1) := by
        unfold f22_l2
        rw [show AM.gv [sv, iv ((a + 1 + x : Nat) : Int)] 1 = iv ((a + 1 + x : Nat) : Int) from rfl, show AM.gv [sv, iv ((a + 1 + x : Nat) : Int)] 0 = sv from rfl]
        simp only [hn, asI_int, hlt, ifB_true, c68, asB_bool, hwk, asK_int, nn_ge (show (0 : Int) ≤ (a : Int) by omega), nn_ge (show (0 : Int) ≤ ((a + 1 + x : Nat) : Int) by omega), hdel, hadd, hw]
        unfold partsP
        rw [hc]
        by_cases h0 : del2 (allN g) a (a + 1 + x) = 0
        · rw [h0]
          have : connS g 0 = true := by simp [connS]
          simp [this]
        · have e0 : AM.eq ((del2 (allN g) a (a + 1 + x) : Nat) : Int) 0 = false := by simp; omega
          rw [e0]
          simp only [Bool.not_false, ifB_true, c67, asB_bool, decide_eq_true (show del2 (allN g) a (a + 1 + x) ≠ 0 from h0)]
          cases h6 : connS g (del2 (allN g) a (a + 1 + x)) with
          | true => simp
          | false => simp
      rw [start]
      by_cases hp : partsP g a (a + 1 + x) = true
      · rw [if_pos hp, kbld32]
        obtain ⟨sv', h2, e2, a2, n2, k2, b2, hb2, hb2'⟩ := hap1.push app24 app24 (bls24 (a : Int) ((a + 1 + x : Nat) : Int)) rfl rfl (by rw [List.length_map]; omega) x1.nx
        rw [e2]
        have hpi : pairIn g a x acc' = acc' ++ [(a, a + 1 + x)] := by unfold pairIn; rw [if_pos hp]
        refine ⟨_, _, rfl, ⟨by have := x1.nx; omega, fun b hb => ?_⟩, ?_, sv', ?_, rfl⟩
        · rw [k2 b (by have := x1.nx; omega) (fun e => by have := (hap1.blkOf e).1; omega)]
          exact x1.blk b hb
        · rw [hpi]; simp; omega
        · rw [hpi]
          have : cellsP (acc' ++ [(a, a + 1 + x)]) = cellsP acc' ++ [[iv (a : Int), iv ((a + 1 + x : Nat) : Int)]] := by simp
          rw [this]; exact a2
      · rw [if_neg hp]
        have hpi : pairIn g a x acc' = acc' := by unfold pairIn; rw [if_neg hp]
        exact ⟨_, _, rfl, x1, by rw [hpi]; omega, sv, by rw [hpi]; exact hap1, rfl⟩)
  exact ⟨sv', _, h', hl, xg, hap'⟩

theorem foldI_id {α β : Type} {f : Nat → α → β → β} (hf : ∀ i x s, f i x s = s) : ∀ (l : List α) (i : Nat) (s : β), foldI f l i s = s := by
  intro l
  induction l with
  | nil => intro i s; rfl
  | cons x l ih => intro i s; simp only [foldI]; rw [hf, ih]

theorem pairs_none {g : List Nat} (hc : connS g (allN g) = false) : pairsP g = [] := by
  unfold pairsP
  refine foldI_id (fun i a s => ?_) _ _ _
  unfold pairRow
  refine foldI_id (fun i j s => ?_) _ _ _
  unfold pairIn partsP
  rw [hc]; simp

theorem s22 {v : Value} {g : List Nat} {h : H} (hg : GrN g) (hs : SlR h 3 1 v (cellsN g)) :
    ∃ v' h', rn 22 #[v] h = some (v', h') ∧ Exw h h' ∧ SlR h' 32 2 v' (cellsP (pairsP g)) := by
  have hlen := hg.len
  have hall := allN_lt g
  have c68 := fun (K : Value → H → Option (Value × H)) => calls_eq (K := K) (xs := [v]) (s68 hg.toGrB hs)
  have c67 := fun (K : Value → H → Option (Value × H)) => calls_eq (K := K) (xs := [v, iv (allN g : Nat)]) (s67 hg.toGrB hs hall)
  rw [decide_eq_true (all_ne hg), Bool.true_and] at c67
  have hn : ∀ {T : Type} (K : Int → Option T), len v K = K (g.length : Int) := fun K => by rw [hs.len]; simp
  cases hc : connS g (allN g) with
  | false =>
    rw [pairs_none hc]
    refine ⟨.slice none 0 0, h, y22 (k := 0) ?_, .refl _, .nil⟩
    simp [f22, c68, c67, hc]
  | true =>
    obtain ⟨ws', h', hl, xg, hll, sv', hap', rfl⟩ := lp_for (F := f22_l1 rn 200 v g.length) (k := 200) (l := List.range g.length) (fun _ a acc => pairRow g a acc)
      (fun i acc' ws h' => Ext h h' ∧ acc'.length ≤ 10 * i ∧ ∃ sv, AqR h.nx h' 32 2 sv (cellsP acc') ∧ ws = [sv, iv i]) 0 (ws := [.slice none 0 0, iv 0]) (h := h) (s0 := [])
      ⟨.refl _, by simp, _, .nil, rfl⟩ (by simp; omega)
      (by
        rintro acc' ws h' ⟨_, _, sv, _, rfl⟩
        rw [List.length_range]
        simp [f22_l1])
      (by
        rintro i x acc' ws h1 hx ⟨x1, hal, sv, hap1, rfl⟩
        obtain ⟨hi, rfl⟩ := range_get hx
        have hadd : add .i64 (x : Int) 1 = (x : Int) + 1 := add64 (by omega) (by omega)
        obtain ⟨sv', w', h2, hl2, x2, hap2⟩ := pair_loopD hg.toGrB hc hi x1 hs hap1 (by omega) [sv, iv x] rfl
        have hrl := row_len (g := g) (a := x) (acc := acc')
        refine ⟨[sv', iv ((x : Int) + 1)], h2, ?_, x2, by omega, sv', hap2, rfl⟩
        have hlq := fun (K : Ex → List Value → H → Option (Ex × List Value × H)) => lp_eq (K := K) hl2
        simp [f22_l1, hi, hadd, hlq])
    obtain ⟨h2, e2, m2, w2⟩ := x22 (k := 200) (v0 := v) (h := h) (h1 := h') (v := sv') (by
      unfold f22
      rw [c68, asI_int, c67, hc, asB_bool, show (!true) = false from rfl, ifB_false, hn]
      refine (lp_eq hl).trans ?_
      rfl) (by obtain ⟨x, y, z, hz⟩ := hap'.isSl; rw [hz]; rfl)
    exact ⟨sv', h2, e2, w2 xg, hap'.slR.ext m2.ext⟩

theorem s17_bad {v : Value} {l : List Int} {h : H} (hval : validG l = false) (hs : SlR h 3 1 v (cellsI l)) : rn 17 #[v] h = some (.tuple #[.slice none 0 0, iv 2], h) := by
  have c63 := fun (K : Value → H → Option (Value × H)) => calls_eq (K := K) (xs := [v]) (s63 hs)
  rw [hval] at c63
  refine y17 (k := 0) ?_
  simp [f17, c63]

/-- The law. -/
theorem s3 (hawake : ∀ h, rn 20 #[] h = some (.bool true, h)) {h : H} {v : Value} {l : List Int} (hs : SlR h 3 1 v (cellsI l)) : ∃ h', rn 3 #[v] h = some (.bool true, h') := by
  have c20 := fun (g : H) (K : Value → H → Option (Value × H)) => calls_eq (K := K) (xs := []) (hawake g)
  obtain ⟨v1, h1, e18, x1w, hs1⟩ := s18 hs
  have x1 := x1w.toExt
  have c18 := fun (K : Value → H → Option (Value × H)) => calls_eq (K := K) (xs := [v]) e18
  by_cases hval : validG l = true
  · obtain ⟨g, rfl, hg⟩ := valid_nat hval
    have htk : (g.map Int.ofNat).take 14 = g.map Int.ofNat := List.take_of_length_le (by have := hg.len; simp; omega)
    rw [htk, cellsN_eq] at hs1
    obtain ⟨v2, h2, e17, x2w, hs2⟩ := s17 hg hval hs1
    have x2 := x2w.toExt
    have c17 := fun (K : Value → H → Option (Value × H)) => calls_eq (K := K) (xs := [v1]) e17
    have hsv := hs.ext (x1.trans x2)
    have c19 := fun (K : Value → H → Option (Value × H)) => calls_eq (K := K) (xs := [v]) (s19 hsv)
    rw [cellsN_eq] at hsv
    obtain ⟨v3, h3, e22, x3w, hs3⟩ := s22 hg hsv
    have x3 := x3w.toExt
    have c22 := fun (K : Value → H → Option (Value × H)) => calls_eq (K := K) (xs := [v]) e22
    have c21 := fun (K : Value → H → Option (Value × H)) => calls_eq (K := K) (xs := [v2, v3]) (s21 (hs2.ext x3) hs3)
    refine ⟨_, t3 (k := 0) (v := .bool true) (h1 := h3) ?_⟩
    simp [f3, c18, c17, c19, hval, c22, c21, c20]
  · have hv' : validG l = false := by simpa using hval
    have c17 := fun (K : Value → H → Option (Value × H)) => calls_eq (K := K) (xs := [v1]) (s17_bad (by rw [validG_take]; exact hv') hs1)
    have c19 := fun (K : Value → H → Option (Value × H)) => calls_eq (K := K) (xs := [v]) (s19 (hs.ext x1))
    refine ⟨_, t3 (k := 0) (v := .bool true) (h1 := h1) ?_⟩
    simp [f3, c18, c17, c19, hv', c20]

end Go.AM

end

section

/- Edges, cut nodes, and a town without an edge. -/
namespace Go.AM
open Go.Proofs
variable {R : Type}
attribute [local simp] nx_eq nx_new nx_set blk_new blk_set asI_int asK_int asB_bool asP_ptr al_eq bx_eq len_slice onE_exit onE_ret onR_ret Value.cells d3 d22 d23 d32 cell_new cell_set rd_new rd_set off eq lt le ifB gv out ext20 ext21
theorem SlR.blkR {h : H} {e : TypeId} {s : Nat} {v : Value} {L : List (List Value)} (a : SlR h e s v L) {b : Nat} (hb : blkOf v = some b) : b < h.nx ∧ ∃ cs own, h.blk b = some (.row cs e own) := by
  cases a with
  | nil => cases hb
  | at_ hb' hr => cases hb; exact ⟨hb', _, _, hr⟩

/-- The edges of a node to greater ones. -/
def edgeIn (g : List Nat) (a j : Nat) (acc : List (Nat × Nat)) : List (Nat × Nat) := if adj g a (a + 1 + j) = true then acc ++ [(a, a + 1 + j)] else acc

def edgeRow (g : List Nat) (a : Nat) (acc : List (Nat × Nat)) : List (Nat × Nat) := foldI (fun _ j acc => edgeIn g a j acc) (List.range (g.length - 1 - a)) 0 acc

/-- All edges, in order. -/
def edgesP (g : List Nat) : List (Nat × Nat) := foldI (fun _ a acc => edgeRow g a acc) (List.range g.length) 0 []

theorem edgeIn_len (g : List Nat) (a j : Nat) (acc : List (Nat × Nat)) : (edgeIn g a j acc).length ≤ acc.length + 1 := by
  unfold edgeIn
  split <;> simp

theorem edgeRow_len {g : List Nat} {a : Nat} {acc : List (Nat × Nat)} : (edgeRow g a acc).length ≤ acc.length + g.length := by
  have := foldI_len (f := fun (_ : Nat) (j : Nat) acc => edgeIn g a j acc) (fun i x s => edgeIn_len g a x s) (List.range (g.length - 1 - a)) 0 acc
  unfold edgeRow
  rw [List.length_range] at this
  omega

/-- A loop that appends is the same as a filter. -/
theorem foldI_filter {α β : Type} {p : α → Bool} {f : α → β} : ∀ (l : List α) (i : Nat) (s : List β), foldI (fun _ x acc => if p x = true then acc ++ [f x] else acc) l i s = s ++ (l.filter p).map f := by
  intro l
  induction l with
  | nil => intro i s; simp [foldI]
  | cons x l ih =>
    intro i s
    simp only [foldI]
    rw [ih]
    cases hp : p x <;> simp [List.filter_cons, hp]

theorem edgeRow_eq {g : List Nat} {a : Nat} {acc : List (Nat × Nat)} : edgeRow g a acc = acc ++ ((List.range (g.length - 1 - a)).filter fun j => adj g a (a + 1 + j)).map fun j => (a, a + 1 + j) := by
  unfold edgeRow edgeIn
  exact foldI_filter (p := fun j => adj g a (a + 1 + j)) (f := fun j => (a, a + 1 + j)) _ _ _

/-- The numbers of a set that are greater than a. -/
theorem elts_above {g : List Nat} (hg : GrB g) {a : Nat} (ha : a < g.length) : ((elts (nb g a)).filter fun b => decide (a < b)) = ((List.range (g.length - 1 - a)).filter fun j => adj g a (a + 1 + j)).map fun j => a + 1 + j := by
  have hlen := hg.len
  have h1 : elts (nb g a) = (List.range g.length).filter fun i => (nb g a).testBit i := by
    unfold elts
    rw [show 10 = g.length + (10 - g.length) by omega, List.range_add, List.filter_append]
    have : (((List.range (10 - g.length)).map (g.length + ·)).filter fun i => (nb g a).testBit i) = [] := by
      rw [List.filter_eq_nil_iff]
      intro x hx
      obtain ⟨y, _, rfl⟩ := List.mem_map.1 hx
      rw [big_bit (hg.nb_lt a) (by omega)]
      simp
    rw [this, List.append_nil]
  rw [h1, List.filter_filter]
  have h2 : List.range g.length = List.range (a + 1) ++ (List.range (g.length - 1 - a)).map (a + 1 + ·) := by
    rw [← List.range_add]
    congr 1
    omega
  rw [h2, List.filter_append]
  have h3 : ((List.range (a + 1)).filter fun b => decide (a < b) && (nb g a).testBit b) = [] := by
    rw [List.filter_eq_nil_iff]
    intro x hx
    have := List.mem_range.1 hx
    rw [decide_eq_false (by omega)]
    simp
  rw [h3, List.nil_append, List.filter_map]
  congr 1
  refine List.filter_congr fun j hj => ?_
  simp only [Function.comp_apply]
  rw [decide_eq_true (show a < a + 1 + j by omega)]
  rfl

theorem adj_bit {g : List Nat} (hg : GrB g) {a b : Nat} (hb : b ≤ 64) : AM.and .i64 (shr .i64 (nb g a : Int) (b : Int)) 1 = if adj g a b then 1 else 0 := by
  have h1 := hg.nb_lt a
  have h2 := hg.pow
  exact bit_nat (by omega) hb

/-- The document's edges. -/
theorem edge_loopD {tv sv : Value} {g : List Nat} {h0 h : H} {a : Nat} {acc : List (Nat × Nat)} (hg : GrB g) (ha : a < g.length) (x0 : Ext h0 h) (hs : SlR h0 3 1 tv (cellsN g)) (hap : AqR h0.nx h 32 2 sv (cellsP acc)) (hacc : acc.length ≤ 200) (ws0 : List Value) (hw : AM.gv ws0 1 = iv a) :
    ∃ sv' w' h', lpGo (f71_l2 rn 200 tv ws0) 200 [sv, iv ((a : Int) + 1)] h = some (.exit 2, [sv', w'], h') ∧ Ext h0 h' ∧ AqR h0.nx h' 32 2 sv' (cellsP (edgeRow g a acc)) := by
  have hlen := hg.len
  have hn : ∀ {T : Type} (K : Int → Option T), len tv K = K (g.length : Int) := fun K => by rw [hs.len]; simp
  have hwk : ∀ {T : Type} (K : Int → Option T), asK (AM.gv ws0 1) K = K a := fun K => by rw [hw]; rfl
  obtain ⟨ws', h', hl, xg, hll, sv', hap', rfl⟩ := lp_for (F := f71_l2 rn 200 tv ws0) (k := 200) (l := List.range (g.length - 1 - a)) (fun _ j acc => edgeIn g a j acc)
    (fun i acc' ws h' => Ext h0 h' ∧ acc'.length ≤ acc.length + i ∧ ∃ sv, AqR h0.nx h' 32 2 sv (cellsP acc') ∧ ws = [sv, iv ((a + 1 + i : Nat) : Int)]) 2 (ws := [sv, iv ((a : Int) + 1)]) (h := h) (s0 := acc)
    ⟨x0, by omega, sv, hap, by simp⟩ (by simp; omega)
    (by
      rintro acc' ws h' ⟨_, _, sv, _, rfl⟩
      rw [List.length_range, show a + 1 + (g.length - 1 - a) = g.length by omega]
      simp [f71_l2, hn])
    (by
      rintro i x acc' ws h1 hx ⟨x1, hal, sv, hap1, rfl⟩
      obtain ⟨hi, rfl⟩ := range_get hx
      have hb : a + 1 + x < g.length := by omega
      have e1 := fun (K : Value → Option (Ex × List Value × H)) => getN (hs.ext x1) ha K
      have hbit := adj_bit hg (a := a) (b := a + 1 + x) (by omega)
      have hadd : add .i64 ((a + 1 + x : Nat) : Int) 1 = ((a + 1 + (x + 1) : Nat) : Int) := by rw [add64 (by omega) (by omega)]; omega
      have hlt : AM.lt ((a + 1 + x : Nat) : Int) (g.length : Int) = true := by rw [AM.lt, decide_eq_true_iff]; omega
      have start : f71_l2 rn 200 tv ws0 [sv, iv ((a + 1 + x : Nat) : Int)] h1 = if adj g a (a + 1 + x) = true then
          (bld Tryd.prog 32 [(0, iv a), (1, iv ((a + 1 + x : Nat) : Int))] fun v8 => bls Tryd.prog h1 24 1 [(0, v8)] fun v9 h8 => app Tryd.prog h8 24 24 sv v9 fun v10 h9 => AM.out .normal [v10, iv ((a + 1 + (x + 1) : Nat) : Int)] h9) else
          some (.normal, [sv, iv ((a + 1 + (x + 1) : Nat) : Int)], h1) := by
        unfold f71_l2
        rw [show AM.gv [sv, iv ((a + 1 + x : Nat) : Int)] 1 = iv ((a + 1 + x : Nat) : Int) from rfl, show AM.gv [sv, iv ((a + 1 + x : Nat) : Int)] 0 = sv from rfl]
        simp only [hn, asI_int, hlt, ifB_true, hwk, d3, e1, asK_int, nn_ge (show (0 : Int) ≤ ((a + 1 + x : Nat) : Int) by omega), hbit, hadd, hw]
        cases h5 : adj g a (a + 1 + x) with
        | false => simp
        | true => simp
      rw [start]
      by_cases hp : adj g a (a + 1 + x) = true
      · rw [if_pos hp, kbld32]
        obtain ⟨sv', h2, e2, a2, n2, k2, b2, hb2, hb2'⟩ := hap1.push app24 app24 (bls24 (a : Int) ((a + 1 + x : Nat) : Int)) rfl rfl (by rw [List.length_map]; omega) x1.nx
        rw [e2]
        have hpi : edgeIn g a x acc' = acc' ++ [(a, a + 1 + x)] := by unfold edgeIn; rw [if_pos hp]
        refine ⟨_, _, rfl, ⟨by have := x1.nx; omega, fun b hb => ?_⟩, ?_, sv', ?_, rfl⟩
        · rw [k2 b (by have := x1.nx; omega) (fun e => by have := (hap1.blkOf e).1; omega)]
          exact x1.blk b hb
        · rw [hpi]; simp; omega
        · rw [hpi]
          have : cellsP (acc' ++ [(a, a + 1 + x)]) = cellsP acc' ++ [[iv (a : Int), iv ((a + 1 + x : Nat) : Int)]] := by simp
          rw [this]; exact a2
      · rw [if_neg hp]
        have hpi : edgeIn g a x acc' = acc' := by unfold edgeIn; rw [if_neg hp]
        exact ⟨_, _, rfl, x1, by rw [hpi]; omega, sv, by rw [hpi]; exact hap1, rfl⟩)
  exact ⟨sv', _, h', hl, xg, hap'⟩

theorem s71 {v : Value} {g : List Nat} {h : H} (hg : GrB g) (hs : SlR h 3 1 v (cellsN g)) :
    ∃ v' h', rn 71 #[v] h = some (v', h') ∧ Exw h h' ∧ SlR h' 32 2 v' (cellsP (edgesP g)) := by
  have hlen := hg.len
  have hn : ∀ {T : Type} (K : Int → Option T), len v K = K (g.length : Int) := fun K => by rw [hs.len]; simp
  obtain ⟨ws', h', hl, xg, hll, sv', hap', rfl⟩ := lp_for (F := f71_l1 rn 200 v g.length) (k := 200) (l := List.range g.length) (fun _ a acc => edgeRow g a acc)
    (fun i acc' ws h' => Ext h h' ∧ acc'.length ≤ 10 * i ∧ ∃ sv, AqR h.nx h' 32 2 sv (cellsP acc') ∧ ws = [sv, iv i]) 0 (ws := [.slice none 0 0, iv 0]) (h := h) (s0 := [])
    ⟨.refl _, by simp, _, .nil, rfl⟩ (by simp; omega)
    (by
      rintro acc' ws h' ⟨_, _, sv, _, rfl⟩
      rw [List.length_range]
      simp [f71_l1])
    (by
      rintro i x acc' ws h1 hx ⟨x1, hal, sv, hap1, rfl⟩
      obtain ⟨hi, rfl⟩ := range_get hx
      have hadd : add .i64 (x : Int) 1 = (x : Int) + 1 := add64 (by omega) (by omega)
      obtain ⟨sv', w', h2, hl2, x2, hap2⟩ := edge_loopD hg hi x1 hs hap1 (by omega) [sv, iv x] rfl
      have hrl := edgeRow_len (g := g) (a := x) (acc := acc')
      refine ⟨[sv', iv ((x : Int) + 1)], h2, ?_, x2, by omega, sv', hap2, rfl⟩
      have hlq := fun (K : Ex → List Value → H → Option (Ex × List Value × H)) => lp_eq (K := K) hl2
      simp [f71_l1, hi, hadd, hlq])
  obtain ⟨h2, e2, m2, w2⟩ := x71 (k := 200) (v0 := v) (h := h) (h1 := h') (v := sv') (by
    unfold f71
    rw [hn]
    refine (lp_eq hl).trans ?_
    rfl) (by obtain ⟨x, y, z, hz⟩ := hap'.isSl; rw [hz]; rfl)
  exact ⟨sv', h2, e2, w2 xg, hap'.slR.ext m2.ext⟩

/-- The program's edges. -/
theorem edge_loop {nv sv : Value} {g : List Nat} {h0 h : H} {a : Nat} {acc : List (Nat × Nat)} (hg : GrB g) (ha : a < g.length) (x0 : Ext h0 h) (hs : SlR h 3 1 nv (cellsN (elts (nb g a)))) (hap : AqR h0.nx h 32 2 sv (cellsP acc)) (hacc : acc.length ≤ 200) (ws0 : List Value) (hw : AM.gv ws0 1 = iv a) :
    ∃ sv' w' h', lpGo (f77_l2 rn 200 ws0 nv (elts (nb g a)).length) 200 [sv, iv 0] h = some (.exit 2, [sv', w'], h') ∧ Ext h0 h' ∧ AqR h0.nx h' 32 2 sv' (cellsP (edgeRow g a acc)) := by
  have hlen := hg.len
  have hnb : nb g a < 1024 := Nat.lt_of_lt_of_le (hg.nb_lt a) hg.pow
  have hpl : (elts (nb g a)).length ≤ 10 := by rw [elts_len]; exact pop_le_n (Nat.le_refl 10) hnb
  obtain ⟨ws', h', hl, xg, xh, hll, sv', hap', rfl⟩ := lp_for (F := f77_l2 rn 200 ws0 nv (elts (nb g a)).length) (k := 200) (l := elts (nb g a)) (fun _ b acc => if decide (a < b) = true then acc ++ [(a, b)] else acc)
    (fun i acc' ws h' => Ext h0 h' ∧ SlR h' 3 1 nv (cellsN (elts (nb g a))) ∧ acc'.length ≤ acc.length + i ∧ ∃ sv, AqR h0.nx h' 32 2 sv (cellsP acc') ∧ ws = [sv, iv i]) 2 (ws := [sv, iv 0]) (h := h) (s0 := acc)
    ⟨x0, hs, by omega, sv, hap, rfl⟩ (by omega)
    (by
      rintro acc' ws h' ⟨_, _, _, sv, _, rfl⟩
      simp [f77_l2])
    (by
      rintro i b acc' ws h1 hx ⟨x1, hs1, hal, sv, hap1, rfl⟩
      have hi := (List.getElem?_eq_some_iff.1 hx).1
      have hadd : add .i64 (i : Int) 1 = (i : Int) + 1 := add64 (by omega) (by omega)
      have e1 : ∀ (K : Value → Option (Ex × List Value × H)), (six nv (i : Int) 1 fun b o => (h1.cell b o).bind K) = K (iv b) := fun K => hs1.c0 (by omega) (x := [iv b]) (by simp [hx]) rfl K
      have start : f77_l2 rn 200 ws0 nv (elts (nb g a)).length [sv, iv i] h1 = if a < b then
          (bld Tryd.prog 32 [(0, iv a), (1, iv b)] fun v8 => bls Tryd.prog h1 24 1 [(0, v8)] fun v9 h8 => app Tryd.prog h8 24 24 sv v9 fun v10 h9 => AM.out .normal [v10, iv ((i : Int) + 1)] h9) else
          some (.normal, [sv, iv ((i : Int) + 1)], h1) := by
        unfold f77_l2
        rw [show AM.gv [sv, iv i] 1 = iv i from rfl, show AM.gv [sv, iv i] 0 = sv from rfl]
        simp only [asI_int, lt_t (show (i : Int) < (elts (nb g a)).length by omega), ifB_true, asK_int, d3, e1, hw, hadd]
        by_cases h5 : a < b
        · simp [h5]
        · simp [h5]
      rw [start]
      by_cases hp : a < b
      · rw [if_pos hp, kbld32]
        obtain ⟨sv', h2, e2, a2, n2, k2, b2, hb2, hb2'⟩ := hap1.push app24 app24 (bls24 (a : Int) (b : Int)) rfl rfl (by rw [List.length_map]; omega) x1.nx
        rw [e2]
        have hpi : (if decide (a < b) = true then acc' ++ [(a, b)] else acc') = acc' ++ [(a, b)] := by simp [hp]
        have k2' : ∀ q, q < h1.nx → blkOf sv ≠ some q → h2.blk q = h1.blk q := k2
        refine ⟨_, _, rfl, ⟨by have := x1.nx; omega, fun q hq => ?_⟩, ?_, ?_, sv', ?_, rfl⟩
        · rw [k2 q (by have := x1.nx; omega) (fun e => by have := (hap1.blkOf e).1; omega)]
          exact x1.blk q hq
        · refine hs1.keepB n2 fun q hq => k2 q ?_ fun e => ?_
          · exact (hs1.blkR hq).1
          · have h7 := (hap1.blkOf e).2.2
            obtain ⟨_, cs, own, hr⟩ := hs1.blkR hq
            rw [hr] at h7
            simp at h7
        · rw [hpi]; simp; omega
        · rw [hpi]
          have : cellsP (acc' ++ [(a, b)]) = cellsP acc' ++ [[iv (a : Int), iv (b : Int)]] := by simp
          rw [this]; exact a2
      · rw [if_neg hp]
        have hpi : (if decide (a < b) = true then acc' ++ [(a, b)] else acc') = acc' := by simp [hp]
        exact ⟨_, _, rfl, x1, hs1, by rw [hpi]; omega, sv, by rw [hpi]; exact hap1, rfl⟩)
  have he : foldI (fun _ b acc => if decide (a < b) = true then acc ++ [(a, b)] else acc) (elts (nb g a)) 0 acc = edgeRow g a acc := by
    rw [foldI_filter (p := fun b => decide (a < b)) (f := fun b => (a, b)), edgeRow_eq, elts_above hg ha, List.map_map]
    rfl
  rw [he] at hap'
  exact ⟨sv', _, h', hl, xg, hap'⟩

theorem s77 {v : Value} {g : List Nat} {h : H} (hg : GrB g) (hs : SlR h 3 1 v (cellsN g)) :
    ∃ v' h', rn 77 #[v] h = some (v', h') ∧ Exw h h' ∧ AqR h.nx h' 32 2 v' (cellsP (edgesP g)) := by
  have hlen := hg.len
  have hn : ∀ {T : Type} (K : Int → Option T), len v K = K (g.length : Int) := fun K => by rw [hs.len]; simp
  obtain ⟨ws', h', hl, xg, hll, sv', hap', rfl⟩ := lp_for (F := f77_l1 rn 200 v g.length) (k := 200) (l := List.range g.length) (fun _ a acc => edgeRow g a acc)
    (fun i acc' ws h' => Ext h h' ∧ acc'.length ≤ 10 * i ∧ ∃ sv, AqR h.nx h' 32 2 sv (cellsP acc') ∧ ws = [sv, iv i]) 0 (ws := [.slice none 0 0, iv 0]) (h := h) (s0 := [])
    ⟨.refl _, by simp, _, .nil, rfl⟩ (by simp; omega)
    (by
      rintro acc' ws h' ⟨_, _, sv, _, rfl⟩
      rw [List.length_range]
      simp [f77_l1])
    (by
      rintro i x acc' ws h1 hx ⟨x1, hal, sv, hap1, rfl⟩
      obtain ⟨hi, rfl⟩ := range_get hx
      have hadd : add .i64 (x : Int) 1 = (x : Int) + 1 := add64 (by omega) (by omega)
      have e1 := fun (K : Value → Option (Ex × List Value × H)) => getN (hs.ext x1) hi K
      have hnb : nb g x < 1024 := Nat.lt_of_lt_of_le (hg.nb_lt x) hg.pow
      obtain ⟨nv, h2, e76, x2w, hn2⟩ := s76 hnb h1
      have x2 := x2w.toExt
      have c76 := fun (K : Value → H → Option (Ex × List Value × H)) => calls_eq (K := K) (xs := [iv (nb g x : Nat)]) e76
      have hnn : ∀ {T : Type} (K : Int → Option T), len nv K = K ((elts (nb g x)).length : Int) := fun K => by rw [hn2.len]; simp
      obtain ⟨sv', w', h3, hl2, x3, hap2⟩ := edge_loop hg hi (x1.trans x2) hn2 (hap1.ext x2) (by omega) [sv, iv x] rfl
      have hrl := edgeRow_len (g := g) (a := x) (acc := acc')
      refine ⟨[sv', iv ((x : Int) + 1)], h3, ?_, x3, by omega, sv', hap2, rfl⟩
      have hlq := fun (K : Ex → List Value → H → Option (Ex × List Value × H)) => lp_eq (K := K) hl2
      simp [f77_l1, hi, hadd, e1, c76, hnn, hlq])
  obtain ⟨h2, e2, m2, w2⟩ := x77 (k := 200) (v0 := v) (h := h) (h1 := h') (v := sv') (by
    unfold f77
    rw [hn]
    refine (lp_eq hl).trans ?_
    rfl) (by obtain ⟨x, y, z, hz⟩ := hap'.isSl; rw [hz]; rfl)
  exact ⟨sv', h2, e2, w2 xg, hap'.ext m2.ext⟩

end Go.AM

end

section

/- Cut nodes; a town without an edge. -/
namespace Go.AM
open Go.Proofs
variable {R : Type}
attribute [local simp] nx_eq nx_new nx_set blk_new blk_set asI_int asK_int asB_bool asP_ptr al_eq bx_eq len_slice onE_exit onE_ret onR_ret Value.cells d3 d22 d23 d32 d78 w3 cell_new cell_set rd_new rd_set off eq lt le ifB gv out ext20 ext21
/-! ### Cut nodes -/
/-- Is a node a cut node of a set that has it? -/
noncomputable def cutQ (g : List Nat) (S v : Nat) : Bool := !connS g (without (rch g S v) (2 ^ v))

noncomputable def cutsP (g : List Nat) (S : Nat) : Nat := mkS (fun v => S.testBit v && cutQ g S v) 10

theorem cutsP_lt (g : List Nat) (S : Nat) : cutsP g S < 1024 := mkS_lt _ 10

theorem cutsP_bit {g : List Nat} {S v : Nat} (hS : S < 1024) : (cutsP g S).testBit v = true ↔ S.testBit v = true ∧ cutQ g S v = true := by
  unfold cutsP
  rw [mkS_bit, Bool.and_eq_true, Bool.and_eq_true, decide_eq_true_iff]
  exact ⟨And.right, fun h => ⟨bit_lt (n := 10) hS h.1, h⟩⟩

/-- Numbers put into a set one by one. -/
theorem orIf_bit {p : Nat → Bool} {u : Nat} : ∀ (L : List Nat) (i s : Nat), (foldI (fun _ v s => if p v = true then s ||| 2 ^ v else s) L i s).testBit u = true ↔ s.testBit u = true ∨ (u ∈ L ∧ p u = true) := by
  intro L
  induction L with
  | nil => intro i s; simp [foldI]
  | cons v L ih =>
    intro i s
    simp only [foldI]
    rw [ih]
    have h1 : (if p v = true then s ||| 2 ^ v else s).testBit u = true ↔ s.testBit u = true ∨ (u = v ∧ p u = true) := by
      split
      · rename_i hp
        rw [Nat.testBit_or, Nat.testBit_two_pow, Bool.or_eq_true, decide_eq_true_iff]
        constructor
        · rintro (h | h)
          · exact .inl h
          · exact .inr ⟨h.symm, h ▸ hp⟩
        · rintro (h | ⟨h, _⟩)
          · exact .inl h
          · exact .inr h.symm
      · rename_i hp
        constructor
        · exact .inl
        · rintro (h | ⟨rfl, h⟩)
          · exact h
          · exact absurd h hp
    rw [h1, List.mem_cons]
    constructor
    · rintro ((h | ⟨h, h'⟩) | ⟨h, h'⟩)
      · exact .inl h
      · exact .inr ⟨.inl h, h'⟩
      · exact .inr ⟨.inr h, h'⟩
    · rintro (h | ⟨h | h, h'⟩)
      · exact .inl (.inl h)
      · exact .inl (.inr ⟨h, h'⟩)
      · exact .inr ⟨h, h'⟩

theorem orIf_lt {p : Nat → Bool} {n : Nat} : ∀ (L : List Nat) (i s : Nat), s < 2 ^ n → (∀ v ∈ L, v < n) → foldI (fun _ v s => if p v = true then s ||| 2 ^ v else s) L i s < 2 ^ n := by
  intro L
  induction L with
  | nil => intro i s h _; exact h
  | cons v L ih =>
    intro i s h hv
    simp only [foldI]
    refine ih _ _ ?_ fun w hw => hv w (List.mem_cons_of_mem _ hw)
    split
    · exact Nat.or_lt_two_pow h (Nat.pow_lt_pow_right (by omega) (hv v List.mem_cons_self))
    · exact h

theorem rch_ltn {g : List Nat} {W v : Nat} (hg : GrB g) (hv : v < g.length) (hW : W < 2 ^ g.length) : rch g W v < 2 ^ g.length := by
  have hlen := hg.len
  have hW' : W < 1024 := Nat.lt_of_lt_of_le hW hg.pow
  refine Nat.lt_pow_two_of_testBit _ fun i hi => ?_
  rw [Bool.eq_false_iff]
  intro h
  have hr := (rch_bit (by omega) hW').1 h
  cases hr with
  | base => omega
  | step _ _ hb => have := bit_lt hW hb; omega

theorem cut_calc {g : List Nat} {S v : Nat} (hg : GrB g) (hv : v < g.length) (hS : S < 2 ^ g.length) : AM.andNot .i64 (rch g S v : Int) (AM.shl .i64 1 (v : Int)) = ((without (rch g S v) (2 ^ v) : Nat) : Int) := by
  have h1 := rch_lt g S v
  have hlen := hg.len
  have hv' : 2 ^ v < 2 ^ 10 := Nat.pow_lt_pow_right (by omega) (by omega)
  rw [shl1_nat (by omega), andNot_nat (by omega) (by omega)]

theorem s70 {tv : Value} {g : List Nat} {S : Nat} {h : H} (hg : GrB g) (hs : SlR h 3 1 tv (cellsN g)) (hS : S < 2 ^ g.length) : rn 70 #[tv, iv S] h = some (iv (cutsP g S : Nat), h) := by
  have hlen := hg.len
  have hS' : S < 1024 := Nat.lt_of_lt_of_le hS hg.pow
  obtain ⟨nv, h1, e76, x1w, hn⟩ := s76 hS' h
  have x1 := x1w.toExt
  have c76 := fun (K : Value → H → Option (Value × H)) => calls_eq (K := K) (xs := [iv S]) e76
  have hnn : ∀ {T : Type} (K : Int → Option T), len nv K = K ((elts S).length : Int) := fun K => by rw [hn.len]; simp
  have hpl : (elts S).length ≤ 10 := by rw [elts_len]; exact pop_le_n (Nat.le_refl 10) hS'
  have hl := lp_same (σ := Nat) (ρ := Empty) (F := f70_l1 rn 200 tv S nv (elts S).length) (k := 200) (l := elts S) (h := h1) (fun i s => [iv s, iv i])
    (fun _ v s => .inl (if cutQ g S v = true then s ||| 2 ^ v else s)) (fun _ s => s < 1024) (fun _ => .ret) (fun _ => []) 0 (fun s => [iv s, iv (elts S).length]) (ws := [iv 0, iv 0]) (s0 := 0) rfl (by decide) (by omega) (by simp)
    (fun _ _ => by simp [f70_l1])
    (by
      intro i v s hx hI
      have hi := (List.getElem?_eq_some_iff.1 hx).1
      have hv : v < g.length := bit_lt hS ((mem_elts hS').1 (List.mem_of_getElem? hx))
      have hv' : 2 ^ v < 2 ^ 10 := Nat.pow_lt_pow_right (by omega) (by omega)
      refine ⟨fun s' hs' => by cases hs'; split; exact Nat.or_lt_two_pow (n := 10) hI hv'; exact hI, ?_⟩
      have e1 : ∀ (K : Value → Option (Ex × List Value × H)), (six nv (i : Int) 1 fun b o => (h1.cell b o).bind K) = K (iv v) := fun K => hn.c0 (by omega) (x := [iv v]) (by simp [hx]) rfl K
      have c78 := fun (K : Value → H → Option (Ex × List Value × H)) => calls_eq (K := K) (xs := [tv, iv v, iv S]) (s78 hg (hs.ext x1) hv hS)
      have c64 := fun (K : Value → H → Option (Ex × List Value × H)) => calls_eq (K := K) (xs := [tv, iv (without (rch g S v) (2 ^ v) : Nat)]) (s64 hg (hs.ext x1) (without_le _ _ (rch_ltn hg hv hS)))
      have hadd : add .i64 (i : Int) 1 = (i : Int) + 1 := add64 (by omega) (by omega)
      have hor : AM.or .i64 (s : Int) (AM.shl .i64 1 (v : Int)) = ((s ||| 2 ^ v : Nat) : Int) := by rw [shl1_nat (by omega), or_nat (by omega) (by omega)]
      have hcalc := cut_calc hg hv hS
      unfold cutQ
      cases hq : connS g (without (rch g S v) (2 ^ v)) with
      | true => simp [f70_l1, hi, e1, c78, nn_ge (show (0 : Int) ≤ (v : Int) by omega), hcalc, c64, hq, hadd, rnd]
      | false => simp [f70_l1, hi, e1, c78, nn_ge (show (0 : Int) ≤ (v : Int) by omega), hcalc, c64, hq, hadd, hor, rnd])
  rw [itL_inl (fun _ v s => if cutQ g S v = true then s ||| 2 ^ v else s)] at hl
  have he : foldI (fun _ v s => if cutQ g S v = true then s ||| 2 ^ v else s) (elts S) 0 0 = cutsP g S := by
    refine set_ext (n := 10) (orIf_lt (n := 10) _ _ _ (by decide) fun v hv => by have := bit_lt hS ((mem_elts hS').1 hv); omega) (cutsP_lt g S) fun i _ => ?_
    rw [Bool.eq_iff_iff, orIf_bit, cutsP_bit hS', mem_elts hS']
    simp
  rw [he] at hl
  refine p70 (k := 200) (h1 := h1) ?_ rfl x1
  unfold f70
  rw [c76, hnn]
  refine (lp_eq hl.1).trans ?_
  rfl

end Go.AM

end

section

/- A town without an edge: the program's, and the document's. -/
namespace Go.AM
open Go.Proofs
variable {R : Type}
attribute [local simp] nx_eq nx_new nx_set blk_new blk_set asI_int asK_int asB_bool asP_ptr al_eq bx_eq len_slice onE_exit onE_ret onR_ret Value.cells d3 d22 d23 d32 d78 w3 cell_new cell_set rd_new rd_set off eq lt le ifB gv out ext20 ext21
/-- An empty literal that is appended to: no row is written. -/
theorem app_lit_wr {P : Program} {h : H} {e t t' : TypeId} {s b : Nat} {y : Value} {ys : List (List Value)} (ht : okApp P t e s = true) (ht' : okApp P t' e s = true) (hy : SlR h e s y ys) (hm : ys.length < 2 ^ 30) :
    AM.app P h t t' (.slice (some ⟨b, 0, none⟩) 0 0) y (fun _ g => some g.wr) = some h.wr := by
  obtain ⟨i, z, h1, h2, h3, h4, h5, h6, h7⟩ := okApp_spec ht
  obtain ⟨_, _, h1', _⟩ := okApp_spec ht'
  have hsrc := hy.srcAll h6
  have hlen := hy.lenOf
  have h30 : (2:Nat) ^ 30 < U := by decide
  have hc0 : capK 0 = 0 := rfl
  unfold AM.app append
  simp only [h1, h1', h2, h3, hlen, h4, hsrc, Option.bind_some, hc0]
  rw [if_pos ⟨h5, h6, h7⟩]
  by_cases h0 : ys.length = 0
  · rw [if_pos h0]; rfl
  · rw [if_neg h0, if_neg (by omega), if_pos (by omega), if_pos (by omega)]
    rfl

theorem cellsN_scal (g : List Nat) : (cellsN g).flatten.all scal = true := by
  rw [List.all_eq_true]
  intro x hx
  obtain ⟨y, hy, hxy⟩ := List.mem_flatten.1 hx
  obtain ⟨n, _, rfl⟩ := List.mem_map.1 hy
  simp at hxy
  subst hxy
  rfl

/-- A copy by a literal and an append: it owns its row. -/
theorem copy_ia {P : Program} {h : H} {t : TypeId} {y : Value} {g : List Nat} (ht : okApp P t 3 1 = true) (hb : ∀ h : H, buildSlice P t 0 [] h = some (.slice (some ⟨h.nx, 0, none⟩) 0 0, h.new (.row [] 3 true))) (hy : SlR h 3 1 y (cellsN g)) (hg : g ≠ []) (hm : g.length < 1000) :
    ∃ v' h' b, (∀ {T : Type} (K : Value → H → Option T), (bls P h t 0 [] fun v1 h1 => AM.app P h1 t t v1 y K) = K v' h') ∧ Ext h h' ∧ h.nx ≤ b ∧ IA h' b v' (g.map Int.ofNat) ∧ h'.wr = h.wr := by
  have x1 := Ext.new h (.row [] 3 true)
  have hlit : AqR h.nx (h.new (.row [] 3 true)) 3 1 (.slice (some ⟨h.nx, 0, none⟩) 0 0) [] := AqR.lit (l := []) (Nat.le_refl _) rfl (by simp) (by simp)
  obtain ⟨v', h', e, a, n, k, _⟩ := hlit.app ht ht (hy.ext x1) (cellsN_scal g) (by simp; omega) (by rw [nx_new]; omega)
  have hw := app_lit_wr (P := P) (b := h.nx) ht ht (hy.ext x1) (by simp; omega)
  rw [e] at hw
  rw [List.nil_append, ← cellsN_eq] at a
  obtain ⟨b, hb1, _, hia⟩ := a.ia (by simpa using hg)
  refine ⟨v', h', b, fun K => ?_, ⟨by rw [nx_new] at n; omega, fun q hq => ?_⟩, hb1, hia, by simpa [H.new] using hw⟩
  · rw [bls_some (hb h)]; exact e K
  · rw [k q (by rw [nx_new]; omega) (fun e => by cases e; omega)]
    exact x1.blk q hq

/-- A graph without an edge. -/
def delE (g : List Nat) (a b : Nat) : List Nat := (g.set a (without (nb g a) (2 ^ b))).set b (without (nb g b) (2 ^ a))

theorem delE_len (g : List Nat) (a b : Nat) : (delE g a b).length = g.length := by simp [delE]

theorem nb_set {g : List Nat} {a x i : Nat} (ha : a < g.length) : nb (g.set a x) i = if i = a then x else nb g i := by
  unfold nb
  rw [List.getD_eq_getElem?_getD, List.getD_eq_getElem?_getD, List.getElem?_set]
  by_cases h : a = i
  · subst h; simp [ha]
  · rw [if_neg h, if_neg (fun e => h e.symm)]

theorem adj_delE {g : List Nat} {a b u v : Nat} (ha : a < g.length) (hb : b < g.length) (hab : a ≠ b) : adj (delE g a b) u v = (adj g u v && !(decide (u = a ∧ v = b) || decide (u = b ∧ v = a))) := by
  unfold adj delE
  rw [nb_set (by simpa using hb), nb_set ha]
  by_cases h1 : u = b
  · subst h1
    rw [if_pos rfl, testBit_without, Nat.testBit_two_pow]
    have : ¬ u = a := fun e => hab e.symm
    simp [this, eq_comm]
  · rw [if_neg h1]
    by_cases h2 : u = a
    · subst h2
      rw [if_pos rfl, testBit_without, Nat.testBit_two_pow]
      simp [h1, eq_comm]
    · rw [if_neg h2]
      simp [h1, h2]

theorem GrB.delE {g : List Nat} (hg : GrB g) (a b : Nat) : GrB (delE g a b) := by
  refine ⟨by rw [delE_len]; exact hg.len, fun x hx => ?_⟩
  rw [delE_len]
  unfold AM.delE at hx
  rcases List.mem_or_eq_of_mem_set hx with h | rfl
  · rcases List.mem_or_eq_of_mem_set h with h | rfl
    · exact hg.lt x h
    · exact without_le _ _ (hg.nb_lt a)
  · exact without_le _ _ (hg.nb_lt b)

theorem del1_calc {g : List Nat} (hg : GrB g) {a b : Nat} (hb : b < g.length) : AM.andNot .i64 (nb g a : Int) (AM.shl .i64 1 (b : Int)) = ((without (nb g a) (2 ^ b) : Nat) : Int) := by
  have h1 := hg.nb_lt a
  have h2 := hg.pow
  have hlen := hg.len
  have hv' : 2 ^ b < 2 ^ 10 := Nat.pow_lt_pow_right (by omega) (by omega)
  rw [shl1_nat (by omega), andNot_nat (by omega) (by omega)]

end Go.AM

end

section

/- Bridges: the program's and the document's. -/
namespace Go.AM
open Go.Proofs
variable {R : Type}
attribute [local simp] nx_eq nx_new nx_set blk_new blk_set asI_int asK_int asB_bool asP_ptr al_eq bx_eq len_slice onE_exit onE_ret onR_ret Value.cells d3 d22 d23 d32 d78 w3 w32 cell_new cell_set rd_new rd_set off eq lt le ifB gv out ext20 ext21
/-! ### Two numbers of a row that is owned are turned -/
theorem nb_get {g : List Nat} {i : Nat} (hi : i < g.length) : (g.map Int.ofNat)[i]? = some ((nb g i : Nat) : Int) := by
  unfold nb
  rw [List.getElem?_map, List.getD_eq_getElem?_getD, List.getElem?_eq_getElem hi]
  rfl

theorem set_nat {g : List Nat} {i x : Nat} : (g.map Int.ofNat).set i (x : Int) = (g.set i x).map Int.ofNat := by
  rw [List.map_set]; rfl

/-- The two stores that take an edge away. -/
theorem del_stores {h : H} {bb : Nat} {sv : Value} {g : List Nat} {a b : Nat} (hg : GrB g) (ha : a < g.length) (hb : b < g.length) (hab : a ≠ b) (hia : IA h bb sv (g.map Int.ofNat)) :
    ∃ h', (∀ {T : Type} (K : H → Option T), (six sv (a : Int) 1 fun b0 b1 => (h.cell b0 b1).bind fun v3 => asI .i64 v3 fun n2 => nn (b : Int) (six sv (a : Int) 1 fun b2 b3 =>
        (wrc 1 h b2 b3 (.int .i64 (andNot .i64 n2 (shl .i64 1 b)))).bind fun h3 => six sv (b : Int) 1 fun b4 b5 => (h3.cell b4 b5).bind fun v4 => asI .i64 v4 fun n3 => nn (a : Int) (six sv (b : Int) 1 fun b6 b7 =>
          (wrc 1 h3 b6 b7 (.int .i64 (andNot .i64 n3 (shl .i64 1 a)))).bind K))) = K h') ∧
      IA h' bb sv ((delE g a b).map Int.ofNat) ∧ h'.nx = h.nx ∧ ∀ q, q ≠ bb → h'.blk q = h.blk q := by
  have h1 := hia.set a ((without (nb g a) (2 ^ b) : Nat) : Int)
  rw [set_nat] at h1
  have hnb : nb (g.set a (without (nb g a) (2 ^ b))) b = nb g b := by rw [nb_set ha, if_neg (fun e => hab e.symm)]
  have h2 := h1.set b ((without (nb g b) (2 ^ a) : Nat) : Int)
  rw [set_nat] at h2
  refine ⟨_, fun K => ?_, h2, rfl, fun q hq => ?_⟩
  · rw [hia.get (by omega) (x := (nb g a : Nat)) (by rw [Int.toNat_natCast]; exact nb_get ha), asI_int, nn_ge (by omega), hia.put (by omega) (by simpa using ha), del1_calc hg hb]
    simp only [Int.toNat_natCast]
    rw [hia.wrc (i := a) (by simpa using ha), set_nat, Option.bind_some,
      h1.get (by omega) (x := (nb g b : Nat)) (by rw [Int.toNat_natCast, nb_get (by simpa using hb), hnb]), asI_int, nn_ge (by omega), h1.put (by omega) (by simpa using hb), del1_calc hg ha]
    simp only [Int.toNat_natCast]
    rw [h1.wrc (i := b) (by simpa using hb), set_nat, Option.bind_some]
  · rw [blk_set_ne _ _ _ hq, blk_set_ne _ _ _ hq]

theorem IA.slN {h : H} {bb : Nat} {sv : Value} {g : List Nat} (hia : IA h bb sv (g.map Int.ofNat)) : SlR h 3 1 sv (cellsN g) := by
  have := hia.slR
  rwa [show ((g.map Int.ofNat).map fun z => [iv z]) = cellsN g from cellsN_eq g] at this

/-- The document's graph without an edge. -/
theorem s73 {tv : Value} {g : List Nat} {a b : Nat} {h : H} (hg : GrB g) (ha : a < g.length) (hb : b < g.length) (hab : a ≠ b) (hs : SlR h 3 1 tv (cellsN g)) :
    ∃ v' h', rn 73 #[tv, iv a, iv b] h = some (v', h') ∧ Exw h h' ∧ SlR h' 3 1 v' (cellsN (delE g a b)) := by
  have hlen := hg.len
  obtain ⟨v1, h1, bb, e1, x1, hbb, hia, _⟩ := copy_ia (P := Tryd.prog) (t := 23) (g := g) app23 bls23e hs (by rintro rfl; simp at ha) (by omega)
  obtain ⟨h2, e2, hia2, n2, k2⟩ := del_stores hg ha hb hab hia
  have x2 : Ext h h2 := ⟨by have := x1.nx; omega, fun q hq => by rw [k2 q (by omega)]; exact x1.blk q hq⟩
  obtain ⟨h3, e3, m3, w3'⟩ := x73 (k := 0) (v0 := tv) (n0 := a) (n1 := b) (h := h) (h1 := h2) (v := v1) (by
    unfold f73
    rw [e1]
    simp only [d3, w3]
    exact e2 _) (by obtain ⟨c, hc, _⟩ := hia.val; rw [hc]; rfl)
  exact ⟨v1, h3, e3, w3' x2, hia2.slN.ext m3.ext⟩

theorem s85 {P : Prop} {tv : Value} {g : List Nat} {h : H} (hg : GrB g) (h0 : g ≠ []) (hs : SlR h 3 1 tv (cellsN g)) (k : ∀ v' h' bb, rn 85 #[tv] h = some (v', h') → Exw h h' → h.nx ≤ bb → IA h' bb v' (g.map Int.ofNat) → P) : P := by
  have hlen := hg.len
  obtain ⟨v1, h1, bb, e1, x1, hbb, hia, _⟩ := copy_ia (P := Tryd.prog) (t := 78) (g := g) app78 bls78e hs h0 (by omega)
  obtain ⟨h3, e3, m3, w3'⟩ := x85 (k := 0) (v0 := tv) (h := h) (h1 := h1) (v := v1) (by
    unfold f85 eqv
    have hne : cellsN g ≠ [] := by simpa using h0
    generalize cellsN g = L at hs hne
    cases hs with
    | nil => exact absurd rfl hne
    | @at_ b o c cs own l hb hr hk hc hl hx =>
      rw [some78]
      simp only [ifB_false]
      exact e1 _) (by obtain ⟨c, hc, _⟩ := hia.val; rw [hc]; rfl)
  exact k v1 h3 bb e3 (w3' x1) hbb (hia.ext m3.ext)

/-- The program's town without an edge. -/
theorem s87 {tv : Value} {g : List Nat} {a b : Nat} {h : H} (hg : GrB g) (ha : a < g.length) (hb : b < g.length) (hab : a ≠ b) (hs : SlR h 3 1 tv (cellsN g)) :
    ∃ v' h', rn 87 #[tv, .agg #[iv a, iv b]] h = some (v', h') ∧ Exw h h' ∧ ∃ bb, h.nx ≤ bb ∧ IA h' bb v' ((delE g a b).map Int.ofNat) := by
  have hlen := hg.len
  have xb := Ext.new h (.row [iv a, iv b] 32 true)
  refine s85 hg (by rintro rfl; simp at ha) (hs.ext xb) fun v1 h1 bb e1 x1 hbb hia => ?_
  obtain ⟨h2, e2, hia2, n2, k2⟩ := del_stores hg ha hb hab hia
  rw [nx_new] at hbb
  have hq1 : h1.blk h.nx = some (.row [iv a, iv b] 32 true) := (x1.blk _ (by rw [nx_new]; omega)).trans (blk_new_self _ _)
  have x2 : Ext h h2 := ⟨by have := x1.nx; have := xb.nx; omega, fun q hq => by rw [k2 q (by omega)]; exact (xb.trans x1.toExt).blk q hq⟩
  have c85 := fun (K : Value → H → Option (Value × H)) => calls_eq (K := K) (xs := [tv]) e1
  obtain ⟨h3, e3, m3, w3'⟩ := x87 (k := 0) (v0 := tv) (v1 := .agg #[iv a, iv b]) (h := h) (h1 := h2) (v := v1) (by
    have := e2 (fun h4 => some (v1, h4))
    have h1' := hia.set a ((without (nb g a) (2 ^ b) : Nat) : Int)
    unfold f87
    rw [bx_eq, show (Value.agg #[iv (a : Int), iv (b : Int)]).cells.toList = [iv (a : Int), iv (b : Int)] from rfl, c85]
    rw [hia.get (by omega) (x := (nb g a : Nat)) (by rw [Int.toNat_natCast]; exact nb_get ha), asI_int, nn_ge (by omega), hia.put (by omega) (by simpa using ha), del1_calc hg hb] at this
    simp only [Int.toNat_natCast] at this
    rw [hia.wrc (i := a) (by simpa using ha), Option.bind_some] at this
    simp only [aix_in (show (0 : Int) ≤ 0 by omega) (show (0 : Int) < ((2 : Nat) : Int) by omega), aix_in (show (0 : Int) ≤ 1 by omega) (show (1 : Int) < ((2 : Nat) : Int) by omega), nx_eq, d3, at_, cell_of hq1]
    rw [show ([iv (a : Int), iv (b : Int)] : List Value)[0 + (0 : Int).toNat * 1]? = some (iv a) from rfl, Option.bind_some, asI_int,
      hia.get (by omega) (x := (nb g a : Nat)) (by rw [Int.toNat_natCast]; exact nb_get ha), asI_int]
    rw [show ([iv (a : Int), iv (b : Int)] : List Value)[0 + (1 : Int).toNat * 1]? = some (iv b) from rfl, Option.bind_some, asI_int, nn_ge (by omega),
      hia.put (by omega) (by simpa using ha), w3, del1_calc hg hb]
    simp only [Int.toNat_natCast]
    rw [hia.wrc (i := a) (by simpa using ha), Option.bind_some, cell_set, if_neg (by omega), cell_of hq1]
    rw [show ([iv (a : Int), iv (b : Int)] : List Value)[0 + (1 : Int).toNat * 1]? = some (iv b) from rfl, Option.bind_some, asI_int]
    rw [show (h1.set bb (.row (((g.map Int.ofNat).set a ((without (nb g a) (2 ^ b) : Nat) : Int)).map iv) 3 true)).cell h.nx (0 + (0 : Int).toNat * 1) = some (iv (a : Int)) by rw [cell_set, if_neg (by omega), cell_of hq1]; rfl]
    simp only [Option.bind_some, asI_int, w3]
    exact this) (by obtain ⟨c, hc, _⟩ := hia.val; rw [hc]; rfl)
  exact ⟨v1, h3, e3, w3' x2, bb, by omega, hia2.ext m3.ext⟩

/-! ### Bridges -/
/-- Does a way lead from one end of an edge to the other one without it? -/
noncomputable def roundQ (g : List Nat) (a b : Nat) : Bool := (rch (delE g a b) (allN g) a).testBit b

noncomputable def bridgesP (g : List Nat) : List (Nat × Nat) := (edgesP g).filter fun e => !roundQ g e.1 e.2

theorem allN_delE (g : List Nat) (a b : Nat) : allN (delE g a b) = allN g := by unfold allN; rw [delE_len]

/-- Edges lead from a number to a greater one. -/
theorem mem_edges {g : List Nat} {e : Nat × Nat} : e ∈ edgesP g ↔ e.1 < e.2 ∧ e.2 < g.length ∧ adj g e.1 e.2 = true := by
  have key : ∀ (l : List Nat) (i : Nat) (s : List (Nat × Nat)), e ∈ foldI (fun _ a acc => edgeRow g a acc) l i s ↔ e ∈ s ∨ (e.1 ∈ l ∧ e.1 < e.2 ∧ e.2 < g.length ∧ adj g e.1 e.2 = true) := by
    intro l
    induction l with
    | nil => intro i s; simp [foldI]
    | cons a l ih =>
      intro i s
      simp only [foldI]
      rw [ih, edgeRow_eq, List.mem_append, List.mem_map]
      constructor
      · rintro ((h | ⟨j, hj, rfl⟩) | h)
        · exact .inl h
        · rw [List.mem_filter, List.mem_range] at hj
          exact .inr ⟨List.mem_cons_self, by simp only; omega, by simp only; omega, hj.2⟩
        · exact .inr ⟨List.mem_cons_of_mem _ h.1, h.2⟩
      · rintro (h | ⟨h1, h2, h3, h4⟩)
        · exact .inl (.inl h)
        · rcases List.mem_cons.1 h1 with h5 | h5
          · refine .inl (.inr ⟨e.2 - a - 1, ?_, Prod.ext h5.symm (by simp only; omega)⟩)
            rw [List.mem_filter, List.mem_range]
            refine ⟨by omega, ?_⟩
            rw [show a + 1 + (e.2 - a - 1) = e.2 by omega, ← h5]
            exact h4
          · exact .inr ⟨h5, h2, h3, h4⟩
  unfold edgesP
  rw [key]
  constructor
  · rintro (h | h)
    · simp at h
    · exact h.2
  · intro h
    exact .inr ⟨List.mem_range.2 (by omega), h⟩

theorem edges_len (g : List Nat) (hg : GrB g) : (edgesP g).length ≤ 100 := by
  have hlen := hg.len
  have key : ∀ (l : List Nat) (i : Nat) (s : List (Nat × Nat)), (foldI (fun _ a acc => edgeRow g a acc) l i s).length ≤ s.length + 10 * l.length := by
    intro l
    induction l with
    | nil => intro i s; simp [foldI]
    | cons a l ih =>
      intro i s
      simp only [foldI, List.length_cons]
      have h1 := ih (i + 1) (edgeRow g a s)
      have h2 := edgeRow_len (g := g) (a := a) (acc := s)
      omega
  have := key (List.range g.length) 0 []
  unfold edgesP
  simp at this
  omega

theorem round_bit {g : List Nat} {a b : Nat} (hb : b < 11) : AM.and .i64 (shr .i64 (rch (delE g a b) (allN g) a : Int) (b : Int)) 1 = if roundQ g a b then 1 else 0 := by
  have := rch_lt (delE g a b) (allN g) a
  exact bit_nat (by omega) (by omega)

/-- The document's test. -/
theorem s72 {tv : Value} {g : List Nat} {a b : Nat} {h : H} (hg : GrB g) (ha : a < g.length) (hb : b < g.length) (hs : SlR h 3 1 tv (cellsN (delE g a b))) : rn 72 #[tv, iv (allN g : Nat), iv a, iv b] h = some (.bool (roundQ g a b), h) := by
  have hlen := hg.len
  have c33 := fun (K : Value → H → Option (Value × H)) => calls_eq (K := K) (xs := [tv, iv (allN g : Nat), iv a]) (s33 (hg.delE a b) hs (by rw [delE_len]; exact ha) (by rw [delE_len]; exact allN_lt g))
  have hbit := round_bit (g := g) (a := a) (b := b) (by omega)
  refine p72 (k := 0) (h1 := h) ?_ rfl (.refl _)
  unfold f72
  rw [c33, asI_int, nn_ge (by omega), hbit]
  cases roundQ g a b <;> rfl

set_option maxHeartbeats 1000000 in
/-- The document's bridges. -/
theorem s25 {tv : Value} {g : List Nat} {h : H} (hg : GrB g) (hs : SlR h 3 1 tv (cellsN g)) :
    ∃ v' h', rn 25 #[tv] h = some (v', h') ∧ Exw h h' ∧ SlR h' 32 2 v' (cellsP (bridgesP g)) := by
  have hlen := hg.len
  obtain ⟨ev, h1, e71, x1, hev⟩ := s71 hg hs
  have hel := edges_len g hg
  have hn : ∀ {T : Type} (K : Int → Option T), len ev K = K ((edgesP g).length : Int) := fun K => by rw [hev.len]; simp
  obtain ⟨ws', h', hl, xg, hll, sv', hap', rfl⟩ := lp_for (F := f25_l1 rn 200 tv ev (edgesP g).length) (k := 200) (l := edgesP g) (fun _ e acc => if (!roundQ g e.1 e.2) = true then acc ++ [e] else acc)
    (fun i acc' ws h' => Ext h1 h' ∧ acc'.length ≤ i ∧ ∃ sv, AqR h1.nx h' 32 2 sv (cellsP acc') ∧ ws = [sv, iv i]) 0 (ws := [.slice none 0 0, iv 0]) (h := h1) (s0 := [])
    ⟨.refl _, by simp, _, .nil, rfl⟩ (by omega)
    (by
      rintro acc' ws h' ⟨_, _, sv, _, rfl⟩
      simp [f25_l1])
    (by
      rintro i e acc' ws h2 hx ⟨x2, hal, sv, hap1, rfl⟩
      have hi := (List.getElem?_eq_some_iff.1 hx).1
      obtain ⟨hlt1, hlt2, hadj⟩ := mem_edges.1 (List.mem_of_getElem? hx)
      have hadd : add .i64 (i : Int) 1 = (i : Int) + 1 := add64 (by omega) (by omega)
      have hs2 := hs.ext (x1.toExt.trans x2)
      let h4 := (h2.new (.row [iv e.1, iv e.2] 32 true))
      obtain ⟨h3, hh3⟩ : ∃ h3, h3 = (h2.new (.row [.int .i64 0, .int .i64 0] 32 true)).set h2.nx (.row [iv e.1, iv e.2] 32 true) := ⟨_, rfl⟩
      have hb3 : h3.blk h2.nx = some (.row [iv e.1, iv e.2] 32 true) := by rw [hh3]; exact blk_set_self _ _ _
      have hn3 : h3.nx = h2.nx + 1 := by rw [hh3]; rfl
      have x3 : Ext h2 h3 := by rw [hh3]; exact ((Ext.refl h2).new' _).set (Nat.le_refl _) _
      obtain ⟨wv, h5, e73, x5, hwv⟩ := s73 (a := e.1) (b := e.2) hg (by omega) hlt2 (by omega) (hs2.ext x3)
      have c73 := fun (K : Value → H → Option (Ex × List Value × H)) => calls_eq (K := K) (xs := [tv, iv e.1, iv e.2]) e73
      have c68 := fun (K : Value → H → Option (Ex × List Value × H)) => calls_eq (K := K) (xs := [tv]) (s68 hg ((hs2.ext x3).ext x5.toExt))
      have c72 := fun (K : Value → H → Option (Ex × List Value × H)) => calls_eq (K := K) (xs := [wv, iv (allN g : Nat), iv e.1, iv e.2]) (s72 hg (by omega) hlt2 hwv)
      have hb5 : h5.blk h2.nx = some (.row [iv e.1, iv e.2] 32 true) := (x5.blk _ (by omega)).trans hb3
      have hsame : same h5 h3 = true := by simp [same, x5.wr]
      have hlt5 : h2.nx < h5.nx := by have := x5.nx; omega
      have e1 : ∀ (K : Value → Option (Ex × List Value × H)), (six ev (i : Int) 2 fun b o => ld Tryd.prog h2 32 b o K) = K (.agg #[iv e.1, iv e.2]) := fun K =>
        (hev.ext x2).ldA ag32 sz32 (by omega) (x := [iv e.1, iv e.2]) (by simp [hx]) K
      have w2 : ∀ (K : H → Option (Ex × List Value × H)), (wrc 2 (h2.new (.row [.int .i64 0, .int .i64 0] 32 true)) h2.nx 0 (.agg #[iv e.1, iv e.2])).bind K = K h3 := fun K => by
        rw [hh3]
        unfold wrc
        rw [blk_new_self]
        rfl
      have start : f25_l1 rn 200 tv ev (edgesP g).length [sv, iv i] h2 = if (!roundQ g e.1 e.2) = true then
          (bls Tryd.prog h5 24 1 [(0, .agg #[iv e.1, iv e.2])] fun v11 h8 => app Tryd.prog h8 24 24 sv v11 fun v12 h9 => AM.out .normal [v12, iv ((i : Int) + 1)] h9) else
          some (.normal, [sv, iv ((i : Int) + 1)], h5) := by
        unfold f25_l1
        rw [show AM.gv [sv, iv i] 1 = iv i from rfl, show AM.gv [sv, iv i] 0 = sv from rfl, asI_int, lt_t (by omega), ifB_true, asK_int]
        rw [e1, al_eq, w32, nx_eq, w2]
        simp only [aix_in (show (0 : Int) ≤ 0 by omega) (show (0 : Int) < ((2 : Nat) : Int) by omega), aix_in (show (0 : Int) ≤ 1 by omega) (show (1 : Int) < ((2 : Nat) : Int) by omega), nx_eq, d3, at_, cell_of hb3, cell_of hb5]
        rw [show ([iv (e.1 : Int), iv (e.2 : Int)] : List Value)[0 + (0 : Int).toNat * 1]? = some (iv e.1) from rfl, show ([iv (e.1 : Int), iv (e.2 : Int)] : List Value)[0 + (1 : Int).toNat * 1]? = some (iv e.2) from rfl]
        simp only [Option.bind_some, asI_int, c73, c68, cell_of hb5]
        rw [show ([iv (e.1 : Int), iv (e.2 : Int)] : List Value)[0 + (0 : Int).toNat * 1]? = some (iv e.1) from rfl, show ([iv (e.1 : Int), iv (e.2 : Int)] : List Value)[0 + (1 : Int).toNat * 1]? = some (iv e.2) from rfl]
        simp only [Option.bind_some, asI_int, freq, same_self, hsame, decide_eq_true hlt5, decide_eq_true (show h2.nx < h3.nx by omega), Bool.and_self, ck_true, c72, asB_bool, d32, show h5.rd h2.nx 0 2 = some [iv (e.1 : Int), iv (e.2 : Int)] from rd_all hb5 rfl, hadd]
        cases roundQ g e.1 e.2 with
        | true => simp
        | false => simp
      rw [start]
      by_cases hp : (!roundQ g e.1 e.2) = true
      · rw [if_pos hp, if_pos hp]
        have x25 := x3.trans x5.toExt
        obtain ⟨sv', h6, e2, a2, n2, k2, b2, hb2, hb2'⟩ := (hap1.ext x25).push app24 app24 (bls24 (e.1 : Int) (e.2 : Int)) rfl rfl (by rw [List.length_map]; omega) (x2.trans x25).nx
        rw [e2]
        refine ⟨_, _, rfl, ⟨by have := (x2.trans x25).nx; omega, fun b hb => ?_⟩, by simp; omega, sv', ?_, rfl⟩
        · rw [k2 b (by have := (x2.trans x25).nx; omega) (fun e => by have := ((hap1.ext x25).blkOf e).1; omega)]
          exact (x2.trans x25).blk b hb
        · have : cellsP (acc' ++ [e]) = cellsP acc' ++ [[iv (e.1 : Int), iv (e.2 : Int)]] := by simp
          rw [this]; exact a2
      · rw [if_neg hp, if_neg hp]
        have x25 := x3.trans x5.toExt
        exact ⟨_, _, rfl, x2.trans x25, by omega, sv, hap1.ext x25, rfl⟩)
  have hfil : foldI (fun _ e acc => if (!roundQ g e.1 e.2) = true then acc ++ [e] else acc) (edgesP g) 0 [] = bridgesP g := by
    have := foldI_filter (p := fun (e : Nat × Nat) => !roundQ g e.1 e.2) (f := fun e => e) (edgesP g) 0 []
    rw [List.map_id', List.nil_append] at this
    exact this
  rw [hfil] at hap'
  obtain ⟨h2, e2, m2, w2⟩ := x25 (k := 200) (v0 := tv) (h := h) (h1 := h') (v := sv') (by
    unfold f25
    rw [calls_eq (xs := [tv]) e71, hn]
    refine (lp_eq hl).trans ?_
    rfl) (by obtain ⟨x, y, z, hz⟩ := hap'.isSl; rw [hz]; rfl)
  exact ⟨sv', h2, e2, w2 (x1.toExt.trans xg), hap'.slR.ext m2.ext⟩

end Go.AM

end

section

/- The program's bridges: edges are deleted in place. -/
namespace Go.AM
open Go.Proofs
variable {R : Type}
attribute [local simp] nx_eq nx_new nx_set blk_new blk_set asI_int asK_int asB_bool asP_ptr al_eq bx_eq len_slice onE_exit onE_ret onR_ret Value.cells d3 d22 d23 d32 d78 w3 w32 cell_new cell_set rd_new rd_set off eq lt le ifB gv out ext20 ext21
theorem s24 {v : Value} {g : List Nat} {h : H} (hg : GrN g) (hval : validG (g.map Int.ofNat) = true) (hs : SlR h 3 1 v (cellsN g)) : rn 24 #[v] h = some (.tuple #[iv (cutsP g (allN g) : Nat), iv 0], h) := by
  have c63 := fun (K : Value → H → Option (Value × H)) => calls_eq (K := K) (xs := [v]) (s63 (l := g.map Int.ofNat) (h := h) (by rw [cellsN_eq]; exact hs))
  rw [if_pos hval] at c63
  have c65 := fun (K : Value → H → Option (Value × H)) => calls_eq (K := K) (xs := [v]) (s65 hg.toGrB hs)
  have c70 := fun (K : Value → H → Option (Value × H)) => calls_eq (K := K) (xs := [v, iv (allN g : Nat)]) (s70 hg.toGrB hs (allN_lt g))
  refine p24 (k := 0) (h1 := h) ?_ rfl (.refl _)
  simp [f24, c63, c65, c70]

theorem s24_bad {v : Value} {l : List Int} {h : H} (hval : validG l = false) (hs : SlR h 3 1 v (cellsI l)) : rn 24 #[v] h = some (.tuple #[iv 0, iv 2], h) := by
  have c63 := fun (K : Value → H → Option (Value × H)) => calls_eq (K := K) (xs := [v]) (s63 hs)
  rw [hval] at c63
  refine p24 (k := 0) (h1 := h) ?_ rfl (.refl _)
  simp [f24, c63]

end Go.AM

end

section

/- The staged forms of functions 44, 90, 46, 91, 107, 108, 43, 40, 45, 47, 92, 9, 10, and what calls of these answer. -/
namespace Go.AM
open Go.Proofs
noncomputable def f9 (rec : Rec) (_k : Nat) (v0 : Value) (h0 : H) : Option (Value × H) :=
  calls rec h0 18 [v0] fun v1 h1 =>
  calls rec h1 44 [v1] fun v2 h2 =>
  ext v2 0 fun v3 =>
  ext v2 1 fun v4 =>
  asI .i64 v4 fun n0 =>
  calls rec h2 18 [v0] fun v5 h3 =>
  calls rec h3 45 [v5] fun v6 h4 =>
  ext v6 0 fun v7 =>
  asB v7 fun q0 =>
  ext v6 1 fun v8 =>
  asI .i64 v8 fun n1 =>
  calls rec h4 19 [v0] fun v9 h5 =>
  asB v9 fun q1 =>
  ifB (not q1) (
    len v3 fun n2 =>
    ifB (eq n2 0) (
      ifB (not q0) (
        ifB (eq n0 2) (
          ifB (eq n1 2) (
            calls rec h5 20 [] fun v10 h6 =>
            asB v10 fun q2 =>
            some ((.bool q2), h6)) (
            some ((.bool false), h5))) (
          some ((.bool false), h5))) (
        some ((.bool false), h5))) (
      some ((.bool false), h5))) (
    calls rec h5 46 [v0] fun v11 h7 =>
    calls rec h7 40 [v3, v11] fun v12 h8 =>
    asB v12 fun q3 =>
    ifB q3 (
      calls rec h8 47 [v0] fun v13 h9 =>
      asB v13 fun q4 =>
      eqv Tryd.prog 4 (.bool q0) (.bool q4) fun q5 =>
      ifB q5 (
        ifB (eq n0 0) (
          ifB (eq n1 0) (
            calls rec h9 20 [] fun v14 h10 =>
            asB v14 fun q6 =>
            some ((.bool q6), h10)) (
            some ((.bool false), h9))) (
          some ((.bool false), h9))) (
        some ((.bool false), h9))) (
      some ((.bool false), h8)))

theorem e9 (rec : Rec) (k : Nat) (v0 : Value) (h : H) : bodyT Tryd.prog E0 SC (XC Tryd.prog rec k) 9 (Value × H) [.opq v0] h (fun v h => some (v, h)) = f9 rec k v0 h := by kernel_rfl

theorem t9 {k : Nat} {v0 : Value} {h h1 : H} {v : Value} (hh : f9 rn k v0 h = some (v, h1)) : rn 9 #[v0] h = some (v, trunc Tryd.prog h h1 v) :=
  run_of_bodyT (args := [.opq v0]) rfl ((e9 _ _ _ _).trans hh)

theorem x9 {k : Nat} {v0 : Value} {h h1 : H} {v : Value} (hh : f9 rn k v0 h = some (v, h1)) (hp : plainO v = false) : ∃ h2, rn 9 #[v0] h = some (v, h2) ∧ Sm h1 h2 ∧ (Ext h h1 → Exw h h2) := trunc_cell hp (t9 hh)

noncomputable def f10_l2 (rec : Rec) (_k : Nat) (v0 : Value) (n5 : Int) (n6 : Int) (ws1 : List Value) (h7 : H) : Option (Ex × List Value × H) :=
  asI .i64 (gv ws1 1) fun n7 =>
  ifB (lt n7 n6) (
    asK (gv ws1 1) fun n8 =>
    six v0 n8 1 fun b2 b3 =>
    ld Tryd.prog h7 3 b2 b3 fun v11 =>
    asI .i64 v11 fun n9 =>
    asK (gv ws1 1) fun n10 =>
    nn n10 (
      ifB (eq (and .i64 (shr .i64 n5 n10) 1) 1) (
        calls rec h7 43 [(.int .i64 (and .i64 n9 n5))] fun v12 h8 =>
        asI .i64 v12 fun n11 =>
        asI .i64 (gv ws1 0) fun n12 =>
        asI .i64 (gv ws1 1) fun n13 =>
        out .normal [(.int .i64 (add .i64 n12 n11)), (.int .i64 (add .i64 n13 1))] h8) (
        asI .i64 (gv ws1 1) fun n14 =>
        out .normal [gv ws1 0, (.int .i64 (add .i64 n14 1))] h7))) (
    out (.exit 2) [gv ws1 0, gv ws1 1] h7)

noncomputable def f10_l1 (rec : Rec) (k : Nat) (v0 : Value) (v7 : Value) (n2 : Int) (ws0 : List Value) (h6 : H) : Option (Ex × List Value × H) :=
  asI .i64 (gv ws0 1) fun n3 =>
  ifB (lt n3 n2) (
    asK (gv ws0 1) fun n4 =>
    six v7 n4 1 fun b0 b1 =>
    ld Tryd.prog h6 3 b0 b1 fun v10 =>
    asI .i64 v10 fun n5 =>
    len v0 fun n6 =>
    lp k (f10_l2 rec k v0 n5 n6) [(.int .i64 0), (.int .i64 0)] h6 fun e0 ws2 h9 =>
    onE e0 2 (
      asB (gv ws0 0) fun q2 =>
      ifB q2 (
        asI .i64 (gv ws2 0) fun n15 =>
        nz 2 (
          calls rec h9 43 [(.int .i64 n5)] fun v13 h10 =>
          asI .i64 v13 fun n16 =>
          ifB (eq (quo .i64 n15 2) n16) (
            asI .i64 (gv ws0 1) fun n17 =>
            out .normal [(.bool true), (.int .i64 (add .i64 n17 1))] h10) (
            calls rec h10 43 [(.int .i64 n5)] fun v14 h11 =>
            asI .i64 v14 fun n18 =>
            asI .i64 (gv ws0 1) fun n19 =>
            out .normal [(.bool (le n18 2)), (.int .i64 (add .i64 n19 1))] h11))) (
        asI .i64 (gv ws0 1) fun n20 =>
        out .normal [(.bool false), (.int .i64 (add .i64 n20 1))] h9)) (
      none)) (
    out (.exit 0) [gv ws0 0, gv ws0 1] h6)

noncomputable def f10 (rec : Rec) (k : Nat) (v0 : Value) (h0 : H) : Option (Value × H) :=
  calls rec h0 18 [v0] fun v1 h1 =>
  calls rec h1 45 [v1] fun v2 h2 =>
  ext v2 0 fun v3 =>
  asB v3 fun q0 =>
  ext v2 1 fun v4 =>
  asI .i64 v4 fun n0 =>
  calls rec h2 18 [v0] fun v5 h3 =>
  calls rec h3 44 [v5] fun v6 h4 =>
  ext v6 0 fun v7 =>
  ext v6 1 fun v8 =>
  asI .i64 v8 fun n1 =>
  ifB (not (eq n0 0)) (
    ifB (eq n0 2) (
      ifB (eq n1 2) (
        calls rec h4 20 [] fun v9 h5 =>
        asB v9 fun q1 =>
        some ((.bool q1), h5)) (
        some ((.bool false), h4))) (
      some ((.bool false), h4))) (
    len v7 fun n2 =>
    lp k (f10_l1 rec k v0 v7 n2) [(.bool true), (.int .i64 0)] h4 fun e1 ws3 h12 =>
    onE e1 0 (
      ifB (eq n1 0) (
        eqv Tryd.prog 4 (.bool q0) (gv ws3 0) fun q3 =>
        ifB q3 (
          calls rec h12 20 [] fun v15 h13 =>
          asB v15 fun q4 =>
          some ((.bool q4), h13)) (
          some ((.bool false), h12))) (
        some ((.bool false), h12))) (
      none))

theorem e10 (rec : Rec) (k : Nat) (v0 : Value) (h : H) : bodyT Tryd.prog E0 SC (XC Tryd.prog rec k) 10 (Value × H) [.opq v0] h (fun v h => some (v, h)) = f10 rec k v0 h := by kernel_rfl

theorem t10 {k : Nat} {v0 : Value} {h h1 : H} {v : Value} (hh : f10 rn k v0 h = some (v, h1)) : rn 10 #[v0] h = some (v, trunc Tryd.prog h h1 v) :=
  run_of_bodyT (args := [.opq v0]) rfl ((e10 _ _ _ _).trans hh)

theorem x10 {k : Nat} {v0 : Value} {h h1 : H} {v : Value} (hh : f10 rn k v0 h = some (v, h1)) (hp : plainO v = false) : ∃ h2, rn 10 #[v0] h = some (v, h2) ∧ Sm h1 h2 ∧ (Ext h h1 → Exw h h2) := trunc_cell hp (t10 hh)

end Go.AM

end

section

/- Blocks, the walk. -/
namespace Go.AM
open Go.Proofs
variable {R : Type}
attribute [local simp] nx_eq nx_new nx_set blk_new blk_set asI_int asK_int asB_bool asP_ptr al_eq bx_eq len_slice onE_exit onE_ret onR_ret Value.cells d3 d22 d23 d32 d78 w3 w32 cell_new cell_set rd_new rd_set off eq lt le ifB gv out ext20 ext21
/-! ### The program's blocks -/
/-- A lone node, or a set of more that is connected without a cut node. -/
noncomputable def cand2 (g : List Nat) (S : Nat) : Bool := decide (1 < pop S) && connS g S && decide (cutsP g S = 0)

end Go.AM

end

section

/- PLAIN: connected sets, sets without cut nodes, how many ends of edges there are. -/
namespace Go.AM
open Go.Proofs
/-! ### Reaching -/
theorem Rch.trans {g : List Nat} {W a b c : Nat} (h1 : Rch g W a b) (h2 : Rch g W b c) : Rch g W a c := by
  induction h2 with
  | base => exact h1
  | step _ hab hb ih => exact .step ih hab hb

theorem Rch.mem {g : List Nat} {W a b : Nat} (h : Rch g W a b) (ha : W.testBit a = true) : W.testBit b = true := by
  cases h with
  | base => exact ha
  | step _ _ hb => exact hb

theorem Rch.one {g : List Nat} {W a b : Nat} (h : adj g a b = true) (hb : W.testBit b = true) : Rch g W a b := .step .base h hb

theorem Rch.sym {g : List Nat} (hs : ∀ a b, adj g a b = adj g b a) {W a b : Nat} (h : Rch g W a b) (ha : W.testBit a = true) : Rch g W b a := by
  induction h with
  | base => exact .base
  | @step x y hx hxy hy ih => exact (Rch.one (by rw [hs]; exact hxy) (hx.mem ha)).trans ih

theorem Rch.mono {g : List Nat} {W W' a b : Nat} (h : Rch g W a b) (hs : ∀ i, W.testBit i = true → W'.testBit i = true) : Rch g W' a b := by
  induction h with
  | base => exact .base
  | step _ hab hb ih => exact .step ih hab (hs _ hb)

/-- A set all of whose nodes reach each other within it. -/
def Conn (g : List Nat) (S : Nat) : Prop := ∀ a b, S.testBit a = true → S.testBit b = true → Rch g S a b

theorem conn_iff {g : List Nat} (hg : GrN g) {S : Nat} (hS : S < 2 ^ g.length) : connS g S = true ↔ Conn g S := by
  have hpow := hg.pow
  have hlen := hg.len
  have hS' : S < 1024 := by omega
  unfold connS
  by_cases h0 : S = 0
  · subst h0
    simp only [decide_true, Bool.true_or, true_iff]
    intro a b ha
    simp at ha
  · have hl := low_lt hg.toGrB hS h0
    have hlb := low_bit (Nat.pos_of_ne_zero h0) hS'
    rw [decide_eq_false h0, Bool.false_or, decide_eq_true_iff]
    constructor
    · intro h a b ha hb
      have h1 : ∀ i, S.testBit i = true → Rch g S (low S) i := fun i hi => (rch_bit (by omega) hS').1 (by rw [h]; exact hi)
      exact ((h1 a ha).sym hg.sym hlb).trans (h1 b hb)
    · intro h
      refine (rch_eq (by omega) hS' hS' hlb (fun u hu => h _ _ hlb hu) fun a b _ _ hb => hb).symm

/-- A set of which any node may be taken away. -/
def Bi (g : List Nat) (S : Nat) : Prop := ∀ w, Conn g (without S (2 ^ w))

theorem bit_del {S w i : Nat} : (without S (2 ^ w)).testBit i = true ↔ S.testBit i = true ∧ i ≠ w := by
  rw [testBit_without, Nat.testBit_two_pow, Bool.and_eq_true, Bool.not_eq_true', decide_eq_false_iff_not]
  exact ⟨fun h => ⟨h.1, fun e => h.2 e.symm⟩, fun h => ⟨h.1, fun e => h.2 e.symm⟩⟩

theorem del_none {S w : Nat} (h : S.testBit w = false) : without S (2 ^ w) = S := by
  refine Nat.eq_of_testBit_eq fun i => ?_
  rw [Bool.eq_iff_iff, bit_del]
  exact ⟨And.left, fun hi => ⟨hi, fun e => by subst e; rw [h] at hi; cases hi⟩⟩

theorem Bi.conn {g : List Nat} {S : Nat} (hS : S < 1024) (h : Bi g S) : Conn g S := by
  have := h 10
  rwa [del_none (big_bit (n := 10) hS (Nat.le_refl _))] at this

theorem cand2_iff {g : List Nat} (hg : GrN g) {S : Nat} (hS : S < 2 ^ g.length) : cand2 g S = true ↔ 1 < pop S ∧ Bi g S := by
  have hpow := hg.pow
  have hlen := hg.len
  have hS' : S < 1024 := by omega
  unfold cand2
  simp only [Bool.and_eq_true, decide_eq_true_iff]
  have hrch : Conn g S → ∀ v, S.testBit v = true → rch g S v = S := fun hc v hv =>
    (rch_eq (by have := bit_lt hS hv; omega) hS' hS' hv (fun u hu => hc _ _ hv hu) fun a b _ _ hb => hb).symm
  have hcut : Conn g S → (cutsP g S = 0 ↔ ∀ v, S.testBit v = true → Conn g (without S (2 ^ v))) := by
    intro hc
    constructor
    · intro h v hv
      have h1 : ¬ (cutsP g S).testBit v = true := by rw [h]; simp
      rw [cutsP_bit hS'] at h1
      have h2 : cutQ g S v = false := by
        cases hq : cutQ g S v with
        | false => rfl
        | true => exact absurd ⟨hv, hq⟩ h1
      unfold cutQ at h2
      rw [hrch hc v hv, Bool.not_eq_false'] at h2
      exact (conn_iff hg (without_le _ _ hS)).1 h2
    · intro h
      refine Nat.eq_of_testBit_eq fun v => ?_
      rw [Nat.zero_testBit, Bool.eq_false_iff]
      intro hb
      obtain ⟨hv, hq⟩ := (cutsP_bit hS').1 hb
      unfold cutQ at hq
      rw [hrch hc v hv, (conn_iff hg (without_le _ _ hS)).2 (h v hv)] at hq
      cases hq
  constructor
  · rintro ⟨⟨h1, h2⟩, h3⟩
    have hc := (conn_iff hg hS).1 h2
    refine ⟨h1, fun w => ?_⟩
    cases hw : S.testBit w with
    | false => rw [del_none hw]; exact hc
    | true => exact (hcut hc).1 h3 w hw
  · rintro ⟨h1, h2⟩
    have hc := h2.conn hS'
    exact ⟨⟨h1, (conn_iff hg hS).2 hc⟩, (hcut hc).2 fun v _ => h2 v⟩

/-! ### Ends of edges -/
theorem elts_n {b n : Nat} (hn : n ≤ 10) (hb : b < 2 ^ n) : elts b = (List.range n).filter fun i => b.testBit i := by
  unfold elts
  rw [show 10 = n + (10 - n) by omega, List.range_add, List.filter_append]
  have : (((List.range (10 - n)).map (n + ·)).filter fun i => b.testBit i) = [] := by
    rw [List.filter_eq_nil_iff]
    intro x hx
    obtain ⟨y, _, rfl⟩ := List.mem_map.1 hx
    rw [big_bit hb (by omega)]
    simp
  rw [this, List.append_nil]

/-- How many ends of edges lie in a set. -/
def ends (g : List Nat) (b : Nat) : Nat := foldI (fun _ v s => s + pop (nb g v &&& b)) (elts b) 0 0

/-- A node more than some few. -/
theorem exists_other {S a b : Nat} (hS : S < 1024) (h : 2 < pop S) : ∃ c, S.testBit c = true ∧ c ≠ a ∧ c ≠ b := by
  refine Classical.byContradiction fun hc => ?_
  have hall : ∀ c, S.testBit c = true → c = a ∨ c = b := fun c hcb => Classical.byContradiction fun hh => hc ⟨c, hcb, fun e => hh (.inl e), fun e => hh (.inr e)⟩
  have hlen := elts_len S
  have hnd := elts_nodup S
  have hm : ∀ c ∈ elts S, c = a ∨ c = b := fun c h => hall c ((mem_elts hS).1 h)
  rw [← hlen] at h
  match hE : elts S with
  | [] => rw [hE] at h; simp at h
  | [x] => rw [hE] at h; simp at h
  | [x, y] => rw [hE] at h; simp at h
  | x :: y :: z :: l =>
    rw [hE] at hm hnd
    have h1 := hm x (by simp)
    have h2 := hm y (by simp)
    have h3 := hm z (by simp)
    simp only [List.nodup_cons, List.mem_cons, not_or] at hnd
    omega

theorem exists_other1 {S a : Nat} (hS : S < 1024) (h : 1 < pop S) : ∃ c, S.testBit c = true ∧ c ≠ a := by
  refine Classical.byContradiction fun hc => ?_
  have hall : ∀ c, S.testBit c = true → c = a := fun c hcb => Classical.byContradiction fun hh => hc ⟨c, hcb, hh⟩
  have hlen := elts_len S
  have hnd := elts_nodup S
  have hm : ∀ c ∈ elts S, c = a := fun c h => hall c ((mem_elts hS).1 h)
  rw [← hlen] at h
  match hE : elts S with
  | [] => rw [hE] at h; simp at h
  | [x] => rw [hE] at h; simp at h
  | x :: y :: l =>
    rw [hE] at hm hnd
    have h1 := hm x (by simp)
    have h2 := hm y (by simp)
    simp only [List.nodup_cons, List.mem_cons, not_or] at hnd
    omega

/-- Who reaches another node has a neighbour. -/
theorem Rch.next {g : List Nat} {W a b : Nat} (h : Rch g W a b) (hne : b ≠ a) : ∃ u, adj g a u = true ∧ W.testBit u = true ∧ Rch g W u b := by
  induction h with
  | base => exact absurd rfl hne
  | @step x y hx hxy hy ih =>
    by_cases hxa : x = a
    · subst hxa
      exact ⟨y, hxy, hy, .base⟩
    · obtain ⟨u, h1, h2, h3⟩ := ih hxa
      exact ⟨u, h1, h2, .step h3 hxy hy⟩

/-! ### Cactus -/
end Go.AM

end

section

/- Blocks and cactus: the laws. -/
namespace Go.AM
open Go.Proofs
variable {R : Type}
attribute [local simp] nx_eq nx_new nx_set blk_new blk_set asI_int asK_int asB_bool asP_ptr al_eq bx_eq len_slice onE_exit onE_ret onR_ret Value.cells d3 d22 d23 d32 d78 w3 w32 cell_new cell_set rd_new rd_set off eq lt le ifB gv out ext20 ext21
theorem keqv4 (a b : Bool) (K : Bool → Option R) : eqv Tryd.prog 4 (.bool a) (.bool b) K = K (a == b) := by
  have : binOp Tryd.prog .eql 4 (.bool a) (.bool b) = some (.bool (a == b)) := by
    cases a <;> cases b <;> kernel_rfl
  unfold eqv
  rw [this]

end Go.AM

end

section

/- PLAIN: ears on sets without cut nodes; where blocks meet. -/
namespace Go.AM
open Go.Proofs
/-- A list of nodes as a set. -/
def setOf (l : List Nat) : Nat := l.foldr (fun i s => s ||| 2 ^ i) 0

theorem setOf_bit {l : List Nat} {i : Nat} : (setOf l).testBit i = true ↔ i ∈ l := by
  induction l with
  | nil => simp [setOf]
  | cons x l ih =>
    unfold setOf at ih ⊢
    rw [List.foldr_cons, Nat.testBit_or, Bool.or_eq_true, ih, Nat.testBit_two_pow, decide_eq_true_iff, List.mem_cons]
    exact ⟨fun h => h.elim .inr fun e => .inl e.symm, fun h => h.elim (fun e => .inr e.symm) .inl⟩

theorem setOf_lt {l : List Nat} {n : Nat} (h : ∀ i ∈ l, i < n) : setOf l < 2 ^ n := by
  refine Nat.lt_pow_two_of_testBit _ fun i hi => ?_
  rw [Bool.eq_false_iff]
  intro hb
  have := h i (setOf_bit.1 hb)
  omega

/-! ### Blocks -/
/-- A way within a set without one end of an edge does not use the edge. -/
theorem Rch.del {g : List Nat} (hg : GrN g) {a b W s t : Nat} (hab : adj g a b = true) (hz : W.testBit a = false ∨ W.testBit b = false) (hs : W.testBit s = true) (hW : W < 2 ^ g.length) (h : Rch g W s t) : Rch (delE g a b) (allN g) s t := by
  obtain ⟨ha, hb⟩ := hg.adj_lt hab
  have hne : a ≠ b := by rintro rfl; rw [hg.irr] at hab; cases hab
  induction h with
  | base => exact .base
  | @step x y hx hxy hy ih =>
    refine .step ih ?_ (by rw [allN_bit, decide_eq_true (bit_lt hW hy)])
    have hxW := hx.mem hs
    rw [adj_delE ha hb hne, hxy, Bool.true_and, Bool.not_eq_true', Bool.or_eq_false_iff, decide_eq_false_iff_not, decide_eq_false_iff_not]
    constructor
    · rintro ⟨rfl, rfl⟩
      rcases hz with h | h
      · rw [hxW] at h; cases h
      · rw [hy] at h; cases h
    · rintro ⟨rfl, rfl⟩
      rcases hz with h | h
      · rw [hy] at h; cases h
      · rw [hxW] at h; cases h

end Go.AM

end

section

/- The staged forms of functions 11, 12, 48, 49, 50, 51, 53, 94, 95, 96, 110, and what calls of these answer. -/
namespace Go.AM
open Go.Proofs
noncomputable def f11_l3 (_rec : Rec) (_k : Nat) (v3 : Value) (ws0 : List Value) (ws1 : List Value) (n8 : Int) (ws2 : List Value) (h11 : H) : Option (Ex × List Value × H) :=
  asI .i64 (gv ws2 1) fun n9 =>
  ifB (lt n9 n8) (
    asK (gv ws2 1) fun n10 =>
    six v3 n10 1 fun b0 b1 =>
    ld Tryd.prog h11 3 b0 b1 fun v15 =>
    asI .i64 v15 fun n11 =>
    asK (gv ws0 1) fun n12 =>
    nn n12 (
      asK (gv ws1 1) fun n13 =>
      nn n13 (
        asI .i64 (gv ws2 0) fun n14 =>
        asI .i64 (gv ws2 1) fun n15 =>
        out .normal [(.int .i64 (add .i64 n14 (mul .i64 (and .i64 (shr .i64 n11 n12) 1) (and .i64 (shr .i64 n11 n13) 1)))), (.int .i64 (add .i64 n15 1))] h11))) (
    out (.exit 4) [gv ws2 0, gv ws2 1] h11)

noncomputable def f11_l2 (rec : Rec) (k : Nat) (v0 : Value) (v3 : Value) (v11 : Value) (ws0 : List Value) (ws1 : List Value) (h10 : H) : Option (Ex × List Value × H) :=
  asI .i64 (gv ws1 1) fun n6 =>
  asI .i64 (gv ws0 1) fun n7 =>
  ifB (lt n6 n7) (
    len v3 fun n8 =>
    lp k (f11_l3 rec k v3 ws0 ws1 n8) [(.int .i64 0), (.int .i64 0)] h10 fun e0 ws3 h12 =>
    onE e0 4 (
      asK (gv ws0 1) fun n16 =>
      six v0 n16 1 fun b2 b3 =>
      ld Tryd.prog h12 3 b2 b3 fun v16 =>
      asI .i64 v16 fun n17 =>
      asK (gv ws1 1) fun n18 =>
      nn n18 (
        ifB (eq (and .i64 (shr .i64 n17 n18) 1) 1) (
          asI .i64 (gv ws3 0) fun n19 =>
          ifB (not (eq n19 1)) (
            out .ret [(.bool false), gv ws1 1] h12) (
            asI .i64 (gv ws3 0) fun n20 =>
            ifB (lt 1 n20) (
              out .ret [(.bool false), gv ws1 1] h12) (
              asI .i64 (gv ws3 0) fun n21 =>
              ifB (eq n21 1) (
                asK (gv ws0 1) fun n22 =>
                nn n22 (
                  asK (gv ws1 1) fun n23 =>
                  nn n23 (
                    calls rec h12 49 [v3, (.int .i64 (or .i64 (shl .i64 1 n22) (shl .i64 1 n23)))] fun v17 h13 =>
                    asB v17 fun q2 =>
                    bld Tryd.prog 32 [(0, gv ws1 1), (1, gv ws0 1)] fun v18 =>
                    calls rec h13 50 [v11, v18] fun v19 h14 =>
                    asB v19 fun q3 =>
                    eqv Tryd.prog 4 (.bool q2) (.bool q3) fun q4 =>
                    ifB (not q4) (
                      out .ret [(.bool false), gv ws1 1] h14) (
                      asI .i64 (gv ws1 1) fun n24 =>
                      out .normal [gv ws1 0, (.int .i64 (add .i64 n24 1))] h14)))) (
                bld Tryd.prog 32 [(0, gv ws1 1), (1, gv ws0 1)] fun v20 =>
                calls rec h12 50 [v11, v20] fun v21 h15 =>
                asB v21 fun q5 =>
                eqv Tryd.prog 4 (.bool false) (.bool q5) fun q6 =>
                ifB (not q6) (
                  out .ret [(.bool false), gv ws1 1] h15) (
                  asI .i64 (gv ws1 1) fun n25 =>
                  out .normal [gv ws1 0, (.int .i64 (add .i64 n25 1))] h15))))) (
          asI .i64 (gv ws3 0) fun n26 =>
          ifB (lt 1 n26) (
            out .ret [(.bool false), gv ws1 1] h12) (
            asI .i64 (gv ws3 0) fun n27 =>
            ifB (eq n27 1) (
              asK (gv ws0 1) fun n28 =>
              nn n28 (
                asK (gv ws1 1) fun n29 =>
                nn n29 (
                  calls rec h12 49 [v3, (.int .i64 (or .i64 (shl .i64 1 n28) (shl .i64 1 n29)))] fun v22 h16 =>
                  asB v22 fun q7 =>
                  bld Tryd.prog 32 [(0, gv ws1 1), (1, gv ws0 1)] fun v23 =>
                  calls rec h16 50 [v11, v23] fun v24 h17 =>
                  asB v24 fun q8 =>
                  eqv Tryd.prog 4 (.bool q7) (.bool q8) fun q9 =>
                  ifB (not q9) (
                    out .ret [(.bool false), gv ws1 1] h17) (
                    asI .i64 (gv ws1 1) fun n30 =>
                    out .normal [gv ws1 0, (.int .i64 (add .i64 n30 1))] h17)))) (
              bld Tryd.prog 32 [(0, gv ws1 1), (1, gv ws0 1)] fun v25 =>
              calls rec h12 50 [v11, v25] fun v26 h18 =>
              asB v26 fun q10 =>
              eqv Tryd.prog 4 (.bool false) (.bool q10) fun q11 =>
              ifB (not q11) (
                out .ret [(.bool false), gv ws1 1] h18) (
                asI .i64 (gv ws1 1) fun n31 =>
                out .normal [gv ws1 0, (.int .i64 (add .i64 n31 1))] h18)))))) (
      none)) (
    out (.exit 2) [gv ws1 0, gv ws1 1] h10)

noncomputable def f11_l1 (rec : Rec) (k : Nat) (v0 : Value) (v3 : Value) (v11 : Value) (n4 : Int) (ws0 : List Value) (h9 : H) : Option (Ex × List Value × H) :=
  asI .i64 (gv ws0 1) fun n5 =>
  ifB (lt n5 n4) (
    lp k (f11_l2 rec k v0 v3 v11 ws0) [gv ws0 0, (.int .i64 0)] h9 fun e1 ws4 h19 =>
    onE e1 2 (
      asI .i64 (gv ws0 1) fun n32 =>
      out .normal [gv ws4 0, (.int .i64 (add .i64 n32 1))] h19) (
      onR e1 (
        out .ret [gv ws4 0, gv ws0 1] h19))) (
    out (.exit 0) [gv ws0 0, gv ws0 1] h9)

noncomputable def f11_l5 (_rec : Rec) (_k : Nat) (n1 : Int) (n36 : Int) (v28 : Value) (n37 : Int) (ws7 : List Value) (h22 : H) : Option (Ex × List Value × H) :=
  asI .i64 (gv ws7 1) fun n38 =>
  ifB (lt n38 n37) (
    asK (gv ws7 1) fun n39 =>
    six v28 n39 1 fun b6 b7 =>
    ld Tryd.prog h22 3 b6 b7 fun v29 =>
    asI .i64 v29 fun n40 =>
    ifB (not (eq (and .i64 n36 n40) 0)) (
      ifB (not (eq (and .i64 (and .i64 n36 n40) (sub .i64 (and .i64 n36 n40) 1)) 0)) (
        out .ret [(.bool false), gv ws7 1] h22) (
        ifB (not (eq (andNot .i64 (and .i64 n36 n40) n1) 0)) (
          out .ret [(.bool false), gv ws7 1] h22) (
          asI .i64 (gv ws7 1) fun n41 =>
          out .normal [gv ws7 0, (.int .i64 (add .i64 n41 1))] h22))) (
      asI .i64 (gv ws7 1) fun n42 =>
      out .normal [gv ws7 0, (.int .i64 (add .i64 n42 1))] h22)) (
    out (.exit 8) [gv ws7 0, gv ws7 1] h22)

noncomputable def f11_l4 (rec : Rec) (k : Nat) (v3 : Value) (n1 : Int) (n33 : Int) (ws6 : List Value) (h21 : H) : Option (Ex × List Value × H) :=
  asI .i64 (gv ws6 1) fun n34 =>
  ifB (lt n34 n33) (
    asK (gv ws6 1) fun n35 =>
    six v3 n35 1 fun b4 b5 =>
    ld Tryd.prog h21 3 b4 b5 fun v27 =>
    asI .i64 v27 fun n36 =>
    sli Tryd.prog h21 22 v3 none (some (gv ws6 1)) none fun v28 =>
    len v28 fun n37 =>
    lp k (f11_l5 rec k n1 n36 v28 n37) [gv ws6 0, (.int .i64 0)] h21 fun e3 ws8 h23 =>
    onE e3 8 (
      asI .i64 (gv ws6 1) fun n43 =>
      out .normal [gv ws8 0, (.int .i64 (add .i64 n43 1))] h23) (
      onR e3 (
        out .ret [gv ws8 0, gv ws6 1] h23))) (
    out (.exit 6) [gv ws6 0, gv ws6 1] h21)

noncomputable def f11 (rec : Rec) (k : Nat) (v0 : Value) (h0 : H) : Option (Value × H) :=
  calls rec h0 18 [v0] fun v1 h1 =>
  calls rec h1 44 [v1] fun v2 h2 =>
  ext v2 0 fun v3 =>
  ext v2 1 fun v4 =>
  asI .i64 v4 fun n0 =>
  calls rec h2 18 [v0] fun v5 h3 =>
  calls rec h3 24 [v5] fun v6 h4 =>
  ext v6 0 fun v7 =>
  asI .i64 v7 fun n1 =>
  ext v6 1 fun v8 =>
  asI .i64 v8 fun n2 =>
  calls rec h4 18 [v0] fun v9 h5 =>
  calls rec h5 23 [v9] fun v10 h6 =>
  ext v10 0 fun v11 =>
  ext v10 1 fun v12 =>
  asI .i64 v12 fun n3 =>
  ifB (not (eq n0 0)) (
    ifB (eq n0 2) (
      ifB (eq n2 2) (
        ifB (eq n3 2) (
          calls rec h6 20 [] fun v13 h7 =>
          asB v13 fun q0 =>
          some ((.bool q0), h7)) (
          some ((.bool false), h6))) (
        some ((.bool false), h6))) (
      some ((.bool false), h6))) (
    ifB (not (eq n2 0)) (
      some ((.bool false), h6)) (
      ifB (not (eq n3 0)) (
        some ((.bool false), h6)) (
        calls rec h6 48 [v3] fun v14 h8 =>
        asB v14 fun q1 =>
        ifB (not q1) (
          some ((.bool false), h8)) (
          len v0 fun n4 =>
          lp k (f11_l1 rec k v0 v3 v11 n4) [(.bool false), (.int .i64 0)] h8 fun e2 ws5 h20 =>
          onE e2 0 (
            len v3 fun n33 =>
            lp k (f11_l4 rec k v3 n1 n33) [gv ws5 0, (.int .i64 0)] h20 fun e4 ws9 h24 =>
            onE e4 6 (
              calls rec h24 20 [] fun v30 h25 =>
              asB v30 fun q12 =>
              some ((.bool q12), h25)) (
              onR e4 (
                some (gv ws9 0, h24)))) (
            onR e2 (
              some (gv ws5 0, h20)))))))

theorem e11 (rec : Rec) (k : Nat) (v0 : Value) (h : H) : bodyT Tryd.prog E0 SC (XC Tryd.prog rec k) 11 (Value × H) [.opq v0] h (fun v h => some (v, h)) = f11 rec k v0 h := by kernel_rfl

theorem t11 {k : Nat} {v0 : Value} {h h1 : H} {v : Value} (hh : f11 rn k v0 h = some (v, h1)) : rn 11 #[v0] h = some (v, trunc Tryd.prog h h1 v) :=
  run_of_bodyT (args := [.opq v0]) rfl ((e11 _ _ _ _).trans hh)

theorem x11 {k : Nat} {v0 : Value} {h h1 : H} {v : Value} (hh : f11 rn k v0 h = some (v, h1)) (hp : plainO v = false) : ∃ h2, rn 11 #[v0] h = some (v, h2) ∧ Sm h1 h2 ∧ (Ext h h1 → Exw h h2) := trunc_cell hp (t11 hh)

noncomputable def f12_l1 (rec : Rec) (_k : Nat) (v0 : Value) (h0 : H) (h2 : H) (v6 : Value) (n5 : Int) (ws0 : List Value) (h8 : H) : Option (Ex × List Value × H) :=
  asI .i64 (gv ws0 0) fun n6 =>
  ifB (lt n6 n5) (
    asK (gv ws0 0) fun n7 =>
    six v0 n7 1 fun b0 b1 =>
    ld Tryd.prog h8 3 b0 b1 fun v7 =>
    asI .i64 v7 fun n8 =>
    ld Tryd.prog h8 3 (nx h0) 0 fun v8 =>
    asI .i64 v8 fun n9 =>
    asI .i64 (gv ws0 0) fun n10 =>
    ld Tryd.prog h8 3 (nx h2) 0 fun v9 =>
    asI .i64 v9 fun n11 =>
    nz n11 (
      calls rec h8 51 [(.int .i64 n8), (pt (nx h0) 0), (pt (nx h2) 0)] fun v10 h9 =>
      asI .i64 v10 fun n12 =>
      ck (freq (nx h2) (nx h8) (same h9 h8)) (
        ck (freq (nx h0) (nx h8) (same h9 h8)) (
          six v6 (rem .i64 (add .i64 n10 n9) n11) 1 fun b2 b3 =>
          st Tryd.prog h9 3 b2 b3 (.int .i64 n12) fun h10 =>
          asI .i64 (gv ws0 0) fun n13 =>
          out .normal [(.int .i64 (add .i64 n13 1))] h10)))) (
    out (.exit 0) [gv ws0 0] h8)

noncomputable def f12_l2 (rec : Rec) (_k : Nat) (h0 : H) (h2 : H) (v13 : Value) (v17 : Value) (n31 : Int) (ws2 : List Value) (h29 : H) : Option (Ex × List Value × H) :=
  asI .i64 (gv ws2 1) fun n32 =>
  ifB (lt n32 n31) (
    asK (gv ws2 1) fun n33 =>
    six v13 n33 2 fun b4 b5 =>
    ld Tryd.prog h29 32 b4 b5 fun v44 =>
    al h29 32 [(.int .i64 0), (.int .i64 0)] fun h30 =>
    st Tryd.prog h30 32 (nx h29) 0 v44 fun h31 =>
    ld Tryd.prog h31 32 (nx h29) 0 fun v45 =>
    calls rec h31 53 [v45, (pt (nx h0) 0), (pt (nx h2) 0)] fun v46 h32 =>
    calls rec h32 50 [v17, v46] fun v47 h33 =>
    asB v47 fun q2 =>
    ifB (not q2) (
      out .ret [(.bool false), gv ws2 1] h33) (
      asI .i64 (gv ws2 1) fun n34 =>
      out .normal [gv ws2 0, (.int .i64 (add .i64 n34 1))] h33)) (
    out (.exit 2) [gv ws2 0, gv ws2 1] h29)

noncomputable def f12_l3 (rec : Rec) (_k : Nat) (h0 : H) (h2 : H) (v37 : Value) (v41 : Value) (n35 : Int) (ws4 : List Value) (h35 : H) : Option (Ex × List Value × H) :=
  asI .i64 (gv ws4 1) fun n36 =>
  ifB (lt n36 n35) (
    asK (gv ws4 1) fun n37 =>
    six v37 n37 2 fun b6 b7 =>
    ld Tryd.prog h35 32 b6 b7 fun v48 =>
    al h35 32 [(.int .i64 0), (.int .i64 0)] fun h36 =>
    st Tryd.prog h36 32 (nx h35) 0 v48 fun h37 =>
    ld Tryd.prog h37 32 (nx h35) 0 fun v49 =>
    calls rec h37 53 [v49, (pt (nx h0) 0), (pt (nx h2) 0)] fun v50 h38 =>
    calls rec h38 50 [v41, v50] fun v51 h39 =>
    asB v51 fun q3 =>
    ifB (not q3) (
      out .ret [(.bool false), gv ws4 1] h39) (
      asI .i64 (gv ws4 1) fun n38 =>
      out .normal [gv ws4 0, (.int .i64 (add .i64 n38 1))] h39)) (
    out (.exit 4) [gv ws4 0, gv ws4 1] h35)

noncomputable def f12_l4 (rec : Rec) (_k : Nat) (h0 : H) (h2 : H) (v29 : Value) (v33 : Value) (n39 : Int) (ws6 : List Value) (h41 : H) : Option (Ex × List Value × H) :=
  asI .i64 (gv ws6 1) fun n40 =>
  ifB (lt n40 n39) (
    asK (gv ws6 1) fun n41 =>
    six v29 n41 1 fun b8 b9 =>
    ld Tryd.prog h41 3 b8 b9 fun v52 =>
    asI .i64 v52 fun n42 =>
    calls rec h41 51 [(.int .i64 n42), (pt (nx h0) 0), (pt (nx h2) 0)] fun v53 h42 =>
    asI .i64 v53 fun n43 =>
    calls rec h42 49 [v33, (.int .i64 n43)] fun v54 h43 =>
    asB v54 fun q4 =>
    ifB (not q4) (
      out .ret [(.bool false), gv ws6 1] h43) (
      asI .i64 (gv ws6 1) fun n44 =>
      out .normal [gv ws6 0, (.int .i64 (add .i64 n44 1))] h43)) (
    out (.exit 6) [gv ws6 0, gv ws6 1] h41)

noncomputable def f12 (rec : Rec) (k : Nat) (v0 : Value) (n0 : Int) (h0 : H) : Option (Value × H) :=
  bx h0 3 (.int .i64 n0) fun h1 =>
  calls rec h1 19 [v0] fun v1 h2 =>
  asB v1 fun q0 =>
  ifB (not q0) (
    calls rec h2 20 [] fun v2 h3 =>
    asB v2 fun q1 =>
    some ((.bool q1), h3)) (
    len v0 fun n1 =>
    al h2 3 [(.int .i64 0)] fun h4 =>
    st Tryd.prog h4 3 (nx h2) 0 (.int .i64 n1) fun h5 =>
    ld Tryd.prog h5 3 (nx h0) 0 fun v3 =>
    asI .i64 v3 fun n2 =>
    ld Tryd.prog h5 3 (nx h2) 0 fun v4 =>
    asI .i64 v4 fun n3 =>
    nz (wr .u64 n3) (
      st Tryd.prog h5 3 (nx h0) 0 (.int .i64 (wr .i64 (rem .u64 (wr .u64 n2) (wr .u64 n3)))) fun h6 =>
      ld Tryd.prog h6 3 (nx h2) 0 fun v5 =>
      asI .i64 v5 fun n4 =>
      mks Tryd.prog h6 23 n4 n4 fun v6 h7 =>
      len v0 fun n5 =>
      lp k (f12_l1 rec k v0 h0 h2 v6 n5) [(.int .i64 0)] h7 fun e0 _ h11 =>
      onE e0 0 (
        calls rec h11 18 [v0] fun v11 h12 =>
        calls rec h12 23 [v11] fun v12 h13 =>
        ext v12 0 fun v13 =>
        ext v12 1 fun v14 =>
        asI .i64 v14 fun n14 =>
        calls rec h13 52 [v6] fun v15 h14 =>
        calls rec h14 23 [v15] fun v16 h15 =>
        ext v16 0 fun v17 =>
        ext v16 1 fun v18 =>
        asI .i64 v18 fun n15 =>
        calls rec h15 18 [v0] fun v19 h16 =>
        calls rec h16 24 [v19] fun v20 h17 =>
        ext v20 0 fun v21 =>
        asI .i64 v21 fun n16 =>
        ext v20 1 fun v22 =>
        asI .i64 v22 fun n17 =>
        calls rec h17 52 [v6] fun v23 h18 =>
        calls rec h18 24 [v23] fun v24 h19 =>
        ext v24 0 fun v25 =>
        asI .i64 v25 fun n18 =>
        ext v24 1 fun v26 =>
        asI .i64 v26 fun n19 =>
        calls rec h19 18 [v0] fun v27 h20 =>
        calls rec h20 44 [v27] fun v28 h21 =>
        ext v28 0 fun v29 =>
        ext v28 1 fun v30 =>
        asI .i64 v30 fun n20 =>
        calls rec h21 52 [v6] fun v31 h22 =>
        calls rec h22 44 [v31] fun v32 h23 =>
        ext v32 0 fun v33 =>
        ext v32 1 fun v34 =>
        asI .i64 v34 fun n21 =>
        calls rec h23 18 [v0] fun v35 h24 =>
        calls rec h24 17 [v35] fun v36 h25 =>
        ext v36 0 fun v37 =>
        ext v36 1 fun v38 =>
        asI .i64 v38 fun n22 =>
        calls rec h25 52 [v6] fun v39 h26 =>
        calls rec h26 17 [v39] fun v40 h27 =>
        ext v40 0 fun v41 =>
        ext v40 1 fun v42 =>
        asI .i64 v42 fun n23 =>
        ifB (not (eq n14 0)) (
          some ((.bool false), h27)) (
          ifB (not (eq n15 0)) (
            some ((.bool false), h27)) (
            ifB (not (eq n17 0)) (
              some ((.bool false), h27)) (
              ifB (not (eq n19 0)) (
                some ((.bool false), h27)) (
                ifB (not (eq n20 0)) (
                  some ((.bool false), h27)) (
                  ifB (not (eq n21 0)) (
                    some ((.bool false), h27)) (
                    ifB (not (eq n22 0)) (
                      some ((.bool false), h27)) (
                      ifB (not (eq n23 0)) (
                        some ((.bool false), h27)) (
                        calls rec h27 51 [(.int .i64 n16), (pt (nx h0) 0), (pt (nx h2) 0)] fun v43 h28 =>
                        asI .i64 v43 fun n24 =>
                        ifB (not (eq n24 n18)) (
                          some ((.bool false), h28)) (
                          len v13 fun n25 =>
                          len v17 fun n26 =>
                          ifB (not (eq n25 n26)) (
                            some ((.bool false), h28)) (
                            len v29 fun n27 =>
                            len v33 fun n28 =>
                            ifB (not (eq n27 n28)) (
                              some ((.bool false), h28)) (
                              len v37 fun n29 =>
                              len v41 fun n30 =>
                              ifB (not (eq n29 n30)) (
                                some ((.bool false), h28)) (
                                len v13 fun n31 =>
                                lp k (f12_l2 rec k h0 h2 v13 v17 n31) [(.bool false), (.int .i64 0)] h28 fun e1 ws3 h34 =>
                                onE e1 2 (
                                  len v37 fun n35 =>
                                  lp k (f12_l3 rec k h0 h2 v37 v41 n35) [gv ws3 0, (.int .i64 0)] h34 fun e2 ws5 h40 =>
                                  onE e2 4 (
                                    len v29 fun n39 =>
                                    lp k (f12_l4 rec k h0 h2 v29 v33 n39) [gv ws5 0, (.int .i64 0)] h40 fun e3 ws7 h44 =>
                                    onE e3 6 (
                                      calls rec h44 20 [] fun v55 h45 =>
                                      asB v55 fun q5 =>
                                      some ((.bool q5), h45)) (
                                      onR e3 (
                                        some (gv ws7 0, h44)))) (
                                    onR e2 (
                                      some (gv ws5 0, h40)))) (
                                  onR e1 (
                                    some (gv ws3 0, h34)))))))))))))))) (
        none)))

theorem e12 (rec : Rec) (k : Nat) (v0 : Value) (n0 : Int) (h : H) : bodyT Tryd.prog E0 SC (XC Tryd.prog rec k) 12 (Value × H) [.opq v0, .int .i64 n0] h (fun v h => some (v, h)) = f12 rec k v0 n0 h := by kernel_rfl

theorem t12 {k : Nat} {v0 : Value} {n0 : Int} {h h1 : H} {v : Value} (hh : f12 rn k v0 n0 h = some (v, h1)) : rn 12 #[v0, .int .i64 n0] h = some (v, trunc Tryd.prog h h1 v) :=
  run_of_bodyT (args := [.opq v0, .int .i64 n0]) rfl ((e12 _ _ _ _ _).trans hh)

theorem x12 {k : Nat} {v0 : Value} {n0 : Int} {h h1 : H} {v : Value} (hh : f12 rn k v0 n0 h = some (v, h1)) (hp : plainO v = false) : ∃ h2, rn 12 #[v0, .int .i64 n0] h = some (v, h2) ∧ Sm h1 h2 ∧ (Ext h h1 → Exw h h2) := trunc_cell hp (t12 hh)

end Go.AM

end

section

/- PLAIN: renaming the nodes of a graph. -/
namespace Go.AM
open Go.Proofs
/-- The nodes of one graph as those of another one. -/
structure Iso (g h : List Nat) (f f' : Nat → Nat) : Prop where
  len : h.length = g.length
  lt : ∀ i, i < g.length → f i < g.length
  lt' : ∀ i, i < g.length → f' i < g.length
  inv : ∀ i, i < g.length → f' (f i) = i
  inv' : ∀ i, i < g.length → f (f' i) = i
  adj : ∀ a b, a < g.length → b < g.length → AM.adj h (f a) (f b) = AM.adj g a b

theorem Iso.symm {g h : List Nat} {f f' : Nat → Nat} (s : Iso g h f f') : Iso h g f' f := by
  have hl := s.len
  refine ⟨hl.symm, fun i hi => by rw [hl] at hi ⊢; exact s.lt' i hi, fun i hi => by rw [hl] at hi ⊢; exact s.lt i hi, fun i hi => by rw [hl] at hi; exact s.inv' i hi, fun i hi => by rw [hl] at hi; exact s.inv i hi, fun a b ha hb => ?_⟩
  rw [hl] at ha hb
  rw [← s.adj _ _ (s.lt' a ha) (s.lt' b hb), s.inv' a ha, s.inv' b hb]

section
variable {g h : List Nat} {f f' : Nat → Nat} (s : Iso g h f f')
include s
theorem Iso.delE (hg : GrN g) (hh : GrN h) {a b : Nat} (ha : a < g.length) (hb : b < g.length) (hab : a ≠ b) : Iso (delE g a b) (AM.delE h (f a) (f b)) f f' := by
  have hl := s.len
  have hfab : f a ≠ f b := fun e => hab (by rw [← s.inv a ha, ← s.inv b hb, e])
  refine ⟨by rw [delE_len, delE_len]; exact hl, fun i hi => by rw [delE_len] at hi ⊢; exact s.lt i hi, fun i hi => by rw [delE_len] at hi ⊢; exact s.lt' i hi, fun i hi => by rw [delE_len] at hi; exact s.inv i hi, fun i hi => by rw [delE_len] at hi; exact s.inv' i hi, fun u v hu hv => ?_⟩
  rw [delE_len] at hu hv
  rw [adj_delE (by rw [hl]; exact s.lt a ha) (by rw [hl]; exact s.lt b hb) hfab, adj_delE ha hb hab, s.adj u v hu hv]
  have hi : ∀ x y, x < g.length → y < g.length → (f x = f y ↔ x = y) := fun x y hx hy => ⟨fun e => by rw [← s.inv x hx, ← s.inv y hy, e], fun e => by rw [e]⟩
  rw [decide_eq_decide.2 (and_congr (hi u a hu ha) (hi v b hv hb)), decide_eq_decide.2 (and_congr (hi u b hu hb) (hi v a hv ha))]

end
/-! ### Pairs in order, and how many there are -/
theorem len_le {α β : Type} [DecidableEq β] {F : α → β} : ∀ {l : List α} {l' : List β}, l.Nodup → (∀ x ∈ l, F x ∈ l') → (∀ x ∈ l, ∀ y ∈ l, F x = F y → x = y) → l.length ≤ l'.length := by
  intro l
  induction l with
  | nil => intro l' _ _ _; simp
  | cons x l ih =>
    intro l' hnd hm hi
    rw [List.nodup_cons] at hnd
    have h1 := hm x List.mem_cons_self
    have h2 := ih (l' := l'.erase (F x)) hnd.2 (fun y hy => by
      refine (List.mem_erase_of_ne fun e => ?_).2 (hm y (List.mem_cons_of_mem _ hy))
      have := hi y (List.mem_cons_of_mem _ hy) x List.mem_cons_self e
      subst this
      exact hnd.1 hy) fun a ha b hb => hi a (List.mem_cons_of_mem _ ha) b (List.mem_cons_of_mem _ hb)
    rw [List.length_erase_of_mem h1] at h2
    have := List.length_pos_of_mem h1
    rw [List.length_cons]
    omega

end Go.AM

end

section

/- The staged forms of functions 5, 6, 27, 28, 29, 30, 31, 32, 75, and what calls of these answer. -/
namespace Go.AM
open Go.Proofs
noncomputable def f5 (rec : Rec) (_k : Nat) (v0 : Value) (v1 : Value) (h0 : H) : Option (Value × H) :=
  calls rec h0 18 [v0] fun v2 h1 =>
  calls rec h1 27 [v2] fun v3 h2 =>
  ext v3 0 fun v4 =>
  ext v3 1 fun v5 =>
  asI .i64 v5 fun n0 =>
  calls rec h2 18 [v0] fun v6 h3 =>
  calls rec h3 29 [v1] fun v7 h4 =>
  calls rec h4 28 [v6, v7] fun v8 h5 =>
  ext v8 0 fun v9 =>
  asB v9 fun q0 =>
  ext v8 1 fun v10 =>
  asI .i64 v10 fun n1 =>
  calls rec h5 19 [v0] fun v11 h6 =>
  asB v11 fun q1 =>
  ifB (not q1) (
    len v4 fun n2 =>
    ifB (eq n2 0) (
      ifB (not q0) (
        ifB (eq n0 2) (
          ifB (eq n1 2) (
            calls rec h6 20 [] fun v12 h7 =>
            asB v12 fun q2 =>
            some ((.bool q2), h7)) (
            some ((.bool false), h6))) (
          some ((.bool false), h6))) (
        some ((.bool false), h6))) (
      some ((.bool false), h6))) (
    calls rec h6 30 [v0, v1] fun v13 h8 =>
    asB v13 fun q3 =>
    eqv Tryd.prog 4 (.bool q0) (.bool q3) fun q4 =>
    ifB (not q4) (
      some ((.bool false), h8)) (
      ifB (not (eq n1 0)) (
        some ((.bool false), h8)) (
        calls rec h8 20 [] fun v14 h9 =>
        asB v14 fun q5 =>
        ifB (not q5) (
          some ((.bool false), h9)) (
          calls rec h9 31 [v0] fun v15 h10 =>
          asB v15 fun q6 =>
          ifB (not q6) (
            len v4 fun n3 =>
            ifB (eq n3 0) (
              some ((.bool (eq n0 4)), h10)) (
              some ((.bool false), h10))) (
            ifB (eq n0 0) (
              calls rec h10 32 [v4] fun v16 h11 =>
              calls rec h11 30 [v0, v16] fun v17 h12 =>
              asB v17 fun q7 =>
              some ((.bool q7), h12)) (
              some ((.bool false), h10)))))))

theorem e5 (rec : Rec) (k : Nat) (v0 : Value) (v1 : Value) (h : H) : bodyT Tryd.prog E0 SC (XC Tryd.prog rec k) 5 (Value × H) [.opq v0, .opq v1] h (fun v h => some (v, h)) = f5 rec k v0 v1 h := by kernel_rfl

theorem t5 {k : Nat} {v0 : Value} {v1 : Value} {h h1 : H} {v : Value} (hh : f5 rn k v0 v1 h = some (v, h1)) : rn 5 #[v0, v1] h = some (v, trunc Tryd.prog h h1 v) :=
  run_of_bodyT (args := [.opq v0, .opq v1]) rfl ((e5 _ _ _ _ _).trans hh)

theorem p5 {k : Nat} {v0 : Value} {v1 : Value} {h h1 : H} {v : Value} (hh : f5 rn k v0 v1 h = some (v, h1)) (hp : plainO v = true) (x : Ext h h1) : rn 5 #[v0, v1] h = some (v, h) := by rw [t5 hh, trunc_pure hp x]

theorem x5 {k : Nat} {v0 : Value} {v1 : Value} {h h1 : H} {v : Value} (hh : f5 rn k v0 v1 h = some (v, h1)) (hp : plainO v = false) : ∃ h2, rn 5 #[v0, v1] h = some (v, h2) ∧ Sm h1 h2 ∧ (Ext h h1 → Exw h h2) := trunc_cell hp (t5 hh)

noncomputable def f6 (rec : Rec) (_k : Nat) (v0 : Value) (v1 : Value) (h0 : H) : Option (Value × H) :=
  calls rec h0 18 [v0] fun v2 h1 =>
  calls rec h1 27 [v2] fun v3 h2 =>
  ext v3 0 fun v4 =>
  ext v3 1 fun v5 =>
  asI .i64 v5 fun n0 =>
  calls rec h2 18 [v0] fun v6 h3 =>
  calls rec h3 23 [v6] fun v7 h4 =>
  ext v7 0 fun v8 =>
  ext v7 1 fun v9 =>
  asI .i64 v9 fun n1 =>
  calls rec h4 18 [v0] fun v10 h5 =>
  calls rec h5 29 [v1] fun v11 h6 =>
  calls rec h6 28 [v10, v11] fun v12 h7 =>
  ext v12 0 fun v13 =>
  asB v13 fun q0 =>
  ext v12 1 fun v14 =>
  asI .i64 v14 fun n2 =>
  ifB (not (eq n1 0)) (
    ifB (eq n0 2) (
      ifB (eq n1 2) (
        ifB (eq n2 2) (
          calls rec h7 20 [] fun v15 h8 =>
          asB v15 fun q1 =>
          some ((.bool q1), h8)) (
          some ((.bool false), h7))) (
        some ((.bool false), h7))) (
      some ((.bool false), h7))) (
    len v8 fun n3 =>
    ifB (eq n3 0) (
      len v0 fun n4 =>
      nn n4 (
        calls rec h7 33 [v0, (.int .i64 (sub .i64 (shl .i64 1 n4) 1)), (.int .i64 0)] fun v16 h9 =>
        asI .i64 v16 fun n5 =>
        len v0 fun n6 =>
        nn n6 (
          ifB (not (eq n2 0)) (
            some ((.bool false), h9)) (
            eqv Tryd.prog 4 (.bool (eq n0 0)) (.bool (eq n5 (sub .i64 (shl .i64 1 n6) 1))) fun q2 =>
            ifB (not q2) (
              some ((.bool false), h9)) (
              ifB (not (eq n0 0)) (
                ifB (not (eq n0 4)) (
                  some ((.bool false), h9)) (
                  ifB q0 (
                    ifB (not (eq n5 (sub .i64 (shl .i64 1 n6) 1))) (
                      some ((.bool false), h9)) (
                      ifB (not (eq n5 (sub .i64 (shl .i64 1 n6) 1))) (
                        calls rec h9 20 [] fun v17 h10 =>
                        asB v17 fun q3 =>
                        some ((.bool q3), h10)) (
                        calls rec h9 18 [v0] fun v18 h11 =>
                        calls rec h11 28 [v18, v4] fun v19 h12 =>
                        ext v19 0 fun v20 =>
                        asB v20 fun q4 =>
                        ext v19 1 fun v21 =>
                        asI .i64 v21 fun n7 =>
                        ifB q4 (
                          ifB (eq n7 0) (
                            calls rec h12 20 [] fun v22 h13 =>
                            asB v22 fun q5 =>
                            some ((.bool q5), h13)) (
                            some ((.bool false), h12))) (
                          some ((.bool false), h12))))) (
                    ifB (not (eq n5 (sub .i64 (shl .i64 1 n6) 1))) (
                      calls rec h9 20 [] fun v23 h14 =>
                      asB v23 fun q6 =>
                      some ((.bool q6), h14)) (
                      calls rec h9 18 [v0] fun v24 h15 =>
                      calls rec h15 28 [v24, v4] fun v25 h16 =>
                      ext v25 0 fun v26 =>
                      asB v26 fun q7 =>
                      ext v25 1 fun v27 =>
                      asI .i64 v27 fun n8 =>
                      ifB q7 (
                        ifB (eq n8 0) (
                          calls rec h16 20 [] fun v28 h17 =>
                          asB v28 fun q8 =>
                          some ((.bool q8), h17)) (
                          some ((.bool false), h16))) (
                        some ((.bool false), h16)))))) (
                ifB q0 (
                  ifB (not (eq n5 (sub .i64 (shl .i64 1 n6) 1))) (
                    some ((.bool false), h9)) (
                    ifB (not (eq n5 (sub .i64 (shl .i64 1 n6) 1))) (
                      calls rec h9 20 [] fun v29 h18 =>
                      asB v29 fun q9 =>
                      some ((.bool q9), h18)) (
                      calls rec h9 18 [v0] fun v30 h19 =>
                      calls rec h19 28 [v30, v4] fun v31 h20 =>
                      ext v31 0 fun v32 =>
                      asB v32 fun q10 =>
                      ext v31 1 fun v33 =>
                      asI .i64 v33 fun n9 =>
                      ifB q10 (
                        ifB (eq n9 0) (
                          calls rec h20 20 [] fun v34 h21 =>
                          asB v34 fun q11 =>
                          some ((.bool q11), h21)) (
                          some ((.bool false), h20))) (
                        some ((.bool false), h20))))) (
                  ifB (not (eq n5 (sub .i64 (shl .i64 1 n6) 1))) (
                    calls rec h9 20 [] fun v35 h22 =>
                    asB v35 fun q12 =>
                    some ((.bool q12), h22)) (
                    calls rec h9 18 [v0] fun v36 h23 =>
                    calls rec h23 28 [v36, v4] fun v37 h24 =>
                    ext v37 0 fun v38 =>
                    asB v38 fun q13 =>
                    ext v37 1 fun v39 =>
                    asI .i64 v39 fun n10 =>
                    ifB q13 (
                      ifB (eq n10 0) (
                        calls rec h24 20 [] fun v40 h25 =>
                        asB v40 fun q14 =>
                        some ((.bool q14), h25)) (
                        some ((.bool false), h24))) (
                      some ((.bool false), h24)))))))))) (
      ifB (not (eq n2 0)) (
        some ((.bool false), h7)) (
        eqv Tryd.prog 4 (.bool (eq n0 0)) (.bool false) fun q15 =>
        ifB (not q15) (
          some ((.bool false), h7)) (
          ifB (not (eq n0 0)) (
            ifB (not (eq n0 4)) (
              some ((.bool false), h7)) (
              ifB q0 (
                some ((.bool false), h7)) (
                calls rec h7 20 [] fun v41 h26 =>
                asB v41 fun q16 =>
                some ((.bool q16), h26)))) (
            ifB q0 (
              some ((.bool false), h7)) (
              calls rec h7 20 [] fun v42 h27 =>
              asB v42 fun q17 =>
              some ((.bool q17), h27)))))))

theorem e6 (rec : Rec) (k : Nat) (v0 : Value) (v1 : Value) (h : H) : bodyT Tryd.prog E0 SC (XC Tryd.prog rec k) 6 (Value × H) [.opq v0, .opq v1] h (fun v h => some (v, h)) = f6 rec k v0 v1 h := by kernel_rfl

theorem t6 {k : Nat} {v0 : Value} {v1 : Value} {h h1 : H} {v : Value} (hh : f6 rn k v0 v1 h = some (v, h1)) : rn 6 #[v0, v1] h = some (v, trunc Tryd.prog h h1 v) :=
  run_of_bodyT (args := [.opq v0, .opq v1]) rfl ((e6 _ _ _ _ _).trans hh)

theorem p6 {k : Nat} {v0 : Value} {v1 : Value} {h h1 : H} {v : Value} (hh : f6 rn k v0 v1 h = some (v, h1)) (hp : plainO v = true) (x : Ext h h1) : rn 6 #[v0, v1] h = some (v, h) := by rw [t6 hh, trunc_pure hp x]

theorem x6 {k : Nat} {v0 : Value} {v1 : Value} {h h1 : H} {v : Value} (hh : f6 rn k v0 v1 h = some (v, h1)) (hp : plainO v = false) : ∃ h2, rn 6 #[v0, v1] h = some (v, h2) ∧ Sm h1 h2 ∧ (Ext h h1 → Exw h h2) := trunc_cell hp (t6 hh)

noncomputable def f30_l1 (_rec : Rec) (_k : Nat) (v1 : Value) (v2 : Value) (v3 : Value) (n3 : Int) (ws0 : List Value) (h3 : H) : Option (Ex × List Value × H) :=
  asI .i64 (gv ws0 1) fun n4 =>
  ifB (lt n4 n3) (
    asK (gv ws0 1) fun n5 =>
    six v1 n5 2 fun b0 b1 =>
    ld Tryd.prog h3 94 b0 b1 fun v4 =>
    al h3 94 [(.int .i64 0), (.int .i64 0)] fun h4 =>
    st Tryd.prog h4 94 (nx h3) 0 v4 fun h5 =>
    ld Tryd.prog h5 94 (nx h3) 0 fun v5 =>
    asK (gv ws0 1) fun n6 =>
    six v2 n6 2 fun b2 b3 =>
    aix 2 0 (
      ld Tryd.prog h5 3 b2 (at_ b3 0 1) fun v6 =>
      asI .i64 v6 fun n7 =>
      asK (gv ws0 1) fun n8 =>
      six v2 n8 2 fun b4 b5 =>
      aix 2 1 (
        ld Tryd.prog h5 3 b4 (at_ b5 1 1) fun v7 =>
        asI .i64 v7 fun n9 =>
        bld Tryd.prog 94 [(0, (.int .i64 n7)), (1, (.int .i64 n9))] fun v8 =>
        eqv Tryd.prog 94 v5 v8 fun q0 =>
        ifB (not q0) (
          ld Tryd.prog h5 94 (nx h3) 0 fun v9 =>
          asK (gv ws0 1) fun n10 =>
          six v2 n10 2 fun b6 b7 =>
          aix 2 1 (
            ld Tryd.prog h5 3 b6 (at_ b7 1 1) fun v10 =>
            asI .i64 v10 fun n11 =>
            asK (gv ws0 1) fun n12 =>
            six v2 n12 2 fun b8 b9 =>
            aix 2 0 (
              ld Tryd.prog h5 3 b8 (at_ b9 0 1) fun v11 =>
              asI .i64 v11 fun n13 =>
              bld Tryd.prog 94 [(0, (.int .i64 n11)), (1, (.int .i64 n13))] fun v12 =>
              eqv Tryd.prog 94 v9 v12 fun q1 =>
              ifB (not q1) (
                out .ret [(.bool false), gv ws0 1] h5) (
                ld Tryd.prog h5 3 (nx h3) 0 fun v13 =>
                asI .i64 v13 fun n14 =>
                six v3 n14 1 fun b10 b11 =>
                ld Tryd.prog h5 3 b10 b11 fun v14 =>
                asI .i64 v14 fun n15 =>
                ld Tryd.prog h5 3 (nx h3) (off 0 1) fun v15 =>
                asI .i64 v15 fun n16 =>
                nn n16 (
                  six v3 n14 1 fun b12 b13 =>
                  st Tryd.prog h5 3 b12 b13 (.int .i64 (or .i64 n15 (shl .i64 1 n16))) fun h6 =>
                  asI .i64 (gv ws0 1) fun n17 =>
                  out .normal [gv ws0 0, (.int .i64 (add .i64 n17 1))] h6))))) (
          ld Tryd.prog h5 3 (nx h3) 0 fun v16 =>
          asI .i64 v16 fun n18 =>
          six v3 n18 1 fun b14 b15 =>
          ld Tryd.prog h5 3 b14 b15 fun v17 =>
          asI .i64 v17 fun n19 =>
          ld Tryd.prog h5 3 (nx h3) (off 0 1) fun v18 =>
          asI .i64 v18 fun n20 =>
          nn n20 (
            six v3 n18 1 fun b16 b17 =>
            st Tryd.prog h5 3 b16 b17 (.int .i64 (or .i64 n19 (shl .i64 1 n20))) fun h7 =>
            asI .i64 (gv ws0 1) fun n21 =>
            out .normal [gv ws0 0, (.int .i64 (add .i64 n21 1))] h7))))) (
    out (.exit 0) [gv ws0 0, gv ws0 1] h3)

noncomputable def f30_l2 (rec : Rec) (_k : Nat) (v0 : Value) (v3 : Value) (n22 : Int) (ws2 : List Value) (h9 : H) : Option (Ex × List Value × H) :=
  asI .i64 (gv ws2 1) fun n23 =>
  ifB (lt n23 n22) (
    calls rec h9 68 [v0] fun v19 h10 =>
    asI .i64 v19 fun n24 =>
    calls rec h10 33 [v3, (.int .i64 n24), gv ws2 1] fun v20 h11 =>
    asI .i64 v20 fun n25 =>
    calls rec h11 68 [v0] fun v21 h12 =>
    asI .i64 v21 fun n26 =>
    ifB (not (eq n25 n26)) (
      out .ret [(.bool false), gv ws2 1] h12) (
      asI .i64 (gv ws2 1) fun n27 =>
      out .normal [gv ws2 0, (.int .i64 (add .i64 n27 1))] h12)) (
    out (.exit 2) [gv ws2 0, gv ws2 1] h9)

noncomputable def f30 (rec : Rec) (k : Nat) (v0 : Value) (v1 : Value) (h0 : H) : Option (Value × H) :=
  calls rec h0 71 [v0] fun v2 h1 =>
  len v1 fun n0 =>
  len v2 fun n1 =>
  ifB (not (eq n0 n1)) (
    some ((.bool false), h1)) (
    len v0 fun n2 =>
    mks Tryd.prog h1 22 n2 n2 fun v3 h2 =>
    len v1 fun n3 =>
    lp k (f30_l1 rec k v1 v2 v3 n3) [(.bool false), (.int .i64 0)] h2 fun e0 ws1 h8 =>
    onE e0 0 (
      len v0 fun n22 =>
      lp k (f30_l2 rec k v0 v3 n22) [gv ws1 0, (.int .i64 0)] h8 fun e1 ws3 h13 =>
      onE e1 2 (
        some ((.bool true), h13)) (
        onR e1 (
          some (gv ws3 0, h13)))) (
      onR e0 (
        some (gv ws1 0, h8))))

theorem e30 (rec : Rec) (k : Nat) (v0 : Value) (v1 : Value) (h : H) : bodyT Tryd.prog E0 SC (XC Tryd.prog rec k) 30 (Value × H) [.opq v0, .opq v1] h (fun v h => some (v, h)) = f30 rec k v0 v1 h := by kernel_rfl

noncomputable def f31 (rec : Rec) (_k : Nat) (v0 : Value) (h0 : H) : Option (Value × H) :=
  calls rec h0 68 [v0] fun v1 h1 =>
  asI .i64 v1 fun n0 =>
  calls rec h1 67 [v0, (.int .i64 n0)] fun v2 h2 =>
  asB v2 fun q0 =>
  ifB q0 (
    calls rec h2 25 [v0] fun v3 h3 =>
    len v3 fun n1 =>
    some ((.bool (eq n1 0)), h3)) (
    some ((.bool false), h2))

theorem e31 (rec : Rec) (k : Nat) (v0 : Value) (h : H) : bodyT Tryd.prog E0 SC (XC Tryd.prog rec k) 31 (Value × H) [.opq v0] h (fun v h => some (v, h)) = f31 rec k v0 h := by kernel_rfl

theorem t31 {k : Nat} {v0 : Value} {h h1 : H} {v : Value} (hh : f31 rn k v0 h = some (v, h1)) : rn 31 #[v0] h = some (v, trunc Tryd.prog h h1 v) :=
  run_of_bodyT (args := [.opq v0]) rfl ((e31 _ _ _ _).trans hh)

theorem p31 {k : Nat} {v0 : Value} {h h1 : H} {v : Value} (hh : f31 rn k v0 h = some (v, h1)) (hp : plainO v = true) (x : Ext h h1) : rn 31 #[v0] h = some (v, h) := by rw [t31 hh, trunc_pure hp x]

end Go.AM

end

section

/- One-way streets: the two checks. -/
namespace Go.AM
open Go.Proofs
variable {R : Type}
attribute [local simp] nx_eq nx_new nx_set blk_new blk_set asI_int asK_int asB_bool asP_ptr al_eq bx_eq len_slice onE_exit onE_ret onR_ret Value.cells cell_new cell_set rd_new rd_set off eq lt le ifB gv out ext20 ext21
/-! ### Plain: the arrows of streets -/
/-! ### A store -/
/-! ### The program's loop -/
theorem eqN {a b : Nat} : AM.eq (a : Int) (b : Int) = decide (a = b) := by
  by_cases h : a = b <;> simp [h] <;> omega

end Go.AM

end

section

/- One-way streets, plain: from one node to all and back is the same as from each to each. -/
namespace Go.AM
open Go.Proofs
theorem rch_full {A : List Nat} {W v : Nat} (hW : W < 1024) (hv : W.testBit v = true) : rch A W v = W ↔ ∀ u, W.testBit u = true → Rch A W v u := by
  have hv10 : v < 10 := bit_lt (n := 10) hW hv
  constructor
  · intro h u hu
    rw [← h] at hu
    exact (rch_bit hv10 hW).1 hu
  · intro h
    refine set_ext (n := 10) (rch_lt _ _ _) hW fun i _ => ?_
    rw [Bool.eq_iff_iff, rch_bit hv10 hW]
    exact ⟨fun hr => hr.mem hv, h i⟩

theorem all_bit0 {g : List Nat} (hg : GrN g) : (allN g).testBit 0 = true := by rw [allN_bit]; exact decide_eq_true hg.pos

theorem allN_lt10 {g : List Nat} (hg : GrN g) : allN g < 1024 := Nat.lt_of_lt_of_le (allN_lt g) hg.pow

end Go.AM

end

section

/- A search tree: what holds while it grows. Plain. -/
namespace Go.AM
open Go.Proofs
abbrev TL := List (Nat × Int)

def nodesT (T : TL) : List Nat := T.map Prod.fst

theorem nodesT_app (T X : TL) : nodesT (T ++ X) = nodesT T ++ nodesT X := List.map_append ..

end Go.AM

end

section

/- Streets down a search tree, and up all others: strong where no edge is a bridge. And strong streets only there. Plain. -/
namespace Go.AM
open Go.Proofs
/-! ### A node's place and its parent -/
def numP : TL → Nat → Nat
  | [], _ => 0
  | y :: T, x => if y.1 = x then 0 else numP T x + 1

def parP : TL → Nat → Int
  | [], _ => 0
  | y :: T, x => if y.1 = x then y.2 else parP T x

theorem numP_at {T1 T2 : TL} {x : Nat} {p : Int} (h : x ∉ nodesT T1) : numP (T1 ++ (x, p) :: T2) x = T1.length := by
  induction T1 with
  | nil => simp [numP]
  | cons y T1 ih =>
    simp only [nodesT, List.map_cons, List.mem_cons, not_or] at h
    simp only [List.cons_append, numP, List.length_cons]
    rw [if_neg (fun e => h.1 e.symm), ih h.2]

theorem parP_at {T1 T2 : TL} {x : Nat} {p : Int} (h : x ∉ nodesT T1) : parP (T1 ++ (x, p) :: T2) x = p := by
  induction T1 with
  | nil => simp [parP]
  | cons y T1 ih =>
    simp only [nodesT, List.map_cons, List.mem_cons, not_or] at h
    simp only [List.cons_append, parP]
    rw [if_neg (fun e => h.1 e.symm), ih h.2]

theorem numP_ahead {T1 T2 : TL} {y : Nat} (h : y ∈ nodesT T1) : numP (T1 ++ T2) y < T1.length := by
  induction T1 with
  | nil => simp [nodesT] at h
  | cons z T1 ih =>
    simp only [List.cons_append, numP, List.length_cons]
    split
    · omega
    · rename_i hz
      simp only [nodesT, List.map_cons, List.mem_cons] at h
      rcases h with h | h
      · exact absurd h.symm hz
      · have := ih h; omega

theorem split_at {T : TL} {x : Nat} {q : Int} (h : (x, q) ∈ T) (hn : (nodesT T).Nodup) : ∃ T1 T2, T = T1 ++ (x, q) :: T2 ∧ x ∉ nodesT T1 := by
  obtain ⟨T1, T2, rfl⟩ := List.append_of_mem h
  refine ⟨T1, T2, rfl, fun hm => ?_⟩
  rw [nodesT_app, List.nodup_append] at hn
  exact hn.2.2 x hm x (by simp [nodesT]) rfl

theorem split_node {T : TL} {x : Nat} (h : x ∈ nodesT T) (hn : (nodesT T).Nodup) : ∃ T1 q T2, T = T1 ++ (x, q) :: T2 ∧ x ∉ nodesT T1 := by
  obtain ⟨⟨y, q⟩, hy, rfl⟩ := List.mem_map.1 h
  obtain ⟨T1, T2, h1, h2⟩ := split_at hy hn
  exact ⟨T1, q, T2, h1, h2⟩

section
variable {g : List Nat} {T : TL}
/-! ### The streets -/
end
/-! ### Strong streets only without bridges -/
end Go.AM

end

section

/- A shortest way: what holds while the search runs. Plain. -/
namespace Go.AM
open Go.Proofs
/-- What the search has seen, in order, each with the node ahead of it. -/
structure BW (g : List Nat) (a to W : Nat) (T : TL) : Prop where
  nodup : (nodesT T).Nodup
  root : ∃ T', T = (a, -1) :: T'
  lt : ∀ x ∈ nodesT T, x < g.length
  par : ∀ T1 u q T2, T = T1 ++ (u, q) :: T2 → T1 = [] ∨ ∃ p : Nat, q = (p : Int) ∧ p ∈ nodesT T1 ∧ adj g p u = true ∧ W.testBit u = true ∧ to.testBit p = false

/-- From a node up to the root. -/
inductive Up (T : TL) : Nat → List Nat → Prop
  | root {v : Nat} : (v, -1) ∈ T → Up T v [v]
  | step {v p : Nat} {l : List Nat} : (v, (p : Int)) ∈ T → Up T p l → Up T v (v :: l)

section
variable {g : List Nat} {a to W : Nat} {T : TL}
theorem BW.snoc (hg : GrB g) (h : BW g a to W T) {u v : Nat} (hv : v ∈ nodesT T) (hu : u ∉ nodesT T) (ha : adj g v u = true) (hW : W.testBit u = true) (ht : to.testBit v = false) : BW g a to W (T ++ [(u, (v : Int))]) := by
  have hn : nodesT (T ++ [(u, (v : Int))]) = nodesT T ++ [u] := by simp [nodesT]
  refine ⟨?_, ?_, ?_, ?_⟩
  · rw [hn, List.nodup_append]
    refine ⟨h.nodup, by simp, fun x hx y hy => ?_⟩
    rw [List.mem_singleton] at hy
    rintro rfl
    rw [hy] at hx
    exact hu hx
  · obtain ⟨T', rfl⟩ := h.root
    exact ⟨T' ++ [(u, (v : Int))], rfl⟩
  · intro x hx
    rw [hn, List.mem_append, List.mem_singleton] at hx
    rcases hx with hx | rfl
    · exact h.lt x hx
    · exact (hg.adj_lt ha).2
  · intro T1 u' q T2 he
    rcases List.eq_nil_or_concat T2 with rfl | ⟨T3, y, rfl⟩
    · obtain ⟨rfl, h2⟩ := List.append_inj' he rfl
      simp only [List.cons.injEq, Prod.mk.injEq, and_true] at h2
      obtain ⟨rfl, rfl⟩ := h2
      exact .inr ⟨v, rfl, hv, ha, hW, ht⟩
    · rw [List.concat_eq_append, ← List.cons_append, ← List.append_assoc] at he
      exact h.par T1 u' q T3 (List.append_inj' he rfl).1

theorem bw0 (hg : GrB g) (ha : a < g.length) : BW g a to W [(a, -1)] := by
  refine ⟨by simp [nodesT], ⟨[], rfl⟩, by simp [nodesT]; exact ha, fun T1 u q T2 he => ?_⟩
  cases T1 with
  | nil => exact .inl rfl
  | cons b T1 => simp at he

theorem BW.parP (h : BW g a to W T) {x : Nat} {q : Int} (hx : (x, q) ∈ T) : parP T x = q := by
  obtain ⟨T1, T2, rfl, h2⟩ := split_at hx h.nodup
  exact parP_at h2

/-- A node is the root, or has its parent earlier. -/
theorem BW.node (h : BW g a to W T) {v : Nat} (hv : v ∈ nodesT T) : (v = a ∧ (v, -1) ∈ T) ∨ ∃ p : Nat, (v, (p : Int)) ∈ T ∧ p ∈ nodesT T ∧ numP T p < numP T v ∧ adj g p v = true ∧ W.testBit v = true ∧ to.testBit p = false := by
  obtain ⟨T1, q, T2, rfl, h2⟩ := split_node hv h.nodup
  rcases h.par T1 v q T2 rfl with rfl | ⟨p, rfl, h3, h4, h5, h6⟩
  · obtain ⟨T', hT⟩ := h.root
    simp only [List.nil_append, List.cons.injEq, Prod.mk.injEq] at hT
    obtain ⟨⟨rfl, rfl⟩, _⟩ := hT
    exact .inl ⟨rfl, by simp⟩
  · refine .inr ⟨p, by simp, ?_, ?_, h4, h5, h6⟩
    · rw [nodesT_app]; exact List.mem_append_left _ h3
    · rw [numP_at h2]; exact numP_ahead h3

theorem BW.up (h : BW g a to W T) : ∀ (d v : Nat), v ∈ nodesT T → numP T v < d → ∃ l, Up T v l := by
  intro d
  induction d with
  | zero => intro v _ hd; omega
  | succ d ih =>
    intro v hv hd
    rcases h.node hv with ⟨_, h1⟩ | ⟨p, h1, h2, h3, _⟩
    · exact ⟨[v], .root h1⟩
    · obtain ⟨l, hl⟩ := ih p h2 (by omega)
      exact ⟨v :: l, .step h1 hl⟩

/-- A way from a node (the list's last one) to another (its first one): read backward. -/
structure WayB (g : List Nat) (a W to : Nat) (l : List Nat) : Prop where
  last : l.getLast? = some a
  nodup : l.Nodup
  lt : ∀ x ∈ l, x < g.length
  chain : ∀ i, i + 1 < l.length → adj g (nb l (i + 1)) (nb l i) = true
  inW : ∀ x ∈ l.dropLast, W.testBit x = true
  noTo : ∀ x ∈ l.tail, to.testBit x = false

theorem Up.way (h : BW g a to W T) {v : Nat} {l : List Nat} (hu : Up T v l) : WayB g a W to l ∧ l.head? = some v ∧ ∀ x ∈ l, x ∈ nodesT T ∧ numP T x ≤ numP T v := by
  induction hu with
  | @root v hv =>
    have hvn : v ∈ nodesT T := List.mem_map.2 ⟨_, hv, rfl⟩
    rcases h.node hvn with ⟨h1, _⟩ | ⟨p, h1, _⟩
    · subst h1
      refine ⟨⟨rfl, by simp, ?_, ?_, by simp, by simp⟩, rfl, ?_⟩
      · intro x hx; rw [List.mem_singleton] at hx; rw [hx]; exact h.lt v hvn
      · intro i hi; simp at hi
      · intro x hx; rw [List.mem_singleton] at hx; rw [hx]; exact ⟨hvn, Nat.le_refl _⟩
    · have e1 := h.parP hv
      rw [h.parP h1] at e1
      omega
  | @step v p l hv hl ih =>
    obtain ⟨w, hd, hle⟩ := ih
    have hvn : v ∈ nodesT T := List.mem_map.2 ⟨_, hv, rfl⟩
    rcases h.node hvn with ⟨_, h1⟩ | ⟨p', h1, h2, h3, h4, h5, h6⟩
    · have e1 := h.parP hv
      rw [h.parP h1] at e1
      omega
    · have e1 := h.parP hv
      rw [h.parP h1] at e1
      have := Int.natCast_inj.1 e1
      subst this
      have hne : l ≠ [] := by rintro rfl; simp at hd
      obtain ⟨y, l', rfl⟩ : ∃ y l', l = y :: l' := by
        cases l with
        | nil => exact absurd rfl hne
        | cons y l' => exact ⟨y, l', rfl⟩
      simp only [List.head?_cons, Option.some.injEq] at hd
      subst hd
      refine ⟨⟨?_, ?_, ?_, ?_, ?_, ?_⟩, rfl, ?_⟩
      · rw [List.getLast?_cons_cons]; exact w.last
      · rw [List.nodup_cons]
        refine ⟨fun hm => ?_, w.nodup⟩
        have := (hle v hm).2
        omega
      · intro x hx
        rw [List.mem_cons] at hx
        rcases hx with rfl | hx
        · exact h.lt _ hvn
        · exact w.lt x hx
      · intro i hi
        cases i with
        | zero => exact h4
        | succ i =>
          have := w.chain i (by simpa using hi)
          exact this
      · intro x hx
        rw [List.dropLast_cons_of_ne_nil (by simp), List.mem_cons] at hx
        rcases hx with rfl | hx
        · exact h5
        · exact w.inW x hx
      · intro x hx
        simp only [List.tail_cons, List.mem_cons] at hx
        rcases hx with rfl | hx
        · exact h6
        · exact w.noTo x hx
      · intro x hx
        rw [List.mem_cons] at hx
        rcases hx with rfl | hx
        · exact ⟨hvn, Nat.le_refl _⟩
        · have := hle x hx
          exact ⟨this.1, by omega⟩

/-- Where all that was seen has been gone on from, nothing else is reached. -/
theorem BW.closed (h : BW g a to W T) (hc : ∀ v ∈ nodesT T, ∀ u, adj g v u = true → W.testBit u = true → u ∈ nodesT T) {u : Nat} (hr : Rch g W a u) : u ∈ nodesT T := by
  induction hr with
  | base =>
    obtain ⟨T', rfl⟩ := h.root
    simp [nodesT]
  | step _ h2 h3 ih => exact hc _ ih _ h2 h3

end
end Go.AM

end

section

/- The staged forms of functions 42, 86, 88, 104, 97, 111, 55, 57, 98, 8, 13, and what calls of these answer. -/
namespace Go.AM
open Go.Proofs
noncomputable def f42_l2 (rec : Rec) (_k : Nat) (v2 : Value) (h3 : H) (h5 : H) (h7 : H) (v21 : Value) (n6 : Int) (ws1 : List Value) (h21 : H) : Option (Ex × List Value × H) :=
  asI .i64 (gv ws1 0) fun n7 =>
  ifB (lt n7 n6) (
    asK (gv ws1 0) fun n8 =>
    six v21 n8 1 fun b2 b3 =>
    ld Tryd.prog h21 3 b2 b3 fun v22 =>
    asI .i64 v22 fun n9 =>
    ld Tryd.prog h21 78 (nx h3) 0 fun v23 =>
    six v23 n9 1 fun b4 b5 =>
    ld Tryd.prog h21 3 b4 b5 fun v24 =>
    asI .i64 v24 fun n10 =>
    ifB (eq n10 0) (
      asI .i64 (gv ws1 0) fun n11 =>
      out .normal [(.int .i64 (add .i64 n11 1))] h21) (
      ld Tryd.prog h21 78 (nx h3) 0 fun v25 =>
      six v25 n9 1 fun b6 b7 =>
      ld Tryd.prog h21 3 b6 b7 fun v26 =>
      asI .i64 v26 fun n12 =>
      calls rec h21 89 [(.int .u64 (wr .u64 n12))] fun v27 h22 =>
      asI .i64 v27 fun n13 =>
      ld Tryd.prog h22 3 (nx h5) 0 fun v28 =>
      asI .i64 v28 fun n14 =>
      nn n9 (
        calls rec h22 65 [v2] fun v29 h23 =>
        asI .i64 v29 fun n15 =>
        ck (freq (nx h5) (nx h22) (same h23 h22)) (
          ld Tryd.prog h23 3 (nx h5) 0 fun v30 =>
          asI .i64 v30 fun n16 =>
          ck (freq (nx h5) (nx h22) (same h23 h22)) (
            calls rec h23 88 [v2, (.int .i64 n13), (.int .i64 (andNot .i64 n14 (shl .i64 1 n9))), (.int .i64 (andNot .i64 n15 n16))] fun v31 h24 =>
            bls Tryd.prog h24 102 1 [(0, (.int .i64 n9))] fun v32 h25 =>
            ck (freq (nx h5) (nx h24) (same h25 h24)) (
              ck (freq (nx h5) (nx h24) (same h25 h24)) (
                app Tryd.prog h25 102 22 v32 v31 fun v33 h26 =>
                calls rec h26 86 [v33, (pt (nx h5) 0), (pt (nx h3) 0), (pt (nx h7) 0)] fun _ h27 =>
                out (.exit 2) [gv ws1 0] h27))))))) (
    out (.exit 2) [gv ws1 0] h21)

noncomputable def f42_l1 (rec : Rec) (k : Nat) (v2 : Value) (h3 : H) (h5 : H) (h7 : H) (_ws0 : List Value) (h18 : H) : Option (Ex × List Value × H) :=
  ld Tryd.prog h18 78 (nx h3) 0 fun v18 =>
  calls rec h18 77 [v18] fun v19 h19 =>
  len v19 fun n4 =>
  ifB (lt 0 n4) (
    ld Tryd.prog h19 3 (nx h5) 0 fun v20 =>
    asI .i64 v20 fun n5 =>
    calls rec h19 76 [(.int .i64 n5)] fun v21 h20 =>
    len v21 fun n6 =>
    lp k (f42_l2 rec k v2 h3 h5 h7 v21 n6) [(.int .i64 0)] h20 fun e0 _ h28 =>
    onE e0 2 (
      out .normal [] h28) (
      none)) (
    out (.exit 0) [] h19)

noncomputable def f42 (rec : Rec) (k : Nat) (v0 : Value) (h0 : H) : Option (Value × H) :=
  calls rec h0 63 [v0] fun v1 h1 =>
  ext v1 0 fun v2 =>
  ext v1 1 fun v3 =>
  asB v3 fun q0 =>
  ifB (not q0) (
    some ((.tuple #[(.slice none 0 0), (.int .i64 2)]), h1)) (
    calls rec h1 81 [v2] fun v4 h2 =>
    asB v4 fun q1 =>
    ifB (not q1) (
      some ((.tuple #[(.slice none 0 0), (.int .i64 5)]), h2)) (
      calls rec h2 85 [v2] fun v5 h3 =>
      al h3 78 [(.slice none 0 0)] fun h4 =>
      st Tryd.prog h4 78 (nx h3) 0 v5 fun h5 =>
      al h5 3 [(.int .i64 0)] fun h6 =>
      st Tryd.prog h6 3 (nx h5) 0 (.int .i64 0) fun h7 =>
      al h7 56 [(.slice none 0 0)] fun h8 =>
      calls rec h8 77 [v2] fun v6 h9 =>
      six v6 0 2 fun b0 b1 =>
      ld Tryd.prog h9 32 b0 b1 fun v7 =>
      al h9 32 [(.int .i64 0), (.int .i64 0)] fun h10 =>
      st Tryd.prog h10 32 (nx h9) 0 v7 fun h11 =>
      ld Tryd.prog h11 32 (nx h9) 0 fun v8 =>
      calls rec h11 87 [v2, v8] fun v9 h12 =>
      aix 2 0 (
        ld Tryd.prog h12 3 (nx h9) (at_ 0 0 1) fun v10 =>
        asI .i64 v10 fun n0 =>
        ck (freq (nx h9) (nx h11) (same h12 h11)) (
          aix 2 1 (
            ld Tryd.prog h12 3 (nx h9) (at_ 0 1 1) fun v11 =>
            asI .i64 v11 fun n1 =>
            ck (freq (nx h9) (nx h11) (same h12 h11)) (
              nn n1 (
                calls rec h12 65 [v2] fun v12 h13 =>
                asI .i64 v12 fun n2 =>
                ck (freq (nx h9) (nx h12) (same h13 h12)) (
                  ck (freq (nx h9) (nx h12) (same h13 h12)) (
                    calls rec h13 88 [v9, (.int .i64 n0), (.int .i64 (shl .i64 1 n1)), (.int .i64 n2)] fun v13 h14 =>
                    aix 2 0 (
                      ld Tryd.prog h14 3 (nx h9) (at_ 0 0 1) fun v14 =>
                      asI .i64 v14 fun n3 =>
                      ck (freq (nx h9) (nx h13) (same h14 h13)) (
                        ck (freq (nx h9) (nx h12) (same h13 h12)) (
                          ck (freq (nx h9) (nx h11) (same h12 h11)) (
                            bls Tryd.prog h14 102 1 [(0, (.int .i64 n3))] fun v15 h15 =>
                            ck (freq (nx h9) (nx h14) (same h15 h14)) (
                              ck (freq (nx h9) (nx h14) (same h15 h14)) (
                                ck (freq (nx h9) (nx h14) (same h15 h14)) (
                                  app Tryd.prog h15 102 102 v13 v15 fun v16 h16 =>
                                  calls rec h16 86 [v16, (pt (nx h5) 0), (pt (nx h3) 0), (pt (nx h7) 0)] fun _ h17 =>
                                  lp k (f42_l1 rec k v2 h3 h5 h7) [] h17 fun e1 _ h29 =>
                                  onE e1 0 (
                                    ld Tryd.prog h29 56 (nx h7) 0 fun v35 =>
                                    some ((.tuple #[v35, (.int .i64 0)]), h29)) (
                                    none)))))))))))))))))

theorem e42 (rec : Rec) (k : Nat) (v0 : Value) (h : H) : bodyT Tryd.prog E0 SC (XC Tryd.prog rec k) 42 (Value × H) [.opq v0] h (fun v h => some (v, h)) = f42 rec k v0 h := by kernel_rfl

theorem t42 {k : Nat} {v0 : Value} {h h1 : H} {v : Value} (hh : f42 rn k v0 h = some (v, h1)) : rn 42 #[v0] h = some (v, trunc Tryd.prog h h1 v) :=
  run_of_bodyT (args := [.opq v0]) rfl ((e42 _ _ _ _).trans hh)

theorem x42 {k : Nat} {v0 : Value} {h h1 : H} {v : Value} (hh : f42 rn k v0 h = some (v, h1)) (hp : plainO v = false) : ∃ h2, rn 42 #[v0] h = some (v, h2) ∧ Sm h1 h2 ∧ (Ext h h1 → Exw h h2) := trunc_cell hp (t42 hh)

theorem y42 {k : Nat} {v0 : Value} {h : H} {v : Value} (hh : f42 rn k v0 h = some (v, h)) : rn 42 #[v0] h = some (v, h) := by rw [t42 hh, trunc_self]

noncomputable def f86_l1 (rec : Rec) (_k : Nat) (v0 : Value) (v1 : Value) (v2 : Value) (n0 : Int) (ws0 : List Value) (h1 : H) : Option (Ex × List Value × H) :=
  asI .i64 (gv ws0 0) fun n1 =>
  ifB (lt n1 n0) (
    asK (gv ws0 0) fun n2 =>
    six v0 n2 1 fun b0 b1 =>
    ld Tryd.prog h1 3 b0 b1 fun v4 =>
    asI .i64 v4 fun n3 =>
    asP v1 fun _ _ =>
    asP v1 fun b4 b5 =>
    ld Tryd.prog h1 3 b4 b5 fun v5 =>
    asI .i64 v5 fun n4 =>
    nn n3 (
      asP v1 fun _ _ =>
      asP v1 fun b8 b9 =>
      st Tryd.prog h1 3 b8 b9 (.int .i64 (or .i64 n4 (shl .i64 1 n3))) fun h2 =>
      asI .i64 (gv ws0 0) fun n5 =>
      ifB (lt 0 n5) (
        asP v2 fun _ _ =>
        asP v2 fun b12 b13 =>
        ld Tryd.prog h2 78 b12 b13 fun v6 =>
        asI .i64 (gv ws0 0) fun n6 =>
        six v0 (sub .i64 n6 1) 1 fun b14 b15 =>
        ld Tryd.prog h2 3 b14 b15 fun v7 =>
        asI .i64 v7 fun n7 =>
        bld Tryd.prog 32 [(0, (.int .i64 n7)), (1, (.int .i64 n3))] fun v8 =>
        calls rec h2 87 [v6, v8] fun v9 h3 =>
        asP v2 fun _ _ =>
        asP v2 fun b18 b19 =>
        st Tryd.prog h3 78 b18 b19 v9 fun h4 =>
        asI .i64 (gv ws0 0) fun n8 =>
        out .normal [(.int .i64 (add .i64 n8 1))] h4) (
        asI .i64 (gv ws0 0) fun n9 =>
        out .normal [(.int .i64 (add .i64 n9 1))] h2))) (
    out (.exit 0) [gv ws0 0] h1)

noncomputable def f86 (rec : Rec) (k : Nat) (v0 : Value) (v1 : Value) (v2 : Value) (v3 : Value) (h0 : H) : Option (Value × H) :=
  len v0 fun n0 =>
  lp k (f86_l1 rec k v0 v1 v2 n0) [(.int .i64 0)] h0 fun e0 _ h5 =>
  onE e0 0 (
    asP v3 fun b20 b21 =>
    ld Tryd.prog h5 56 b20 b21 fun v10 =>
    bls Tryd.prog h5 56 1 [(0, v0)] fun v11 h6 =>
    app Tryd.prog h6 56 56 v10 v11 fun v12 h7 =>
    asP v3 fun b22 b23 =>
    st Tryd.prog h7 56 b22 b23 v12 fun h8 =>
    some (undef, h8)) (
    none)

theorem e86 (rec : Rec) (k : Nat) (v0 : Value) (v1 : Value) (v2 : Value) (v3 : Value) (h : H) : bodyT Tryd.prog E0 SC (XC Tryd.prog rec k) 86 (Value × H) [.opq v0, .opq v1, .opq v2, .opq v3] h (fun v h => some (v, h)) = f86 rec k v0 v1 v2 v3 h := by kernel_rfl

theorem t86 {k : Nat} {v0 : Value} {v1 : Value} {v2 : Value} {v3 : Value} {h h1 : H} {v : Value} (hh : f86 rn k v0 v1 v2 v3 h = some (v, h1)) : rn 86 #[v0, v1, v2, v3] h = some (v, trunc Tryd.prog h h1 v) :=
  run_of_bodyT (args := [.opq v0, .opq v1, .opq v2, .opq v3]) rfl ((e86 _ _ _ _ _ _ _).trans hh)

noncomputable def f88_l2 (_rec : Rec) (_k : Nat) (h0 : H) (ws1 : List Value) (h5 : H) : Option (Ex × List Value × H) :=
  asI .i64 (gv ws1 1) fun n5 =>
  ifB (le 0 n5) (
    bls Tryd.prog h5 22 1 [(0, gv ws1 1)] fun v3 h6 =>
    app Tryd.prog h6 22 22 (gv ws1 0) v3 fun v4 h7 =>
    lok Tryd.prog h7 87 (.map (some (nx h0))) (gv ws1 1) false fun v5 =>
    asI .i64 v5 fun n6 =>
    out .normal [v4, (.int .i64 n6)] h7) (
    out (.exit 2) [gv ws1 0, gv ws1 1] h5)

noncomputable def f88_l3 (_rec : Rec) (_k : Nat) (h0 : H) (n4 : Int) (v8 : Value) (n8 : Int) (ws3 : List Value) (h11 : H) : Option (Ex × List Value × H) :=
  asI .i64 (gv ws3 1) fun n9 =>
  ifB (lt n9 n8) (
    asK (gv ws3 1) fun n10 =>
    six v8 n10 1 fun b4 b5 =>
    ld Tryd.prog h11 3 b4 b5 fun v9 =>
    asI .i64 v9 fun n11 =>
    lok Tryd.prog h11 87 (.map (some (nx h0))) (.int .i64 n11) true fun v10 =>
    ext v10 0 fun v11 =>
    asI .i64 v11 fun _ =>
    ext v10 1 fun v12 =>
    asB v12 fun q0 =>
    ifB (not q0) (
      mup Tryd.prog h11 87 (.map (some (nx h0))) (.int .i64 n11) (.int .i64 n4) fun h12 =>
      bls Tryd.prog h12 22 1 [(0, (.int .i64 n11))] fun v13 h13 =>
      app Tryd.prog h13 22 22 (gv ws3 0) v13 fun v14 h14 =>
      asI .i64 (gv ws3 1) fun n13 =>
      out .normal [v14, (.int .i64 (add .i64 n13 1))] h14) (
      asI .i64 (gv ws3 1) fun n14 =>
      out .normal [gv ws3 0, (.int .i64 (add .i64 n14 1))] h11)) (
    out (.exit 4) [gv ws3 0, gv ws3 1] h11)

noncomputable def f88_l1 (rec : Rec) (k : Nat) (v0 : Value) (n1 : Int) (n2 : Int) (h0 : H) (ws0 : List Value) (h4 : H) : Option (Ex × List Value × H) :=
  len (gv ws0 1) fun n3 =>
  ifB (lt 0 n3) (
    six (gv ws0 1) 0 1 fun b0 b1 =>
    ld Tryd.prog h4 3 b0 b1 fun v2 =>
    asI .i64 v2 fun n4 =>
    nn n4 (
      ifB (eq (and .i64 (shr .i64 n1 n4) 1) 1) (
        lp k (f88_l2 rec k h0) [(.slice none 0 0), (.int .i64 n4)] h4 fun e0 ws2 h8 =>
        onE e0 2 (
          calls rec h8 104 [gv ws2 0] fun _ h9 =>
          out .ret [gv ws2 0, gv ws0 1] h9) (
          none)) (
        six v0 n4 1 fun b2 b3 =>
        ld Tryd.prog h4 3 b2 b3 fun v7 =>
        asI .i64 v7 fun n7 =>
        calls rec h4 76 [(.int .i64 (and .i64 n7 (or .i64 n2 n1)))] fun v8 h10 =>
        len v8 fun n8 =>
        lp k (f88_l3 rec k h0 n4 v8 n8) [gv ws0 1, (.int .i64 0)] h10 fun e1 ws4 h15 =>
        onE e1 4 (
          sli Tryd.prog h15 22 (gv ws4 0) (some (.int .i64 1)) none none fun v15 =>
          out .normal [gv ws0 0, v15] h15) (
          none)))) (
    out (.exit 0) [gv ws0 0, gv ws0 1] h4)

noncomputable def f88 (rec : Rec) (k : Nat) (v0 : Value) (n0 : Int) (n1 : Int) (n2 : Int) (h0 : H) : Option (Value × H) :=
  mkm h0 fun h1 =>
  mup Tryd.prog h1 87 (.map (some (nx h0))) (.int .i64 n0) (.int .i64 (-1)) fun h2 =>
  bls Tryd.prog h2 22 1 [(0, (.int .i64 n0))] fun v1 h3 =>
  lp k (f88_l1 rec k v0 n1 n2 h0) [(.slice none 0 0), v1] h3 fun e2 ws5 h16 =>
  onE e2 0 (
    some ((.slice none 0 0), h16)) (
    onR e2 (
      some (gv ws5 0, h16)))

theorem e88 (rec : Rec) (k : Nat) (v0 : Value) (n0 : Int) (n1 : Int) (n2 : Int) (h : H) : bodyT Tryd.prog E0 SC (XC Tryd.prog rec k) 88 (Value × H) [.opq v0, .int .i64 n0, .int .i64 n1, .int .i64 n2] h (fun v h => some (v, h)) = f88 rec k v0 n0 n1 n2 h := by kernel_rfl

theorem t88 {k : Nat} {v0 : Value} {n0 : Int} {n1 : Int} {n2 : Int} {h h1 : H} {v : Value} (hh : f88 rn k v0 n0 n1 n2 h = some (v, h1)) : rn 88 #[v0, .int .i64 n0, .int .i64 n1, .int .i64 n2] h = some (v, trunc Tryd.prog h h1 v) :=
  run_of_bodyT (args := [.opq v0, .int .i64 n0, .int .i64 n1, .int .i64 n2]) rfl ((e88 _ _ _ _ _ _ _).trans hh)

theorem x88 {k : Nat} {v0 : Value} {n0 : Int} {n1 : Int} {n2 : Int} {h h1 : H} {v : Value} (hh : f88 rn k v0 n0 n1 n2 h = some (v, h1)) (hp : plainO v = false) : ∃ h2, rn 88 #[v0, .int .i64 n0, .int .i64 n1, .int .i64 n2] h = some (v, h2) ∧ Sm h1 h2 ∧ (Ext h h1 → Exw h h2) := trunc_cell hp (t88 hh)

noncomputable def f104_l1 (_rec : Rec) (_k : Nat) (v0 : Value) (ws0 : List Value) (h1 : H) : Option (Ex × List Value × H) :=
  asI .i64 (gv ws0 0) fun n1 =>
  asI .i64 (gv ws0 1) fun n2 =>
  ifB (lt n1 n2) (
    asK (gv ws0 1) fun n3 =>
    six v0 n3 1 fun b0 b1 =>
    ld Tryd.prog h1 3 b0 b1 fun v1 =>
    asI .i64 v1 fun n4 =>
    asK (gv ws0 0) fun n5 =>
    six v0 n5 1 fun b2 b3 =>
    ld Tryd.prog h1 3 b2 b3 fun v2 =>
    asI .i64 v2 fun n6 =>
    asK (gv ws0 0) fun n7 =>
    six v0 n7 1 fun b4 b5 =>
    st Tryd.prog h1 3 b4 b5 (.int .i64 n4) fun h2 =>
    asK (gv ws0 1) fun n8 =>
    six v0 n8 1 fun b6 b7 =>
    st Tryd.prog h2 3 b6 b7 (.int .i64 n6) fun h3 =>
    asI .i64 (gv ws0 0) fun n9 =>
    asI .i64 (gv ws0 1) fun n10 =>
    out .normal [(.int .i64 (add .i64 n9 1)), (.int .i64 (sub .i64 n10 1))] h3) (
    out (.exit 0) [gv ws0 0, gv ws0 1] h1)

noncomputable def f104 (rec : Rec) (k : Nat) (v0 : Value) (h0 : H) : Option (Value × H) :=
  len v0 fun n0 =>
  lp k (f104_l1 rec k v0) [(.int .i64 0), (.int .i64 (sub .i64 n0 1))] h0 fun e0 _ h4 =>
  onE e0 0 (
    some (undef, h4)) (
    none)

theorem e104 (rec : Rec) (k : Nat) (v0 : Value) (h : H) : bodyT Tryd.prog E0 SC (XC Tryd.prog rec k) 104 (Value × H) [.opq v0] h (fun v h => some (v, h)) = f104 rec k v0 h := by kernel_rfl

theorem t104 {k : Nat} {v0 : Value} {h h1 : H} {v : Value} (hh : f104 rn k v0 h = some (v, h1)) : rn 104 #[v0] h = some (v, trunc Tryd.prog h h1 v) :=
  run_of_bodyT (args := [.opq v0]) rfl ((e104 _ _ _ _).trans hh)

noncomputable def f97 (rec : Rec) (_k : Nat) (v0 : Value) (n0 : Int) (h0 : H) : Option (Value × H) :=
  calls rec h0 111 [v0, (.int .i64 n0)] fun v1 h1 =>
  asI .i64 v1 fun n1 =>
  some ((.bool (le 0 n1)), h1)

theorem e97 (rec : Rec) (k : Nat) (v0 : Value) (n0 : Int) (h : H) : bodyT Tryd.prog E0 SC (XC Tryd.prog rec k) 97 (Value × H) [.opq v0, .int .i64 n0] h (fun v h => some (v, h)) = f97 rec k v0 n0 h := by kernel_rfl

theorem t97 {k : Nat} {v0 : Value} {n0 : Int} {h h1 : H} {v : Value} (hh : f97 rn k v0 n0 h = some (v, h1)) : rn 97 #[v0, .int .i64 n0] h = some (v, trunc Tryd.prog h h1 v) :=
  run_of_bodyT (args := [.opq v0, .int .i64 n0]) rfl ((e97 _ _ _ _ _).trans hh)

theorem p97 {k : Nat} {v0 : Value} {n0 : Int} {h h1 : H} {v : Value} (hh : f97 rn k v0 n0 h = some (v, h1)) (hp : plainO v = true) (x : Ext h h1) : rn 97 #[v0, .int .i64 n0] h = some (v, h) := by rw [t97 hh, trunc_pure hp x]

noncomputable def f111_l1 (_rec : Rec) (_k : Nat) (v0 : Value) (n0 : Int) (n1 : Int) (ws0 : List Value) (h1 : H) : Option (Ex × List Value × H) :=
  asI .i64 (gv ws0 1) fun n2 =>
  ifB (lt n2 n1) (
    asK (gv ws0 1) fun n3 =>
    six v0 n3 1 fun b0 b1 =>
    ld Tryd.prog h1 3 b0 b1 fun v1 =>
    asI .i64 v1 fun n4 =>
    ifB (eq n0 n4) (
      out .ret [gv ws0 1, gv ws0 1] h1) (
      asI .i64 (gv ws0 1) fun n5 =>
      out .normal [gv ws0 0, (.int .i64 (add .i64 n5 1))] h1)) (
    out (.exit 0) [gv ws0 0, gv ws0 1] h1)

noncomputable def f111 (rec : Rec) (k : Nat) (v0 : Value) (n0 : Int) (h0 : H) : Option (Value × H) :=
  len v0 fun n1 =>
  lp k (f111_l1 rec k v0 n0 n1) [(.int .i64 0), (.int .i64 0)] h0 fun e0 ws1 h2 =>
  onE e0 0 (
    some ((.int .i64 (-1)), h2)) (
    onR e0 (
      some (gv ws1 0, h2)))

theorem e111 (rec : Rec) (k : Nat) (v0 : Value) (n0 : Int) (h : H) : bodyT Tryd.prog E0 SC (XC Tryd.prog rec k) 111 (Value × H) [.opq v0, .int .i64 n0] h (fun v h => some (v, h)) = f111 rec k v0 n0 h := by kernel_rfl

theorem t111 {k : Nat} {v0 : Value} {n0 : Int} {h h1 : H} {v : Value} (hh : f111 rn k v0 n0 h = some (v, h1)) : rn 111 #[v0, .int .i64 n0] h = some (v, trunc Tryd.prog h h1 v) :=
  run_of_bodyT (args := [.opq v0, .int .i64 n0]) rfl ((e111 _ _ _ _ _).trans hh)

theorem p111 {k : Nat} {v0 : Value} {n0 : Int} {h h1 : H} {v : Value} (hh : f111 rn k v0 n0 h = some (v, h1)) (hp : plainO v = true) (x : Ext h h1) : rn 111 #[v0, .int .i64 n0] h = some (v, h) := by rw [t111 hh, trunc_pure hp x]

noncomputable def f55_l1 (_rec : Rec) (_k : Nat) (v1 : Value) (n0 : Int) (ws0 : List Value) (h2 : H) : Option (Ex × List Value × H) :=
  asI .i64 (gv ws0 1) fun n1 =>
  ifB (lt n1 n0) (
    asK (gv ws0 1) fun n2 =>
    six v1 n2 1 fun b0 b1 =>
    ld Tryd.prog h2 22 b0 b1 fun v2 =>
    bls Tryd.prog h2 56 1 [(0, v2)] fun v3 h3 =>
    app Tryd.prog h3 56 56 (gv ws0 0) v3 fun v4 h4 =>
    asI .i64 (gv ws0 1) fun n3 =>
    out .normal [v4, (.int .i64 (add .i64 n3 1))] h4) (
    out (.exit 0) [gv ws0 0, gv ws0 1] h2)

noncomputable def f55 (rec : Rec) (k : Nat) (v0 : Value) (h0 : H) : Option (Value × H) :=
  calls rec h0 98 [v0] fun v1 h1 =>
  len v1 fun n0 =>
  lp k (f55_l1 rec k v1 n0) [(.slice none 0 0), (.int .i64 0)] h1 fun e0 ws1 h5 =>
  onE e0 0 (
    some (gv ws1 0, h5)) (
    none)

theorem e55 (rec : Rec) (k : Nat) (v0 : Value) (h : H) : bodyT Tryd.prog E0 SC (XC Tryd.prog rec k) 55 (Value × H) [.opq v0] h (fun v h => some (v, h)) = f55 rec k v0 h := by kernel_rfl

theorem t55 {k : Nat} {v0 : Value} {h h1 : H} {v : Value} (hh : f55 rn k v0 h = some (v, h1)) : rn 55 #[v0] h = some (v, trunc Tryd.prog h h1 v) :=
  run_of_bodyT (args := [.opq v0]) rfl ((e55 _ _ _ _).trans hh)

theorem x55 {k : Nat} {v0 : Value} {h h1 : H} {v : Value} (hh : f55 rn k v0 h = some (v, h1)) (hp : plainO v = false) : ∃ h2, rn 55 #[v0] h = some (v, h2) ∧ Sm h1 h2 ∧ (Ext h h1 → Exw h h2) := trunc_cell hp (t55 hh)

noncomputable def f98_l1 (rec : Rec) (_k : Nat) (v0 : Value) (n0 : Int) (ws0 : List Value) (h1 : H) : Option (Ex × List Value × H) :=
  asI .i64 (gv ws0 1) fun n1 =>
  ifB (lt n1 n0) (
    asK (gv ws0 1) fun n2 =>
    six v0 n2 1 fun b0 b1 =>
    ld Tryd.prog h1 22 b0 b1 fun v1 =>
    asI .i64 (gv ws0 1) fun n3 =>
    ifB (lt n3 50) (
      calls rec h1 36 [v1] fun v2 h2 =>
      bls Tryd.prog h2 68 1 [(0, v2)] fun v3 h3 =>
      app Tryd.prog h3 68 68 (gv ws0 0) v3 fun v4 h4 =>
      asI .i64 (gv ws0 1) fun n4 =>
      out .normal [v4, (.int .i64 (add .i64 n4 1))] h4) (
      asI .i64 (gv ws0 1) fun n5 =>
      out .normal [gv ws0 0, (.int .i64 (add .i64 n5 1))] h1)) (
    out (.exit 0) [gv ws0 0, gv ws0 1] h1)

noncomputable def f98 (rec : Rec) (k : Nat) (v0 : Value) (h0 : H) : Option (Value × H) :=
  len v0 fun n0 =>
  lp k (f98_l1 rec k v0 n0) [(.slice none 0 0), (.int .i64 0)] h0 fun e0 ws1 h5 =>
  onE e0 0 (
    some (gv ws1 0, h5)) (
    none)

theorem e98 (rec : Rec) (k : Nat) (v0 : Value) (h : H) : bodyT Tryd.prog E0 SC (XC Tryd.prog rec k) 98 (Value × H) [.opq v0] h (fun v h => some (v, h)) = f98 rec k v0 h := by kernel_rfl

theorem t98 {k : Nat} {v0 : Value} {h h1 : H} {v : Value} (hh : f98 rn k v0 h = some (v, h1)) : rn 98 #[v0] h = some (v, trunc Tryd.prog h h1 v) :=
  run_of_bodyT (args := [.opq v0]) rfl ((e98 _ _ _ _).trans hh)

theorem x98 {k : Nat} {v0 : Value} {h h1 : H} {v : Value} (hh : f98 rn k v0 h = some (v, h1)) (hp : plainO v = false) : ∃ h2, rn 98 #[v0] h = some (v, h2) ∧ Sm h1 h2 ∧ (Ext h h1 → Exw h h2) := trunc_cell hp (t98 hh)

noncomputable def f8_l1 (rec : Rec) (_k : Nat) (v0 : Value) (n1 : Int) (ws0 : List Value) (h5 : H) : Option (Ex × List Value × H) :=
  asI .i64 (gv ws0 1) fun n2 =>
  ifB (lt n2 n1) (
    asK (gv ws0 1) fun n3 =>
    six v0 n3 1 fun b0 b1 =>
    ld Tryd.prog h5 3 b0 b1 fun v7 =>
    asI .i64 v7 fun n4 =>
    calls rec h5 43 [(.int .i64 n4)] fun v8 h6 =>
    asI .i64 v8 fun n5 =>
    asI .i64 (gv ws0 0) fun n6 =>
    asI .i64 (gv ws0 1) fun n7 =>
    out .normal [(.int .i64 (add .i64 n6 n5)), (.int .i64 (add .i64 n7 1))] h6) (
    out (.exit 0) [gv ws0 0, gv ws0 1] h5)

noncomputable def f8 (rec : Rec) (k : Nat) (v0 : Value) (h0 : H) : Option (Value × H) :=
  calls rec h0 18 [v0] fun v1 h1 =>
  calls rec h1 42 [v1] fun v2 h2 =>
  ext v2 0 fun v3 =>
  ext v2 1 fun v4 =>
  asI .i64 v4 fun n0 =>
  ifB (not (eq n0 0)) (
    ifB (eq n0 2) (
      calls rec h2 20 [] fun v5 h3 =>
      asB v5 fun q0 =>
      some ((.bool q0), h3)) (
      ifB (eq n0 5) (
        calls rec h2 20 [] fun v6 h4 =>
        asB v6 fun q1 =>
        some ((.bool q1), h4)) (
        some ((.bool false), h2)))) (
    len v0 fun n1 =>
    lp k (f8_l1 rec k v0 n1) [(.int .i64 0), (.int .i64 0)] h2 fun e0 ws1 h7 =>
    onE e0 0 (
      len v3 fun n8 =>
      asI .i64 (gv ws1 0) fun n9 =>
      nz 2 (
        len v0 fun n10 =>
        ifB (eq n8 (add .i64 (sub .i64 (quo .i64 n9 2) n10) 1)) (
          calls rec h7 20 [] fun v9 h8 =>
          asB v9 fun q2 =>
          some ((.bool q2), h8)) (
          some ((.bool false), h7)))) (
      none))

theorem e8 (rec : Rec) (k : Nat) (v0 : Value) (h : H) : bodyT Tryd.prog E0 SC (XC Tryd.prog rec k) 8 (Value × H) [.opq v0] h (fun v h => some (v, h)) = f8 rec k v0 h := by kernel_rfl

theorem t8 {k : Nat} {v0 : Value} {h h1 : H} {v : Value} (hh : f8 rn k v0 h = some (v, h1)) : rn 8 #[v0] h = some (v, trunc Tryd.prog h h1 v) :=
  run_of_bodyT (args := [.opq v0]) rfl ((e8 _ _ _ _).trans hh)

theorem x8 {k : Nat} {v0 : Value} {h h1 : H} {v : Value} (hh : f8 rn k v0 h = some (v, h1)) (hp : plainO v = false) : ∃ h2, rn 8 #[v0] h = some (v, h2) ∧ Sm h1 h2 ∧ (Ext h h1 → Exw h h2) := trunc_cell hp (t8 hh)

noncomputable def f13 (rec : Rec) (_k : Nat) (v0 : Value) (v1 : Value) (h0 : H) : Option (Value × H) :=
  calls rec h0 18 [v0] fun v2 h1 =>
  calls rec h1 42 [v2] fun v3 h2 =>
  ext v3 0 fun v4 =>
  ext v3 1 fun v5 =>
  asI .i64 v5 fun n0 =>
  calls rec h2 18 [v0] fun v6 h3 =>
  calls rec h3 55 [v1] fun v7 h4 =>
  calls rec h4 54 [v6, v7] fun v8 h5 =>
  ext v8 0 fun v9 =>
  asB v9 fun q0 =>
  ext v8 1 fun v10 =>
  asI .i64 v10 fun n1 =>
  calls rec h5 19 [v0] fun v11 h6 =>
  asB v11 fun q1 =>
  ifB (not q1) (
    len v4 fun n2 =>
    ifB (eq n2 0) (
      ifB (not q0) (
        ifB (eq n0 2) (
          ifB (eq n1 2) (
            calls rec h6 20 [] fun v12 h7 =>
            asB v12 fun q2 =>
            some ((.bool q2), h7)) (
            some ((.bool false), h6))) (
          some ((.bool false), h6))) (
        some ((.bool false), h6))) (
      some ((.bool false), h6))) (
    calls rec h6 56 [v0, v1] fun v13 h8 =>
    asB v13 fun q3 =>
    eqv Tryd.prog 4 (.bool q0) (.bool q3) fun q4 =>
    ifB (not q4) (
      some ((.bool false), h8)) (
      ifB (not (eq n1 0)) (
        some ((.bool false), h8)) (
        calls rec h8 20 [] fun v14 h9 =>
        asB v14 fun q5 =>
        ifB (not q5) (
          some ((.bool false), h9)) (
          calls rec h9 39 [v0] fun v15 h10 =>
          asB v15 fun q6 =>
          ifB (not q6) (
            len v4 fun n3 =>
            ifB (eq n3 0) (
              some ((.bool (eq n0 5)), h10)) (
              some ((.bool false), h10))) (
            ifB (eq n0 0) (
              calls rec h10 57 [v4] fun v16 h11 =>
              calls rec h11 56 [v0, v16] fun v17 h12 =>
              asB v17 fun q7 =>
              some ((.bool q7), h12)) (
              some ((.bool false), h10)))))))

theorem e13 (rec : Rec) (k : Nat) (v0 : Value) (v1 : Value) (h : H) : bodyT Tryd.prog E0 SC (XC Tryd.prog rec k) 13 (Value × H) [.opq v0, .opq v1] h (fun v h => some (v, h)) = f13 rec k v0 v1 h := by kernel_rfl

theorem t13 {k : Nat} {v0 : Value} {v1 : Value} {h h1 : H} {v : Value} (hh : f13 rn k v0 v1 h = some (v, h1)) : rn 13 #[v0, v1] h = some (v, trunc Tryd.prog h h1 v) :=
  run_of_bodyT (args := [.opq v0, .opq v1]) rfl ((e13 _ _ _ _ _).trans hh)

theorem x13 {k : Nat} {v0 : Value} {v1 : Value} {h h1 : H} {v : Value} (hh : f13 rn k v0 v1 h = some (v, h1)) (hp : plainO v = false) : ∃ h2, rn 13 #[v0, v1] h = some (v, h2) ∧ Sm h1 h2 ∧ (Ext h h1 → Exw h h2) := trunc_cell hp (t13 hh)

end Go.AM

end

section

/- Reverse. -/
namespace Go.AM
open Go.Proofs
variable {R : Type}
attribute [local simp] nx_eq nx_new nx_set blk_new blk_set asI_int asK_int asB_bool asP_ptr al_eq bx_eq len_slice onE_exit onE_ret onR_ret Value.cells cell_new cell_set rd_new rd_set off eq lt le ifB gv out ext20 ext21
theorem nb_in {m : List Nat} {k : Nat} (h : k < m.length) : nb m k = m[k] := by
  unfold nb
  rw [List.getD_eq_getElem?_getD, List.getElem?_eq_getElem h]; rfl

/-- The numbers of a slice that owns its row are turned round. -/
theorem s104 {v : Value} {l : List Nat} {h : H} {lo : Nat} (hap : AqR lo h 3 1 v (cellsN l)) (h0 : l ≠ []) (hm : l.length < 1000) :
    ∃ h', rn 104 #[v] h = some (undef, h') ∧ AqR lo h' 3 1 v (cellsN l.reverse) ∧ h'.nx = h.nx ∧ ∀ q, q < h.nx → blkOf v ≠ some q → h'.blk q = h.blk q := by
  have hn : ∀ {T : Type} (K : Int → Option T), len v K = K (l.length : Int) := fun K => by rw [hap.slR.len]; simp
  have hne : cellsN l ≠ [] := by simpa using h0
  have hl0 : 0 < l.length := by cases l with
    | nil => exact absurd rfl h0
    | cons => simp
  obtain ⟨b, c, rfl, hlo, hbn, hrow, hc⟩ : ∃ b c, v = .slice (some ⟨b, 0, none⟩) l.length c ∧ lo ≤ b ∧ b < h.nx ∧ h.blk b = some (.row (cellsN l).flatten 3 true) ∧ (c = U + l.length ∨ c = l.length) := by
    generalize hL : cellsN l = LL at hap
    cases hap with
    | nil => exact absurd hL hne
    | @at_ b c l' hlo hb hr hx hm2 hc =>
      have := congrArg List.length hL
      rw [List.length_map] at this
      rw [← this] at hc ⊢
      exact ⟨b, c, rfl, hlo, hb, hr, hc⟩
  have hia0 : IA h b (.slice (some ⟨b, 0, none⟩) l.length c) (l.map Int.ofNat) := by
    rw [← cellsN_eq] at hap
    obtain ⟨b', _, hb', hia⟩ := hap.ia (by simpa using h0)
    cases hb'
    exact hia
  obtain ⟨e, ws', h1, hlp, rfl, m, i1, i2, i3, hnx, hblk⟩ := lpGo_inv (F := f104_l1 rn 600 (.slice (some ⟨b, 0, none⟩) l.length c))
    (fun d ws g => ∃ (i : Nat) (m : List Nat), ws = [iv i, iv ((l.length : Int) - 1 - i)] ∧ 2 * i ≤ l.length ∧ d = l.length / 2 - i ∧ IA g b (.slice (some ⟨b, 0, none⟩) l.length c) (m.map Int.ofNat) ∧ m.length = l.length ∧ (∀ k, k < l.length → nb m k = if k < i ∨ l.length ≤ k + i then nb l (l.length - 1 - k) else nb l k) ∧ g.nx = h.nx ∧ ∀ q, q ≠ b → g.blk q = h.blk q)
    (fun e ws g => e = .exit 0 ∧ ∃ (m : List Nat), IA g b (.slice (some ⟨b, 0, none⟩) l.length c) (m.map Int.ofNat) ∧ m.length = l.length ∧ (∀ k, k < l.length → nb m k = nb l (l.length - 1 - k)) ∧ g.nx = h.nx ∧ ∀ q, q ≠ b → g.blk q = h.blk q)
    (by
      rintro d ws g ⟨i, m, rfl, h2i, hd, hia, hml, hk, hnx, hblk⟩
      by_cases hlt : 2 * i + 1 < l.length
      · obtain ⟨j, hj⟩ : ∃ j : Nat, j + i + 1 = l.length := ⟨l.length - 1 - i, by omega⟩
        have hjI : (l.length : Int) - 1 - i = (j : Int) := by omega
        have hadd : add .i64 (i : Int) 1 = ((i + 1 : Nat) : Int) := by rw [add64 (by omega) (by omega)]; omega
        have hsub : AM.sub .i64 (j : Int) 1 = (l.length : Int) - 1 - ((i + 1 : Nat) : Int) := by rw [sub64 (by omega) (by omega)]; omega
        have h1 := hia.set i ((nb m j : Nat) : Int)
        rw [set_nat] at h1
        have h2 := h1.set j ((nb m i : Nat) : Int)
        rw [set_nat] at h2
        refine ⟨.normal, [iv ((i + 1 : Nat) : Int), iv ((l.length : Int) - 1 - ((i + 1 : Nat) : Int))], _, ?_, .inl ⟨rfl, d - 1, by omega, i + 1, (m.set i (nb m j)).set j (nb m i), rfl, by omega, by omega, h2, by simp [hml], fun k hkl => ?_, hnx, fun q hq => by rw [blk_set_ne _ _ _ hq, blk_set_ne _ _ _ hq]; exact hblk q hq⟩⟩
        · unfold f104_l1
          rw [hjI, show AM.gv [iv i, iv j] 0 = iv i from rfl, show AM.gv [iv i, iv j] 1 = iv j from rfl, asI_int, asI_int, lt_t (by omega), ifB_true, asK_int]
          simp only [d3, w3]
          rw [hia.get (by omega) (x := (nb m j : Nat)) (by rw [Int.toNat_natCast]; exact nb_get (by omega)), asI_int, asK_int,
            hia.get (by omega) (x := (nb m i : Nat)) (by rw [Int.toNat_natCast]; exact nb_get (by omega)), asI_int, asK_int, hia.put (by omega) (by simp; omega), Int.toNat_natCast, hia.wrc (i := i) (by simp; omega), set_nat, Option.bind_some, asK_int,
            h1.put (by omega) (by simp; omega), Int.toNat_natCast, h1.wrc (i := j) (by simp; omega), set_nat, Option.bind_some, asI_int, asI_int, hadd, hsub]
          rfl
        · rw [nb_set (by simp; omega), nb_set (by omega)]
          have q1 := hk i (by omega)
          have q2 := hk j (by omega)
          rw [if_neg (by omega)] at q1 q2
          have q3 := hk k hkl
          by_cases hkj : k = j
          · subst hkj
            rw [if_pos rfl, if_pos (by omega), q1]
            congr 1; omega
          · rw [if_neg hkj]
            by_cases hki : k = i
            · subst hki
              rw [if_pos rfl, if_pos (by omega), q2]
              congr 1; omega
            · rw [if_neg hki, q3]
              by_cases hc : k < i ∨ l.length ≤ k + i
              · rw [if_pos hc, if_pos (by omega)]
              · rw [if_neg hc, if_neg (by omega)]
      · refine ⟨.exit 0, [iv i, iv ((l.length : Int) - 1 - i)], g, ?_, .inr ⟨by simp, rfl, m, hia, hml, fun k hkl => ?_, hnx, hblk⟩⟩
        · unfold f104_l1
          rw [show AM.gv [iv i, iv ((l.length : Int) - 1 - i)] 0 = iv i from rfl, show AM.gv [iv i, iv ((l.length : Int) - 1 - i)] 1 = iv ((l.length : Int) - 1 - i) from rfl, asI_int, asI_int, show AM.lt (i : Int) ((l.length : Int) - 1 - i) = false by simp [AM.lt]; omega, ifB_false]
          rfl
        · rw [hk k hkl]
          split
          · rfl
          · congr 1; omega)
    (l.length / 2) 600 (by omega) (ws := [iv 0, iv ((l.length : Int) - 1)]) (h := h) ⟨0, l, by simp, by omega, by omega, hia0, rfl, fun k hkl => by rw [if_neg (by omega)], rfl, fun _ _ => rfl⟩
  have hmr : m = l.reverse := by
    apply List.ext_getElem
    · simp [i2]
    · intro k hk1 hk2
      have := i3 k (by omega)
      rw [nb_in hk1, nb_in (by omega)] at this
      rw [this, List.getElem_reverse]
  subst hmr
  have e104 := t104 (k := 600) (v0 := .slice (some ⟨b, 0, none⟩) l.length c) (h := h) (h1 := h1) (v := undef) (by
    unfold f104
    rw [hn, sub64 (by omega) (by omega)]
    refine (lp_eq hlp).trans ?_
    rfl)
  obtain ⟨q1, q2, q3⟩ := trunc_blk (P := Tryd.prog) (v := undef) (h := h) (h1 := h1) (by omega)
  refine ⟨_, e104, ?_, by omega, fun q hq hqb => ?_⟩
  · have hr : (trunc Tryd.prog h h1 undef).blk b = some (.row (cellsN l.reverse).flatten 3 true) := by
      rw [q3 b hbn, i1.row, ← cellsN_eq, cellsI, flat1]
    have := AqR.at_ (h := trunc Tryd.prog h h1 undef) (e := 3) (s := 1) (c := c) hlo (by omega) hr (fun x hx => by obtain ⟨e, _, rfl⟩ := List.mem_map.1 hx; rfl) (by simp; omega) (by simpa using hc)
    simpa using this
  · rw [q3 q hq, hblk q (fun e => hqb (by rw [e]; rfl))]

end Go.AM

end

section

/- A queue that begins as a literal of one number. -/
namespace Go.AM
open Go.Proofs
variable {R : Type}
inductive QV (lo : Nat) (h : H) : Value → List Nat → Prop
  | q {v : Value} {q : List Nat} : QqR lo h 3 1 v (cellsN q) → QV lo h v q
  | lit {x b : Nat} : lo ≤ b → b < h.nx → h.blk b = some (.row [iv (x : Int)] 3 true) → QV lo h (.slice (some ⟨b, 0, none⟩) 1 1) [x]
  | emp {o : Nat} {b c : Nat} : lo ≤ b → b < h.nx → QV lo h (.slice (some ⟨b, o, none⟩) 0 c) []

section
variable {lo : Nat} {h h' : H} {v : Value} {q : List Nat}
theorem QV.blkOf (a : QV lo h v q) {b : Nat} (hb : AM.blkOf v = some b) : lo ≤ b ∧ b < h.nx := by
  cases a with
  | q a => exact a.blkOf hb
  | lit h1 h2 => cases hb; exact ⟨h1, h2⟩
  | emp h1 h2 => cases hb; exact ⟨h1, h2⟩

theorem QV.keep (a : QV lo h v q) (hn : h.nx ≤ h'.nx) (hb : ∀ b, AM.blkOf v = some b → h'.blk b = h.blk b) : QV lo h' v q := by
  cases a with
  | q a => exact .q (a.keep hn hb)
  | lit h1 h2 h3 => exact .lit h1 (Nat.lt_of_lt_of_le h2 hn) ((hb _ rfl).trans h3)
  | emp h1 h2 => exact .emp h1 (Nat.lt_of_lt_of_le h2 hn)

theorem QV.len (a : QV lo h v q) (K : Int → Option R) : AM.len v K = K (q.length : Int) := by
  cases a with
  | q a => rw [a.slR.len]; simp
  | lit => rfl
  | emp => rfl

theorem QV.head {x : Nat} (a : QV lo h v (x :: q)) (K : Value → Option R) : (six v 0 1 fun b o => ld Tryd.prog h 3 b o K) = K (iv (x : Int)) := by
  cases a with
  | q a => exact a.slR.ld0 ag3 (by omega) (x := [iv (x : Int)]) (by simp) rfl K
  | lit h1 h2 h3 =>
    rename_i b
    rw [six_in (by omega) (by omega), d3, cell_of h3]
    rfl

theorem QV.push {x : Nat} (a : QV lo h v (x :: q)) (y : Nat) (hm : q.length < 1000) (hlo : lo ≤ h.nx) :
    ∃ v' h', (∀ {R : Type} (K : Value → H → Option R), (bls Tryd.prog h 22 1 [(0, iv (y : Int))] fun z h2 => AM.app Tryd.prog h2 22 22 v z K) = K v' h') ∧ QV lo h' v' (x :: q ++ [y]) ∧ h.nx ≤ h'.nx ∧
      (∀ b, b < h.nx → AM.blkOf v ≠ some b → h'.blk b = h.blk b) ∧ ∃ b', AM.blkOf v' = some b' ∧ h.nx ≤ b' := by
  cases a with
  | q a =>
    obtain ⟨v', h', e, a', n, k, b⟩ := a.push app22 app22 (bls22 (y : Int)) rfl rfl (by rw [List.length_map, List.length_cons]; omega) hlo
    refine ⟨v', h', e, .q ?_, n, k, b⟩
    have : cellsN (x :: q ++ [y]) = cellsN (x :: q) ++ [[iv (y : Int)]] := by simp
    rw [this]; exact a'
  | lit h1 h2 h3 =>
    rename_i b
    obtain ⟨i, z, p1, p2, p3, p4, p5, p6, p7⟩ := okApp_spec app22
    have x0 := Ext.new h (.row [iv (y : Int)] 3 true)
    have hsrc : srcCells 1 (.slice (some ⟨h.nx, 0, none⟩) 1 1) (h.new (.row [iv (y : Int)] 3 true)) = some [iv (y : Int)] := by
      simp only [srcCells, Nat.one_mul]
      rw [if_neg (by omega)]
      simp only [H.rd, blk_new_self]
      rfl
    have hlen : lenOf (.slice (some ⟨h.nx, 0, none⟩) 1 1) = some 1 := rfl
    have hrd : (h.new (.row [iv (y : Int)] 3 true)).rd b 0 1 = some [iv (x : Int)] := rd_all ((x0.blk _ h2).trans h3) rfl
    have hcap : capK 1 = 1 := rfl
    have h30 : (1 : Nat) < U := by decide
    refine ⟨.slice (some ⟨h.nx + 1, 0, none⟩) 2 (U + 2), (h.new (.row [iv (y : Int)] 3 true)).new (.row ([iv (x : Int)] ++ [iv (y : Int)]) 3 true), fun K => ?_, .q ?_, by simp only [nx_new]; omega, fun b' hb' _ => ?_, h.nx + 1, rfl, by omega⟩
    · rw [bls_some (bls22 (y : Int) h)]
      unfold AM.app append
      simp only [p1, p2, p3, hlen, p4, hsrc, Option.bind_some]
      rw [if_pos ⟨p5, p6, p7⟩]
      simp only [hcap]
      rw [if_neg (by omega), if_neg (by omega), if_pos (by omega), if_pos h30, if_neg (by omega), Nat.one_mul, hrd]
      rfl
    · exact QqR.at_ (lo := lo) (e := 3) (s := 1) (b := h.nx + 1) (l := cellsN [x, y]) (pre := []) (by omega) (by simp only [nx_new]; omega)
        (by rw [blk_new_at _ _ (by rw [nx_new])]; rfl) (by simp) (by simp)
    · rw [blk_new_ne _ _ (by rw [nx_new]; omega), blk_new_ne _ _ (by omega)]

theorem QV.tail {x : Nat} (a : QV lo h v (x :: q)) : ∃ v', (∀ {R : Type} (K : Value → Option R), sli Tryd.prog h 22 v (some (.int .i64 1)) none none K = K v') ∧ QV lo h v' q ∧ AM.blkOf v' = AM.blkOf v := by
  cases a with
  | q a =>
    obtain ⟨v', e, a', hb⟩ := QqR.tail (l := cellsN q) (x := [iv (x : Int)]) a under22 sz3
    exact ⟨v', e, .q a', hb⟩
  | lit h1 h2 h3 =>
    rename_i b
    refine ⟨.slice (some ⟨b, 0, none⟩) 0 0, fun K => ?_, .emp h1 h2, rfl⟩
    have hcap : capK 1 = 1 := rfl
    have h30 : (1 : Nat) < U := by decide
    simp only [sli, slice, under22, h3, sz3]
    rw [if_pos ⟨trivial, by rw [hcap]; omega, rfl⟩]
    simp [bound, hcap, h30]

end
end Go.AM

end

section

/- The walk of the search. -/
namespace Go.AM
open Go.Proofs
variable {R : Type}
attribute [local simp] nx_eq nx_new nx_set blk_new blk_set asI_int asK_int asB_bool asP_ptr al_eq bx_eq len_slice onE_exit onE_ret onR_ret Value.cells cell_new cell_set rd_new rd_set off eq lt le ifB gv out ext20 ext21
theorem under87 : Tryd.prog.underlying 87 = some (.map 3 3) := by kernel_rfl

theorem zero3' : zero? Tryd.prog 3 = some (iv 0) := by kernel_rfl

theorem under3i : Tryd.prog.underlying 3 = some (.int .i64) := by kernel_rfl

def kvP (T : TL) : List (Int × Value) := T.map fun x => ((x.1 : Int), iv x.2)

theorem kvP_snoc (T : TL) (u : Nat) (p : Int) : kvP (T ++ [(u, p)]) = kvP T ++ [((u : Int), iv p)] := by
  unfold kvP
  rw [List.map_append]; rfl

theorem kvP_key {T : TL} {k : Nat} : (∀ p ∈ kvP T, p.1 ≠ (k : Int)) ↔ k ∉ nodesT T := by
  unfold kvP nodesT
  constructor
  · intro h hm
    obtain ⟨x, hx, rfl⟩ := List.mem_map.1 hm
    exact h ((x.1 : Int), iv x.2) (List.mem_map.2 ⟨x, hx, rfl⟩) rfl
  · rintro hm p hp he
    obtain ⟨x, hx, rfl⟩ := List.mem_map.1 hp
    exact hm (List.mem_map.2 ⟨x, hx, Int.natCast_inj.1 he⟩)

section
variable {g : List Nat} {T : TL} {bt bn bp bv mn mp : Nat} {tv : Value} {h h' : H}
end
end Go.AM

end

section

/- Orient. -/
namespace Go.AM
open Go.Proofs
variable {R : Type}
attribute [local simp] nx_eq nx_new nx_set blk_new blk_set asI_int asK_int asB_bool asP_ptr al_eq bx_eq len_slice onE_exit onE_ret onR_ret Value.cells cell_new cell_set rd_new rd_set off eq lt le ifB gv out ext20 ext21
theorem look_P {x : Nat} : ∀ {T : TL} (i : Nat), x ∈ nodesT T → look (kvP T) (x : Int) i = some (i + numP T x, iv (parP T x)) := by
  intro T
  induction T with
  | nil => intro i h; simp [nodesT] at h
  | cons y T ih =>
    intro i h
    unfold kvP at *
    rw [List.map_cons]
    simp only [look, numP, parP]
    by_cases hy : y.1 = x
    · subst hy; simp
    · rw [if_neg (fun e => hy (Int.natCast_inj.1 e).symm), if_neg hy, if_neg hy]
      have h' : x ∈ nodesT T := by
        simp only [nodesT, List.map_cons, List.mem_cons] at h
        rcases h with h | h
        · exact absurd h.symm hy
        · exact h
      rw [ih (i + 1) h', show i + 1 + numP T x = i + (numP T x + 1) by omega]

noncomputable def firmP (g : List Nat) : Bool := connS g (allN g) && decide (bridgesP g = [])

end Go.AM

end

section

/- A shortest way: the loops. -/
namespace Go.AM
open Go.Proofs
variable {R : Type}
attribute [local simp] nx_eq nx_new nx_set blk_new blk_set asI_int asK_int asB_bool asP_ptr al_eq bx_eq len_slice onE_exit onE_ret onR_ret Value.cells cell_new cell_set rd_new rd_set off eq lt le ifB gv out ext20 ext21
/-- What the map of the search holds. -/
def HB (mn : Nat) (T : TL) (h : H) : Prop := ∃ es c, h.blk mn = some (.mp es c) ∧ KvI (kvP T) es

theorem HB.look {mn : Nat} {T : TL} {h : H} (a : HB mn T h) {x : Nat} {q : Int} (hx : (x, q) ∈ T) (hn : (nodesT T).Nodup) (K : Value → Option R) : lok Tryd.prog h 87 (.map (some mn)) (.int .i64 (x : Int)) false K = K (iv q) := by
  obtain ⟨es, c, h1, h2⟩ := a
  have hm : x ∈ nodesT T := List.mem_map.2 ⟨_, hx, rfl⟩
  have := look_P 0 hm
  rw [lok_int0 under87 under3i zero3' h1 h2, this]
  obtain ⟨T1, T2, rfl, h3⟩ := split_at hx hn
  simp only [parP_at h3]

theorem HB.ext {mn : Nat} {T : TL} {h h' : H} (a : HB mn T h) (hb : h'.blk mn = h.blk mn) : HB mn T h' := by
  obtain ⟨es, c, h1, h2⟩ := a
  exact ⟨es, c, hb.trans h1, h2⟩

/-- Up the tree, node by node. -/
theorem s88_l2 {mn lo k0 : Nat} {T : TL} {h0 : H} (hn0 : h0.nx = mn) (hnd : (nodesT T).Nodup) (hmlo : mn < lo) : ∀ {v : Nat} {l : List Nat}, Up T v l → ∀ (acc : List Nat) (sv : Value) (g : H) (k : Nat), HB mn T g → AqR lo g 3 1 sv (cellsN acc) → lo ≤ g.nx → l.length < k → acc.length + l.length < 1000 →
    ∃ sv' w g', lpGo (f88_l2 rn k0 h0) k [sv, iv (v : Int)] g = some (.exit 2, [sv', w], g') ∧ AqR lo g' 3 1 sv' (cellsN (acc ++ l)) ∧ g.nx ≤ g'.nx ∧ ∀ b, b < g.nx → blkOf sv ≠ some b → g'.blk b = g.blk b := by
  intro v l hu
  have step : ∀ (v : Nat) (q : Int) (acc : List Nat) (sv : Value) (g : H), (v, q) ∈ T → HB mn T g → AqR lo g 3 1 sv (cellsN acc) → lo ≤ g.nx → acc.length + 1 < 1000 →
      ∃ sv' g', f88_l2 rn k0 h0 [sv, iv (v : Int)] g = some (.normal, [sv', iv q], g') ∧ AqR lo g' 3 1 sv' (cellsN (acc ++ [v])) ∧ HB mn T g' ∧ g.nx ≤ g'.nx ∧ (∀ b, b < g.nx → blkOf sv ≠ some b → g'.blk b = g.blk b) ∧ ∃ b', blkOf sv' = some b' ∧ g.nx ≤ b' := by
    intro v q acc sv g hv hb ha hlo hm
    obtain ⟨sv', g', e, a', n', k', b', hb', hb''⟩ := ha.push app22 app22 (bls22 (v : Int)) rfl rfl (by rw [List.length_map]; omega) hlo
    have hmn : g'.blk mn = g.blk mn := k' _ (by omega) (fun e => by have := (ha.blkOf e).1; omega)
    have hb2 := hb.ext hmn
    refine ⟨sv', g', ?_, ?_, hb2, n', k', b', hb', hb''⟩
    · unfold f88_l2
      rw [show AM.gv [sv, iv (v : Int)] 1 = iv v from rfl, show AM.gv [sv, iv (v : Int)] 0 = sv from rfl, asI_int, show AM.le 0 (v : Int) = true by simp [AM.le], ifB_true, e, nx_eq, hn0, hb2.look hv hnd, asI_int]
      rfl
    · have : cellsN (acc ++ [v]) = cellsN acc ++ [[iv (v : Int)]] := by simp
      rw [this]; exact a'
  induction hu with
  | @root v hv =>
    intro acc sv g k hb ha hlo hk hm
    obtain ⟨sv', g', e, a', hb', n', k', _⟩ := step v (-1) acc sv g hv hb ha hlo (by simpa using hm)
    obtain ⟨k, rfl⟩ : ∃ k', k = k' + 1 + 1 := ⟨k - 2, by simp at hk; omega⟩
    refine ⟨sv', iv (-1), g', ?_, a', n', k'⟩
    rw [lpGo_next e]
    unfold lpGo
    simp [f88_l2]
  | @step v p l hv hl ih =>
    intro acc sv g k hb ha hlo hk hm
    simp only [List.length_cons] at hk hm
    obtain ⟨sv', g', e, a', hb', n', k', b', hbb, hbn⟩ := step v (p : Int) acc sv g hv hb ha hlo (by omega)
    obtain ⟨k, rfl⟩ : ∃ k', k = k' + 1 := ⟨k - 1, by omega⟩
    obtain ⟨sv2, w, g2, e2, a2, n2, k2⟩ := ih (acc ++ [v]) sv' g' k hb' a' (by omega) (by omega) (by simp; omega)
    refine ⟨sv2, w, g2, ?_, by simpa using a2, by omega, fun b hbl hne => ?_⟩
    · rw [lpGo_next e]; exact e2
    · rw [k2 b (by omega) (fun e => by rw [hbb] at e; cases e; omega), k' b hbl hne]

end Go.AM

end

section

/- A shortest way: a node's neighbours join the queue. -/
namespace Go.AM
open Go.Proofs
variable {R : Type}
attribute [local simp] nx_eq nx_new nx_set blk_new blk_set asI_int asK_int asB_bool asP_ptr al_eq bx_eq len_slice onE_exit onE_ret onR_ret Value.cells cell_new cell_set rd_new rd_set off eq lt le ifB gv out ext20 ext21
/-- The nodes of a set, in a slice that owns its row. -/
theorem s76A {S : Nat} (hS : S < 1024) (h : H) : ∃ v' h', rn 76 #[iv S] h = some (v', h') ∧ Exw h h' ∧ AqR h.nx h' 3 1 v' (cellsN (elts S)) := by
  obtain ⟨e, ws', h', hl, rfl, xg, v, w, hap, rfl⟩ := lpGo_inv (F := f76_l1 rn 2000)
    (fun d ws g => Ext h g ∧ ∃ (v : Value) (x : Nat) (L : List Nat), ws = [v, iv x] ∧ d = x ∧ x < 1024 ∧ L ++ elts x = elts S ∧ AqR h.nx g 3 1 v (cellsN L))
    (fun e ws g => e = .exit 0 ∧ Ext h g ∧ ∃ v w, AqR h.nx g 3 1 v (cellsN (elts S)) ∧ ws = [v, w])
    (by
      rintro d ws g ⟨xg, v, x, L, rfl, rfl, hx, hL, hap⟩
      by_cases hx0 : d = 0
      · subst hx0
        rw [elts_zero, List.append_nil] at hL
        subst hL
        exact ⟨.exit 0, [v, iv 0], _, by simp [f76_l1], .inr ⟨by simp, rfl, xg, v, iv 0, hap, rfl⟩⟩
      · have h0 : 0 < d := Nat.pos_of_ne_zero hx0
        obtain ⟨h1, h2⟩ := elts_next h0 hx
        have c89 := fun (K : Value → H → Option (Ex × List Value × H)) => calls_eq (K := K) (xs := [.int .u64 d]) (s89 h0 hx g)
        have hsub : sub .i64 (d : Int) 1 = ((d - 1 : Nat) : Int) := by rw [sub64 (by omega) (by omega)]; omega
        have hand : AM.and .i64 (d : Int) ((d - 1 : Nat) : Int) = ((d &&& (d - 1) : Nat) : Int) := and_nat (by omega) (by omega)
        have hLl : L.length ≤ 10 := by
          have h3 := congrArg List.length hL
          rw [List.length_append, elts_len S] at h3
          have := pop_le_n (Nat.le_refl 10) hS
          omega
        obtain ⟨v', g2, e2, a2, n2, k2, b2, hb2, hb2'⟩ := hap.push app22 app22 (bls22 (low d : Int)) rfl rfl (by simp; omega) xg.nx
        have ee : ∀ (K : Value → H → Option (Ex × List Value × H)), (bls Tryd.prog g 22 1 [(0, iv (low d : Nat))] fun y h2 => app Tryd.prog h2 22 22 v y K) = K v' g2 := fun K => e2 K
        refine ⟨.normal, [v', iv (d &&& (d - 1) : Nat)], g2, ?_, .inl ⟨rfl, d &&& (d - 1), h2, ⟨by have := xg.nx; omega, fun b hb => ?_⟩, v', d &&& (d - 1), L ++ [low d], rfl, rfl, by omega, ?_, ?_⟩⟩
        · unfold f76_l1
          rw [show AM.gv [v, iv d] 1 = iv d from rfl, show AM.gv [v, iv d] 0 = v from rfl, asI_int, show AM.eq (d : Int) 0 = false by simp; omega, show (!false) = true from rfl, ifB_true, asI_int, wr64u hx, c89, asI_int, ee, asI_int, asI_int, hsub, hand]
          rfl
        · rw [k2 b (by have := xg.nx; omega) (fun e => by have := (hap.blkOf e).1; omega)]
          exact xg.blk b hb
        · rw [← hL, h1]; simp
        · have : cellsN (L ++ [low d]) = cellsN L ++ [[iv (low d : Int)]] := by simp
          rw [this]; exact a2)
    S 2000 (by omega) ⟨.refl _, .slice none 0 0, S, [], rfl, rfl, hS, rfl, .nil⟩
  obtain ⟨h2, e2, m2, w2⟩ := x76 (k := 2000) (n0 := S) (h := h) (h1 := h') (v := v) (by
    unfold f76
    exact (lp_eq hl).trans rfl) (by obtain ⟨x, y, z, hz⟩ := hap.isSl; rw [hz]; rfl)
  exact ⟨v, h2, e2, w2 xg, hap.ext m2.ext⟩

/-- After some neighbours. -/
structure L3 (g : List Nat) (a to W mn lo v : Nat) (T0 : TL) (q0 : List Nat) (qv0 : Value) (g0 : H) (L : List Nat) (i : Nat) (ws : List Value) (h : H) : Prop where
  ex : ∃ (X : TL) (qv : Value), ws = [qv, iv (i : Int)] ∧ BW g a to W (T0 ++ X) ∧ HB mn (T0 ++ X) h ∧ QV lo h qv (v :: q0 ++ nodesT X) ∧ (∀ u ∈ L.take i, u ∈ nodesT (T0 ++ X)) ∧ X.length ≤ i ∧
    g0.nx ≤ h.nx ∧ (∀ b, b < g0.nx → b ≠ mn → blkOf qv0 ≠ some b → h.blk b = g0.blk b) ∧ (∀ b, blkOf qv = some b → blkOf qv0 = some b ∨ g0.nx ≤ b)

set_option maxHeartbeats 1000000 in
theorem s88_l3 {g : List Nat} (hg : GrB g) {a to W mn lo k0 v : Nat} {h0 : H} {L : List Nat} {v8 : Value} {T0 : TL} {q0 : List Nat} {qv0 : Value} {g0 : H} (hn0 : h0.nx = mn) (hmlo : mn < lo)
    (hL : ∀ u ∈ L, adj g v u = true ∧ W.testBit u = true) (hLl : L.length ≤ 10) (hv : v ∈ nodesT T0) (hvt : to.testBit v = false) (h8 : SlR g0 3 1 v8 (cellsN L)) (h8n : ∀ b, blkOf v8 = some b → lo ≤ b ∧ blkOf qv0 ≠ some b)
    (hbw : BW g a to W T0) (hb : HB mn T0 g0) (hq : QV lo g0 qv0 (v :: q0)) (hmn : mn < g0.nx) (hlo : lo ≤ g0.nx) (hql : q0.length ≤ 100) :
    ∃ ws' h', lpGo (f88_l3 rn k0 h0 v v8 L.length) 20 [qv0, iv 0] g0 = some (.exit 4, ws', h') ∧ L3 g a to W mn lo v T0 q0 qv0 g0 L L.length ws' h' := by
  obtain ⟨e, ws', h', hl, rfl, hr⟩ := lp_range (F := f88_l3 rn k0 h0 v v8 L.length) (k := 20) (n := L.length) (fun i ws h => L3 g a to W mn lo v T0 q0 qv0 g0 L i ws h) (fun e ws h => e = .exit 4 ∧ L3 g a to W mn lo v T0 q0 qv0 g0 L L.length ws h)
    (by
      rintro i ws h hi ⟨X, qv, rfl, bw, hbh, hqh, hin, hXi, hnx, hblk, hqb⟩
      have hu := List.getElem?_eq_getElem hi
      generalize L[i] = u at hu
      obtain ⟨hadj, hW⟩ := hL u (List.mem_of_getElem? hu)
      have hadd : add .i64 (i : Int) 1 = ((i + 1 : Nat) : Int) := by rw [add64 (by omega) (by omega)]; omega
      have h8h : SlR h 3 1 v8 (cellsN L) := h8.keepB hnx fun b hb8 => by
        obtain ⟨q1, _⟩ := h8.blkR hb8
        obtain ⟨q2, q3⟩ := h8n b hb8
        exact hblk b q1 (by omega) q3
      have e1 : ∀ (K : Value → Option (Ex × List Value × H)), (six v8 (i : Int) 1 fun b o => ld Tryd.prog h 3 b o K) = K (iv (u : Int)) := fun K =>
        h8h.ld0 ag3 (by omega) (x := [iv (u : Int)]) (by simp [hu]) rfl K
      obtain ⟨es, c, m1, m2⟩ := hbh
      by_cases hm : u ∈ nodesT (T0 ++ X)
      · have hlk := look_P 0 hm
        refine ⟨.normal, [qv, iv ((i + 1 : Nat) : Int)], h, ?_, .inl ⟨rfl, ⟨X, qv, rfl, bw, ⟨es, c, m1, m2⟩, hqh, fun y hy => ?_, by omega, hnx, hblk, hqb⟩⟩⟩
        · unfold f88_l3
          rw [show AM.gv [qv, iv i] 1 = iv i from rfl, show AM.gv [qv, iv i] 0 = qv from rfl, asI_int, lt_t (by omega), ifB_true, asK_int, e1, asI_int, nx_eq, hn0, lok_int under87 under3i zero3' m1 m2, hlk]
          simp [hadd]
        · rw [List.take_add_one, hu, List.mem_append] at hy
          rcases hy with hy | hy
          · exact hin y hy
          · simp at hy; rw [hy]; exact hm
      · have hlk := (look_none (k := (u : Int)) (kvP (T0 ++ X)) 0).2 (kvP_key.2 hm)
        obtain ⟨h1, hh1⟩ : ∃ h1, h1 = h.set mn (.mp (es ++ [{ key := .int .i64 (u : Int), val := .int .i64 (v : Int), born := c }]) (c + 1)) := ⟨_, rfl⟩
        have n1 : h1.nx = h.nx := by rw [hh1]; rfl
        have k1 : ∀ b, b ≠ mn → h1.blk b = h.blk b := fun b hb => by rw [hh1]; exact blk_set_ne _ _ _ hb
        have hb1 : HB mn (T0 ++ (X ++ [(u, (v : Int))])) h1 := by
          refine ⟨_, _, by rw [hh1]; exact blk_set_self _ _ _, ?_⟩
          rw [← List.append_assoc, kvP_snoc]
          exact m2.snoc _ _
        have hq1 : QV lo h1 qv (v :: q0 ++ nodesT X) := hqh.keep (by omega) fun b hb => k1 b (by have := (hqh.blkOf hb).1; omega)
        have hXl : (nodesT X).length = X.length := by simp [nodesT]
        obtain ⟨qv', h2, e2, hq2, n2, k2, b', hb', hbn⟩ := QV.push (q := q0 ++ nodesT X) hq1 u (by rw [List.length_append]; omega) (by omega)
        have hb2 : HB mn (T0 ++ (X ++ [(u, (v : Int))])) h2 := hb1.ext (k2 mn (by omega) (fun e => by have := (hq1.blkOf e).1; omega))
        have bw2 : BW g a to W (T0 ++ (X ++ [(u, (v : Int))])) := by
          rw [← List.append_assoc]
          exact bw.snoc hg (by rw [nodesT_app]; exact List.mem_append_left _ hv) hm hadj hW hvt
        refine ⟨.normal, [qv', iv ((i + 1 : Nat) : Int)], h2, ?_, .inl ⟨rfl, ⟨X ++ [(u, (v : Int))], qv', rfl, bw2, hb2, ?_, fun y hy => ?_, by simp; omega, by omega, fun b hbl hbm hbq => ?_, fun b hbb => ?_⟩⟩⟩
        · unfold f88_l3
          rw [show AM.gv [qv, iv i] 1 = iv i from rfl, show AM.gv [qv, iv i] 0 = qv from rfl, asI_int, lt_t (by omega), ifB_true, asK_int, e1, asI_int, nx_eq, hn0, lok_int under87 under3i zero3' m1 m2, hlk]
          simp only [ext20, ext21, asI_int, asB_bool]
          rw [show (!false) = true from rfl, ifB_true, mup_new under87 under3i m1 m2 hlk, ← hh1, e2, hadd]
          rfl
        · have : nodesT (X ++ [(u, (v : Int))]) = nodesT X ++ [u] := by simp [nodesT]
          rw [this, ← List.append_assoc]; exact hq2
        · rw [← List.append_assoc, nodesT_app, List.mem_append]
          rw [List.take_add_one, hu, List.mem_append] at hy
          rcases hy with hy | hy
          · exact .inl (hin y hy)
          · simp at hy; rw [hy]; exact .inr (by simp [nodesT])
        · rw [k2 b (by omega) (fun e => by
            rcases hqb b e with h3 | h3
            · exact hbq h3
            · omega), k1 b hbm]
          exact hblk b hbl hbm hbq
        · rw [hb'] at hbb
          cases hbb
          exact .inr (by omega))
    (by
      rintro ws h ⟨X, qv, rfl, rest⟩
      exact ⟨.exit 4, [qv, iv L.length], h, by simp [f88_l3], by simp, rfl, X, qv, rfl, rest⟩)
    (ws := [qv0, iv 0]) (h := g0) (by omega) ⟨[], qv0, rfl, by simpa using hbw, by simpa using hb, by simpa [nodesT] using hq, by simp, by simp, Nat.le_refl _, fun _ _ _ _ => rfl, fun b hb => .inl hb⟩
  exact ⟨ws', h', hl, hr⟩

end Go.AM

end

section

/- A shortest way: the whole. -/
namespace Go.AM
open Go.Proofs
variable {R : Type}
attribute [local simp] nx_eq nx_new nx_set blk_new blk_set asI_int asK_int asB_bool asP_ptr al_eq bx_eq len_slice onE_exit onE_ret onR_ret Value.cells cell_new cell_set rd_new rd_set off eq lt le ifB gv out ext20 ext21
theorem AqR.down {lo lo' : Nat} {h : H} {e : TypeId} {s : Nat} {v : Value} {l : List (List Value)} (a : AqR lo h e s v l) (hl : lo' ≤ lo) : AqR lo' h e s v l := by
  cases a with
  | nil => exact .nil
  | at_ h1 h2 h3 h4 h5 h6 => exact .at_ (Nat.le_trans hl h1) h2 h3 h4 h5 h6

theorem nodes_le {g : List Nat} {l : List Nat} (hn : l.Nodup) (hl : ∀ x ∈ l, x < g.length) : l.length ≤ g.length := by
  have := len_le (F := fun x => x) (l := l) (l' := List.range g.length) hn (fun x hx => List.mem_range.2 (hl x hx)) (fun _ _ _ _ e => e)
  simpa using this

set_option maxHeartbeats 1000000 in
theorem s88 {g : List Nat} {a to thr : Nat} {tv : Value} {h : H} (hg : GrB g) (hs : SlR h 3 1 tv (cellsN g)) (ha : a < g.length) (hto : to < 2 ^ g.length) (hthr : thr < 2 ^ g.length) :
    ∃ v' h', rn 88 #[tv, iv a, iv to, iv thr] h = some (v', h') ∧ Exw h h' ∧
      ((∃ l x, WayB g a (thr ||| to) to l ∧ l.head? = some x ∧ to.testBit x = true ∧ AqR h.nx h' 3 1 v' (cellsN l.reverse)) ∨ (v' = .slice none 0 0 ∧ ∀ u, to.testBit u = true → ¬ Rch g (thr ||| to) a u)) := by
  have hlen := hg.len
  have hpow := hg.pow
  have hW : thr ||| to < 1024 := Nat.or_lt_two_pow (n := 10) (by omega) (by omega)
  have hor : AM.or .i64 (thr : Int) (to : Int) = ((thr ||| to : Nat) : Int) := or_nat (by omega) (by omega)
  generalize hWd : thr ||| to = W at *
  have hm0 : (h.new (.mp [] 0)).blk h.nx = some (.mp [] 0) := blk_new_self _ _
  have k0 : KvI ([] : List (Int × Value)) [] := rfl
  obtain ⟨h2, hh2⟩ : ∃ h2, h2 = (h.new (.mp [] 0)).set h.nx (.mp ([] ++ [{ key := .int .i64 (a : Int), val := .int .i64 (-1), born := 0 }]) (0 + 1)) := ⟨_, rfl⟩
  have n2 : h2.nx = h.nx + 1 := by rw [hh2]; rfl
  obtain ⟨h3, hh3⟩ : ∃ h3, h3 = h2.new (.row [iv a] 3 true) := ⟨_, rfl⟩
  have n3 : h3.nx = h.nx + 2 := by rw [hh3, nx_new, n2]
  have x2 : Ext h h2 := by rw [hh2]; exact ((Ext.refl h).new' _).set (Nat.le_refl _) _
  have x3 : Ext h2 h3 := by rw [hh3]; exact Ext.new _ _
  have hb3 : HB h.nx [(a, -1)] h3 := by
    refine ⟨_, _, (x3.blk _ (by omega)).trans (by rw [hh2]; exact blk_set_self _ _ _), ?_⟩
    exact k0.snoc (.int .i64 (-1)) 0
  have hq3 : QV (h.nx + 1) h3 (.slice (some ⟨h2.nx, 0, none⟩) 1 1) [a] := .lit (by omega) (by omega) (by rw [hh3]; exact blk_new_self _ _)
  obtain ⟨e, ws', h9, hlp, hQ⟩ := lpGo_inv (F := f88_l1 rn 600 tv to thr h)
    (fun d ws g' => ∃ (T : TL) (pre q : List Nat) (qv : Value), ws = [.slice none 0 0, qv] ∧ QV (h.nx + 1) g' qv q ∧ HB h.nx T g' ∧ Ext h g' ∧ h.nx + 1 ≤ g'.nx ∧ BW g a to W T ∧ nodesT T = pre ++ q ∧ d + pre.length = g.length ∧
      ∀ v ∈ pre, to.testBit v = false ∧ ∀ u, adj g v u = true → W.testBit u = true → u ∈ nodesT T)
    (fun e ws g' => Ext h g' ∧ ((e = .exit 0 ∧ ∀ u, to.testBit u = true → ¬ Rch g W a u) ∨ (e = .ret ∧ ∃ v' w l x, ws = [v', w] ∧ WayB g a W to l ∧ l.head? = some x ∧ to.testBit x = true ∧ AqR h.nx g' 3 1 v' (cellsN l.reverse))))
    (by
      rintro d ws g' ⟨T, pre, q, qv, rfl, hq, hb, xg, hlo, bw, hTn, hd, hpre⟩
      have hTl := nodes_le bw.nodup bw.lt
      cases q with
      | nil =>
        refine ⟨.exit 0, [.slice none 0 0, qv], g', ?_, .inr ⟨by simp, xg, .inl ⟨rfl, fun u hu hr => ?_⟩⟩⟩
        · unfold f88_l1
          rw [show AM.gv [.slice none 0 0, qv] 1 = qv from rfl, show AM.gv [.slice none 0 0, qv] 0 = .slice none 0 0 from rfl, hq.len]
          simp
        · rw [List.append_nil] at hTn
          have := bw.closed (fun v hv u h1 h2 => (hpre v (by rw [← hTn]; exact hv)).2 u h1 h2) hr
          rw [hTn] at this
          rw [(hpre u this).1] at hu
          cases hu
      | cons v q =>
        have hvn : v ∈ nodesT T := by rw [hTn]; simp
        have hvl := bw.lt v hvn
        have hpl : pre.length + (q.length + 1) ≤ g.length := by rw [hTn] at hTl; simpa using hTl
        have hsg := hs.ext xg
        have hbit : AM.eq (AM.and .i64 (AM.shr .i64 (to : Int) (v : Int)) 1) 1 = to.testBit v := by
          rw [bit_nat (by omega) (by omega)]
          cases to.testBit v <;> rfl
        cases htv : to.testBit v with
        | true =>
          obtain ⟨l, hup⟩ := bw.up (numP T v + 1) v hvn (by omega)
          obtain ⟨way, hhd, _⟩ := hup.way bw
          have hll := nodes_le way.nodup way.lt
          have hl0 : l ≠ [] := by rintro rfl; simp at hhd
          obtain ⟨sv', w', g2, e2, a2, n2', k2⟩ := s88_l2 (k0 := 600) (h0 := h) rfl bw.nodup (Nat.lt_succ_self _) hup [] (.slice none 0 0) g' 600 hb .nil hlo (by omega) (by simp; omega)
          rw [List.nil_append] at a2
          obtain ⟨h10, e104, a10, n10, k10⟩ := s104 a2 hl0 (by omega)
          have hb2 : ∀ b, b < h.nx → h10.blk b = h.blk b := fun b hb => by
            rw [k10 b (by have := xg.nx; omega) (fun e => by have := (a2.blkOf e).1; omega), k2 b (by have := xg.nx; omega) (by simp [blkOf])]
            exact xg.blk b hb
          refine ⟨.ret, [sv', qv], h10, ?_, .inr ⟨by simp, ⟨by have := xg.nx; omega, hb2⟩, .inr ⟨rfl, sv', qv, l, v, rfl, way, hhd, htv, a10.down (by omega)⟩⟩⟩
          unfold f88_l1
          rw [show AM.gv [.slice none 0 0, qv] 1 = qv from rfl, show AM.gv [.slice none 0 0, qv] 0 = .slice none 0 0 from rfl, hq.len, lt_t (by simp only [List.length_cons]; omega), ifB_true, hq.head, asI_int, nn_ge (show (0 : Int) ≤ (v : Int) by omega), hbit, htv, ifB_true]
          refine (lp_eq e2).trans ?_
          rw [onE_exit, if_pos rfl, show AM.gv [sv', w'] 0 = sv' from rfl, calls_eq (xs := [sv']) e104]
          rfl
        | false =>
          have hS : nb g v &&& W < 1024 := Nat.lt_of_le_of_lt Nat.and_le_right hW
          obtain ⟨v8, g2, e76, x76, a8⟩ := s76A hS g'
          have hnb := Nat.lt_of_lt_of_le (hg.nb_lt v) hpow
          have hand : AM.and .i64 (nb g v : Int) (W : Int) = ((nb g v &&& W : Nat) : Int) := and_nat (by omega) (by omega)
          have hel : (elts (nb g v &&& W)).length ≤ 10 := by unfold elts; exact Nat.le_trans (List.length_filter_le ..) (by simp)
          have hn8 : ∀ {T : Type} (K : Int → Option T), len v8 K = K ((elts (nb g v &&& W)).length : Int) := fun K => by rw [a8.slR.len]; simp
          have hmem : ∀ u, u ∈ elts (nb g v &&& W) ↔ adj g v u = true ∧ W.testBit u = true := fun u => by rw [mem_elts hS, Nat.testBit_and, Bool.and_eq_true]; rfl
          have hqx : QV (h.nx + 1) g2 qv (v :: q) := hq.keep x76.nx fun b hb => x76.blk b (hq.blkOf hb).2
          have hx76 := x76.nx
          obtain ⟨ws2, h4, e4, X, qv', rfl, bw4, hb4, hq4, hin, hXl, hnx4, hk4, hqb4⟩ := s88_l3 (k0 := 600) (h0 := h) (lo := h.nx + 1) hg rfl (Nat.lt_succ_self _) (fun u hu => (hmem u).1 hu) hel hvn htv a8.slR
            (fun b hb => ⟨by have := (a8.blkOf hb).1; omega, fun e => by have := (hq.blkOf e).2; have := (a8.blkOf hb).1; omega⟩) bw (hb.ext (x76.blk _ (by omega))) hqx (by omega) (by omega) (by omega)
          obtain ⟨v15, e15, hq15, _⟩ := QV.tail (q := q ++ nodesT X) hq4
          have x4 : Ext h h4 := ⟨by have := xg.nx; omega, fun b hb => by
            rw [hk4 b (by have := xg.nx; omega) (by omega) (fun e => by have := (hq.blkOf e).1; omega), x76.blk b (by have := xg.nx; omega)]
            exact xg.blk b hb⟩
          refine ⟨.normal, [.slice none 0 0, v15], h4, ?_, .inl ⟨rfl, d - 1, by omega, T ++ X, pre ++ [v], q ++ nodesT X, v15, rfl, hq15, hb4, x4, by omega, bw4, by rw [nodesT_app, hTn]; simp, by simp; omega, fun y hy => ?_⟩⟩
          · unfold f88_l1
            rw [show AM.gv [.slice none 0 0, qv] 1 = qv from rfl, show AM.gv [.slice none 0 0, qv] 0 = .slice none 0 0 from rfl, hq.len, lt_t (by simp only [List.length_cons]; omega), ifB_true, hq.head, asI_int, nn_ge (show (0 : Int) ≤ (v : Int) by omega), hbit, htv, ifB_false]
            simp only [d3]
            rw [getN hsg hvl, asI_int, hor, hand, calls_eq (xs := [iv ((nb g v &&& W : Nat) : Int)]) e76, hn8]
            refine (lp_eq (lpGo_mono e4 (show 20 ≤ 600 by omega))).trans ?_
            rw [onE_exit, if_pos rfl, show AM.gv [qv', iv ((elts (nb g v &&& W)).length : Int)] 0 = qv' from rfl, e15]
            rfl
          · rw [List.mem_append, List.mem_singleton] at hy
            rcases hy with hy | rfl
            · refine ⟨(hpre y hy).1, fun u h1 h2 => ?_⟩
              rw [nodesT_app]; exact List.mem_append_left _ ((hpre y hy).2 u h1 h2)
            · refine ⟨htv, fun u h1 h2 => ?_⟩
              have := (hmem u).2 ⟨h1, h2⟩
              refine hin u ?_
              rw [List.take_length]; exact this)
    g.length 600 (by omega) (ws := [.slice none 0 0, .slice (some ⟨h2.nx, 0, none⟩) 1 1]) (h := h3) ⟨[(a, -1)], [], [a], _, rfl, hq3, hb3, x2.trans x3, by omega, bw0 hg ha, rfl, by simp, by simp⟩
  obtain ⟨x9, hor9⟩ := hQ
  have start : ∀ r, (onE e 0 (some ((.slice none 0 0), h9)) (onR e (some (AM.gv ws' 0, h9)))) = r → f88 rn 600 tv a to thr h = r := by
    intro r hr
    unfold f88
    simp only [mkm]
    rw [nx_eq, mup_new under87 under3i hm0 k0 rfl, ← hh2, bls_some (bls22 (a : Int) h2), ← hh3]
    exact (lp_eq hlp).trans hr
  rcases hor9 with ⟨rfl, hno⟩ | ⟨rfl, v', w, l, x, rfl, way, hhd, htx, a9⟩
  · obtain ⟨h10, e10, m10, w10⟩ := x88 (k := 600) (v0 := tv) (n0 := a) (n1 := to) (n2 := thr) (h := h) (h1 := h9) (v := .slice none 0 0) (start _ (by rw [onE_exit, if_pos rfl])) rfl
    exact ⟨_, h10, e10, w10 x9, .inr ⟨rfl, hno⟩⟩
  · obtain ⟨h10, e10, m10, w10⟩ := x88 (k := 600) (v0 := tv) (n0 := a) (n1 := to) (n2 := thr) (h := h) (h1 := h9) (v := v') (start _ (by rw [onE_ret, onR_ret]; rfl)) a9.slR.notR
    exact ⟨v', h10, e10, w10 x9, .inl ⟨l, x, way, hhd, htx, a9.ext m10.ext⟩⟩

end Go.AM

end

section

/- Numberings: where a beginning goes on. Plain. -/
namespace Go.AM
open Go.Proofs
/-- What is left behind a beginning. -/
def lf (g : List Nat) (B : Nat) : Nat := without (allN g) B

/-- From every node that is left a way leads to t. -/
noncomputable def goodQ (g : List Nat) (t B : Nat) : Bool := decide (rch g (lf g B) t = lf g B)

/-- May a node come next, for its neighbours? -/
def cq (g : List Nat) (t B v : Nat) : Bool := !B.testBit v && decide (v ≠ t) && decide (nb g v &&& B ≠ 0) && decide (nb g v &&& lf g (B ||| 2 ^ v) ≠ 0)

theorem without_bit {a b i : Nat} : (without a b).testBit i = (a.testBit i && !b.testBit i) := by
  unfold without
  rw [Nat.testBit_xor, Nat.testBit_and]
  cases a.testBit i <;> cases b.testBit i <;> rfl

theorem lf_bit {g : List Nat} {B i : Nat} : (lf g B).testBit i = (decide (i < g.length) && !B.testBit i) := by
  unfold lf; rw [without_bit, allN_bit]

theorem or_bit {B v i : Nat} : (B ||| 2 ^ v).testBit i = (B.testBit i || decide (v = i)) := by
  rw [Nat.testBit_or, Nat.testBit_two_pow]

theorem and_ne {a b : Nat} : a &&& b ≠ 0 ↔ ∃ i, a.testBit i = true ∧ b.testBit i = true := by
  constructor
  · intro h
    obtain ⟨i, hi⟩ := Nat.exists_testBit_of_ne_zero h
    rw [Nat.testBit_and, Bool.and_eq_true] at hi
    exact ⟨i, hi⟩
  · rintro ⟨i, h1, h2⟩ h0
    have : (a &&& b).testBit i = true := by rw [Nat.testBit_and, h1, h2]; rfl
    rw [h0] at this
    simp at this

section
variable {g : List Nat} {t B : Nat}
theorem lf_lt (hg : GrN g) : lf g B < 1024 := by
  exact without_le (n := 10) _ _ (allN_lt10 hg)

theorem good_iff (hg : GrN g) (ht : t < g.length) (hB : B.testBit t = false) : goodQ g t B = true ↔ ∀ u, (lf g B).testBit u = true → Rch g (lf g B) t u := by
  unfold goodQ
  rw [decide_eq_true_iff]
  exact rch_full (lf_lt hg) (by rw [lf_bit, hB, decide_eq_true ht]; rfl)

/-- A step to a good beginning comes from a good one. -/
theorem good_back (hg : GrN g) (ht : t < g.length) (hB : B.testBit t = false) {v : Nat} (hc : cq g t B v = true) (h : goodQ g t (B ||| 2 ^ v) = true) : goodQ g t B = true := by
  unfold cq at hc
  simp only [Bool.and_eq_true, Bool.not_eq_true', decide_eq_true_eq] at hc
  obtain ⟨⟨⟨h1, h2⟩, h3⟩, h4⟩ := hc
  have hB' : (B ||| 2 ^ v).testBit t = false := by rw [or_bit, hB]; simp [h2]
  rw [good_iff hg ht hB'] at h
  rw [good_iff hg ht hB]
  have hsub : ∀ i, (lf g (B ||| 2 ^ v)).testBit i = true → (lf g B).testBit i = true := by
    intro i hi
    rw [lf_bit, or_bit] at hi
    rw [lf_bit]
    simp at hi ⊢
    exact ⟨hi.1, hi.2.1⟩
  intro u hu
  by_cases huv : u = v
  · subst huv
    obtain ⟨x, hx1, hx2⟩ := and_ne.1 h4
    refine ((h x hx2).mono hsub).step (b := u) ?_ hu
    rw [hg.sym]; exact hx1
  · refine (h u ?_).mono hsub
    rw [lf_bit] at hu ⊢
    rw [or_bit]
    simp at hu ⊢
    exact ⟨hu.1, hu.2, fun e => huv e.symm⟩

theorem exit_in {G : List Nat} {W : Nat} {S : Nat → Prop} {u p : Nat} (h : Rch G W u p) (hu : S u) (hp : ¬ S p) : ∃ x y, S x ∧ ¬ S y ∧ adj G x y = true ∧ W.testBit y = true ∧ Rch G W u x := by
  induction h with
  | base => exact absurd hu hp
  | @step a b h1 h2 h3 ih =>
    by_cases ha : S a
    · exact ⟨a, b, ha, hp, h2, h3, h1⟩
    · exact ih ha

theorem all_del {w i : Nat} (hi : i < g.length) (hw : i ≠ w) : (without (allN g) (2 ^ w)).testBit i = true := by
  rw [bit_del, allN_bit]; exact ⟨decide_eq_true hi, hw⟩

/-- A good beginning goes on, in a graph without cut nodes. -/
theorem good_next (hg : GrN g) (hbi : Bi g (allN g)) (ht : t < g.length) (hB : B.testBit t = false) {s : Nat} (hs : B.testBit s = true) (hsn : s < g.length) (hgood : goodQ g t B = true) {z : Nat} (hz : (lf g B).testBit z = true) (hzt : z ≠ t) :
    ∃ v, v < g.length ∧ cq g t B v = true ∧ goodQ g t (B ||| 2 ^ v) = true := by
  have hgd := (good_iff hg ht hB).1 hgood
  have htl : (lf g B).testBit t = true := by rw [lf_bit, hB, decide_eq_true ht]; rfl
  have hst : s ≠ t := by rintro rfl; rw [hB] at hs; cases hs
  have lfv : ∀ {v i}, (lf g (B ||| 2 ^ v)).testBit i = true ↔ (lf g B).testBit i = true ∧ i ≠ v := by
    intro v i
    rw [lf_bit, lf_bit, or_bit]
    simp
    constructor
    · rintro ⟨a, b, c⟩; exact ⟨⟨a, b⟩, fun e => c e.symm⟩
    · rintro ⟨⟨a, b⟩, c⟩; exact ⟨a, b, fun e => c e.symm⟩
  have lfn : ∀ {i}, (lf g B).testBit i = true → i < g.length ∧ B.testBit i = false := by
    intro i hi
    rw [lf_bit] at hi
    simpa using hi
  -- a candidate
  have key : ∀ (k v : Nat), (lf g B).testBit v = true → v ≠ t → (∃ x, B.testBit x = true ∧ adj g v x = true) → 10 ≤ pop (rch g (lf g (B ||| 2 ^ v)) t) + k → ∃ v, v < g.length ∧ cq g t B v = true ∧ goodQ g t (B ||| 2 ^ v) = true := by
    intro k
    induction k with
    | zero =>
      intro v hv hvt hx hp
      exfalso
      have h1 := pop_lt (a := rch g (lf g (B ||| 2 ^ v)) t) (b := 1023) (i := v) (by omega) (fun j hj => by
        have := bit_lt (n := 10) (rch_lt _ _ _) hj
        rw [show 1023 = 2 ^ 10 - 1 by rfl, Nat.testBit_two_pow_sub_one]; exact decide_eq_true this) (by
        rw [show 1023 = 2 ^ 10 - 1 by rfl, Nat.testBit_two_pow_sub_one]
        exact decide_eq_true (by have := (lfn hv).1; have := hg.len; omega)) (by
        rw [Bool.eq_false_iff]
        intro hc
        have := (rch_bit (by have := hg.len; omega) (lf_lt hg)).1 hc
        have := this.mem (lfv.2 ⟨htl, fun e => hvt e.symm⟩)
        exact (lfv.1 this).2 rfl)
      have : pop 1023 = 10 := by decide +kernel
      omega
    | succ k ih =>
      intro v hv hvt hx hp
      obtain ⟨hvn, hvB⟩ := lfn hv
      obtain ⟨x, hxB, hxv⟩ := hx
      have htl' : (lf g (B ||| 2 ^ v)).testBit t = true := lfv.2 ⟨htl, fun e => hvt e.symm⟩
      have hB' : (B ||| 2 ^ v).testBit t = false := by rw [or_bit, hB]; simp [hvt]
      -- the node has a neighbour that t sees
      obtain ⟨a, b, ha, hb, hab, hbl, _⟩ := exit_in (S := Rch g (lf g (B ||| 2 ^ v)) t) (hgd v hv) .base (fun h => (lfv.1 (h.mem htl')).2 rfl)
      have hbv : b = v := Classical.byContradiction fun hne => hb (ha.step hab (lfv.2 ⟨hbl, hne⟩))
      subst hbv
      by_cases hgv : goodQ g t (B ||| 2 ^ b) = true
      · refine ⟨b, hvn, ?_, hgv⟩
        unfold cq
        rw [hvB, decide_eq_true hvt, decide_eq_true (and_ne.2 ⟨x, hxv, hxB⟩), decide_eq_true (and_ne.2 ⟨a, by show adj g b a = true; rw [hg.sym]; exact hab, ha.mem htl'⟩)]
        rfl
      · rw [good_iff hg ht hB'] at hgv
        obtain ⟨u, hu⟩ := Classical.not_forall.1 hgv
        obtain ⟨hul, hur⟩ := Classical.not_imp.1 hu
        obtain ⟨huB, hub⟩ := lfv.1 hul
        have hut : ¬ Rch g (lf g (B ||| 2 ^ b)) u t := fun h => hur (h.sym hg.sym hul)
        obtain ⟨y, w, hy, hw, hyw, hwl, _⟩ := exit_in (S := Rch g (lf g (B ||| 2 ^ b)) u) (hbi b u t (all_del (lfn huB).1 hub) (all_del ht (fun e => hvt e.symm))) .base hut
        rw [bit_del, allN_bit] at hwl
        have hwB : B.testBit w = true := by
          cases hc : B.testBit w with
          | true => rfl
          | false => exact absurd (hy.step hyw (lfv.2 ⟨by rw [lf_bit, hc, hwl.1]; rfl, hwl.2⟩)) hw
        have hyl := hy.mem hul
        obtain ⟨hylB, hyb⟩ := lfv.1 hyl
        have hty : ¬ Rch g (lf g (B ||| 2 ^ b)) t y := fun h => hur (h.trans (hy.sym hg.sym hul))
        have hyt : y ≠ t := fun e => hty (by rw [e]; exact .base)
        -- what t sees without b it sees without y
        have more : ∀ z, Rch g (lf g (B ||| 2 ^ b)) t z → Rch g (lf g (B ||| 2 ^ y)) t z := by
          intro z hz
          induction hz with
          | base => exact .base
          | @step p q h1 h2 h3 ih2 =>
            refine ih2.step h2 (lfv.2 ⟨(lfv.1 h3).1, ?_⟩)
            rintro rfl
            exact hty (h1.step h2 h3)
        have hbs : Rch g (lf g (B ||| 2 ^ y)) t b := (more a ha).step hab (lfv.2 ⟨hv, fun e => hyb e.symm⟩)
        have hlen := hg.len
        refine ih y hylB hyt ⟨w, hwB, hyw⟩ ?_
        have := pop_lt (a := rch g (lf g (B ||| 2 ^ b)) t) (b := rch g (lf g (B ||| 2 ^ y)) t) (i := b) (rch_lt _ _ _) (fun j hj => (rch_bit (by omega) (lf_lt hg)).2 (more j ((rch_bit (by omega) (lf_lt hg)).1 hj)))
          ((rch_bit (by omega) (lf_lt hg)).2 hbs) (by
            rw [Bool.eq_false_iff]
            intro hc
            exact (lfv.1 (((rch_bit (by omega) (lf_lt hg)).1 hc).mem htl')).2 rfl)
        omega
  obtain ⟨hzn, hzB⟩ := lfn hz
  obtain ⟨a, b, ha, hb, hab, hbl, _⟩ := exit_in (S := fun i => B.testBit i = true) (hbi t s z (all_del hsn hst) (all_del hzn hzt)) hs (by rw [hzB]; simp)
  rw [bit_del, allN_bit] at hbl
  exact key 10 b (by rw [lf_bit, hbl.1]; simpa using hb) hbl.2 ⟨a, ha, by rw [hg.sym]; exact hab⟩ (by omega)

end
end Go.AM

end

section

/- The staged forms of functions 7, 34, 35, 36, 37, 38, 39, 41, 81, 82, 84, and what calls of these answer. -/
namespace Go.AM
open Go.Proofs
noncomputable def f7 (rec : Rec) (_k : Nat) (v0 : Value) (n0 : Int) (n1 : Int) (v1 : Value) (h0 : H) : Option (Value × H) :=
  calls rec h0 18 [v0] fun v2 h1 =>
  calls rec h1 34 [v2, (.int .i64 n0), (.int .i64 n1)] fun v3 h2 =>
  ext v3 0 fun v4 =>
  ext v3 1 fun v5 =>
  asI .i64 v5 fun n2 =>
  calls rec h2 18 [v0] fun v6 h3 =>
  calls rec h3 36 [v1] fun v7 h4 =>
  calls rec h4 35 [v6, v7] fun v8 h5 =>
  ext v8 0 fun v9 =>
  asB v9 fun q0 =>
  ext v8 1 fun v10 =>
  asI .i64 v10 fun n3 =>
  calls rec h5 19 [v0] fun v11 h6 =>
  asB v11 fun q1 =>
  ifB (not q1) (
    len v4 fun n4 =>
    ifB (eq n4 0) (
      ifB (not q0) (
        ifB (eq n2 2) (
          ifB (eq n3 2) (
            calls rec h6 20 [] fun v12 h7 =>
            asB v12 fun q2 =>
            some ((.bool q2), h7)) (
            some ((.bool false), h6))) (
          some ((.bool false), h6))) (
        some ((.bool false), h6))) (
      some ((.bool false), h6))) (
    calls rec h6 37 [v0, v1] fun v13 h8 =>
    asB v13 fun q3 =>
    eqv Tryd.prog 4 (.bool q0) (.bool q3) fun q4 =>
    ifB (not q4) (
      some ((.bool false), h8)) (
      ifB (not (eq n3 0)) (
        some ((.bool false), h8)) (
        calls rec h8 20 [] fun v14 h9 =>
        asB v14 fun q5 =>
        ifB (not q5) (
          some ((.bool false), h9)) (
          calls rec h9 38 [v0, (.int .i64 n0)] fun v15 h10 =>
          asB v15 fun q6 =>
          ifB (not q6) (
            len v4 fun n5 =>
            ifB (eq n5 0) (
              some ((.bool (eq n2 2)), h10)) (
              some ((.bool false), h10))) (
            calls rec h10 38 [v0, (.int .i64 n1)] fun v16 h11 =>
            asB v16 fun q7 =>
            ifB (not q7) (
              len v4 fun n6 =>
              ifB (eq n6 0) (
                some ((.bool (eq n2 2)), h11)) (
                some ((.bool false), h11))) (
              six v0 n0 1 fun b0 b1 =>
              ld Tryd.prog h11 3 b0 b1 fun v17 =>
              asI .i64 v17 fun n7 =>
              nn n1 (
                ifB (eq (and .i64 (shr .i64 n7 n1) 1) 0) (
                  len v4 fun n8 =>
                  ifB (eq n8 0) (
                    some ((.bool (eq n2 2)), h11)) (
                    some ((.bool false), h11))) (
                  calls rec h11 39 [v0] fun v18 h12 =>
                  asB v18 fun q8 =>
                  ifB (not q8) (
                    len v4 fun n9 =>
                    ifB (eq n9 0) (
                      some ((.bool (eq n2 5)), h12)) (
                      some ((.bool false), h12))) (
                    calls rec h12 41 [v0, (.int .i64 n0), (.int .i64 n1)] fun v19 h13 =>
                    calls rec h13 40 [v4, v19] fun v20 h14 =>
                    asB v20 fun q9 =>
                    ifB q9 (
                      some ((.bool (eq n2 0)), h14)) (
                      some ((.bool false), h14)))))))))))

theorem e7 (rec : Rec) (k : Nat) (v0 : Value) (n0 : Int) (n1 : Int) (v1 : Value) (h : H) : bodyT Tryd.prog E0 SC (XC Tryd.prog rec k) 7 (Value × H) [.opq v0, .int .i64 n0, .int .i64 n1, .opq v1] h (fun v h => some (v, h)) = f7 rec k v0 n0 n1 v1 h := by kernel_rfl

theorem t7 {k : Nat} {v0 : Value} {n0 : Int} {n1 : Int} {v1 : Value} {h h1 : H} {v : Value} (hh : f7 rn k v0 n0 n1 v1 h = some (v, h1)) : rn 7 #[v0, .int .i64 n0, .int .i64 n1, v1] h = some (v, trunc Tryd.prog h h1 v) :=
  run_of_bodyT (args := [.opq v0, .int .i64 n0, .int .i64 n1, .opq v1]) rfl ((e7 _ _ _ _ _ _ _).trans hh)

theorem p7 {k : Nat} {v0 : Value} {n0 : Int} {n1 : Int} {v1 : Value} {h h1 : H} {v : Value} (hh : f7 rn k v0 n0 n1 v1 h = some (v, h1)) (hp : plainO v = true) (x : Ext h h1) : rn 7 #[v0, .int .i64 n0, .int .i64 n1, v1] h = some (v, h) := by rw [t7 hh, trunc_pure hp x]

theorem x7 {k : Nat} {v0 : Value} {n0 : Int} {n1 : Int} {v1 : Value} {h h1 : H} {v : Value} (hh : f7 rn k v0 n0 n1 v1 h = some (v, h1)) (hp : plainO v = false) : ∃ h2, rn 7 #[v0, .int .i64 n0, .int .i64 n1, v1] h = some (v, h2) ∧ Sm h1 h2 ∧ (Ext h h1 → Exw h h2) := trunc_cell hp (t7 hh)

noncomputable def f34 (rec : Rec) (_k : Nat) (v0 : Value) (n0 : Int) (n1 : Int) (h0 : H) : Option (Value × H) :=
  calls rec h0 63 [v0] fun v1 h1 =>
  ext v1 0 fun v2 =>
  ext v1 1 fun v3 =>
  asB v3 fun q0 =>
  ifB (not q0) (
    some ((.tuple #[(.slice none 0 0), (.int .i64 2)]), h1)) (
    calls rec h1 79 [v2, (.int .i64 n0)] fun v4 h2 =>
    asB v4 fun q1 =>
    ifB (not q1) (
      some ((.tuple #[(.slice none 0 0), (.int .i64 2)]), h2)) (
      calls rec h2 79 [v2, (.int .i64 n1)] fun v5 h3 =>
      asB v5 fun q2 =>
      ifB (not q2) (
        some ((.tuple #[(.slice none 0 0), (.int .i64 2)]), h3)) (
        calls rec h3 80 [v2, (.int .i64 n0), (.int .i64 n1)] fun v6 h4 =>
        asB v6 fun q3 =>
        ifB (not q3) (
          some ((.tuple #[(.slice none 0 0), (.int .i64 2)]), h4)) (
          calls rec h4 81 [v2] fun v7 h5 =>
          asB v7 fun q4 =>
          ifB (not q4) (
            some ((.tuple #[(.slice none 0 0), (.int .i64 5)]), h5)) (
            mkm h5 fun h6 =>
            bld Tryd.prog 99 [(0, v2), (1, (.int .i64 n1)), (2, (.map (some (nx h5))))] fun v8 =>
            bx h6 99 v8 fun h7 =>
            bls Tryd.prog h7 22 1 [(0, (.int .i64 n0))] fun v9 h8 =>
            nn n0 (
              calls rec h8 82 [(pt (nx h6) 0), v9, (.int .i64 (shl .i64 1 n0))] fun v10 h9 =>
              some ((.tuple #[v10, (.int .i64 0)]), h9)))))))

theorem e34 (rec : Rec) (k : Nat) (v0 : Value) (n0 : Int) (n1 : Int) (h : H) : bodyT Tryd.prog E0 SC (XC Tryd.prog rec k) 34 (Value × H) [.opq v0, .int .i64 n0, .int .i64 n1] h (fun v h => some (v, h)) = f34 rec k v0 n0 n1 h := by kernel_rfl

theorem t34 {k : Nat} {v0 : Value} {n0 : Int} {n1 : Int} {h h1 : H} {v : Value} (hh : f34 rn k v0 n0 n1 h = some (v, h1)) : rn 34 #[v0, .int .i64 n0, .int .i64 n1] h = some (v, trunc Tryd.prog h h1 v) :=
  run_of_bodyT (args := [.opq v0, .int .i64 n0, .int .i64 n1]) rfl ((e34 _ _ _ _ _ _).trans hh)

theorem x34 {k : Nat} {v0 : Value} {n0 : Int} {n1 : Int} {h h1 : H} {v : Value} (hh : f34 rn k v0 n0 n1 h = some (v, h1)) (hp : plainO v = false) : ∃ h2, rn 34 #[v0, .int .i64 n0, .int .i64 n1] h = some (v, h2) ∧ Sm h1 h2 ∧ (Ext h h1 → Exw h h2) := trunc_cell hp (t34 hh)

theorem y34 {k : Nat} {v0 : Value} {n0 : Int} {n1 : Int} {h : H} {v : Value} (hh : f34 rn k v0 n0 n1 h = some (v, h)) : rn 34 #[v0, .int .i64 n0, .int .i64 n1] h = some (v, h) := by rw [t34 hh, trunc_self]

noncomputable def f35_l1 (rec : Rec) (_k : Nat) (v1 : Value) (v3 : Value) (n0 : Int) (ws0 : List Value) (h2 : H) : Option (Ex × List Value × H) :=
  asI .i64 (gv ws0 3) fun n1 =>
  ifB (lt n1 n0) (
    asK (gv ws0 3) fun n2 =>
    six v1 n2 1 fun b0 b1 =>
    ld Tryd.prog h2 3 b0 b1 fun v5 =>
    asI .i64 v5 fun n3 =>
    calls rec h2 79 [v3, (.int .i64 n3)] fun v6 h3 =>
    asB v6 fun q1 =>
    ifB (not q1) (
      out .ret [(.bool false), (.int .i64 0), gv ws0 2, gv ws0 3] h3) (
      nn n3 (
        asI .i64 (gv ws0 2) fun n4 =>
        asI .i64 (gv ws0 3) fun n5 =>
        out .normal [gv ws0 0, gv ws0 1, (.int .i64 (or .i64 n4 (shl .i64 1 n3))), (.int .i64 (add .i64 n5 1))] h3))) (
    out (.exit 0) [gv ws0 0, gv ws0 1, gv ws0 2, gv ws0 3] h2)

noncomputable def f35_l2 (_rec : Rec) (_k : Nat) (v1 : Value) (v3 : Value) (ws1 : List Value) (n14 : Int) (ws2 : List Value) (h7 : H) : Option (Ex × List Value × H) :=
  asI .i64 (gv ws2 3) fun n15 =>
  ifB (lt n15 n14) (
    asK (gv ws2 3) fun n16 =>
    six v1 n16 1 fun b6 b7 =>
    ld Tryd.prog h7 3 b6 b7 fun v11 =>
    asI .i64 v11 fun n17 =>
    asI .i64 (gv ws1 2) fun n18 =>
    asI .i64 (gv ws2 2) fun n19 =>
    nn n17 (
      asI .i64 (gv ws2 3) fun n20 =>
      ifB (lt 0 n20) (
        len v1 fun n21 =>
        asI .i64 (gv ws2 3) fun n22 =>
        ifB (lt n22 (sub .i64 n21 1)) (
          six v3 n17 1 fun b8 b9 =>
          ld Tryd.prog h7 3 b8 b9 fun v12 =>
          asI .i64 v12 fun n23 =>
          asI .i64 (gv ws2 2) fun n24 =>
          ifB (eq (and .i64 n23 n24) 0) (
            out .ret [(.bool false), (.int .i64 0), gv ws2 2, gv ws2 3] h7) (
            six v3 n17 1 fun b10 b11 =>
            ld Tryd.prog h7 3 b10 b11 fun v13 =>
            asI .i64 v13 fun n25 =>
            ifB (eq (and .i64 n25 (andNot .i64 (andNot .i64 n18 n19) (shl .i64 1 n17))) 0) (
              out .ret [(.bool false), (.int .i64 0), gv ws2 2, gv ws2 3] h7) (
              nn n17 (
                asI .i64 (gv ws2 2) fun n26 =>
                asI .i64 (gv ws2 3) fun n27 =>
                out .normal [gv ws2 0, gv ws2 1, (.int .i64 (or .i64 n26 (shl .i64 1 n17))), (.int .i64 (add .i64 n27 1))] h7)))) (
          nn n17 (
            asI .i64 (gv ws2 2) fun n28 =>
            asI .i64 (gv ws2 3) fun n29 =>
            out .normal [gv ws2 0, gv ws2 1, (.int .i64 (or .i64 n28 (shl .i64 1 n17))), (.int .i64 (add .i64 n29 1))] h7))) (
        nn n17 (
          asI .i64 (gv ws2 2) fun n30 =>
          asI .i64 (gv ws2 3) fun n31 =>
          out .normal [gv ws2 0, gv ws2 1, (.int .i64 (or .i64 n30 (shl .i64 1 n17))), (.int .i64 (add .i64 n31 1))] h7)))) (
    out (.exit 2) [gv ws2 0, gv ws2 1, gv ws2 2, gv ws2 3] h7)

noncomputable def f35 (rec : Rec) (k : Nat) (v0 : Value) (v1 : Value) (h0 : H) : Option (Value × H) :=
  calls rec h0 63 [v0] fun v2 h1 =>
  ext v2 0 fun v3 =>
  ext v2 1 fun v4 =>
  asB v4 fun q0 =>
  ifB (not q0) (
    some ((.tuple #[(.bool false), (.int .i64 2)]), h1)) (
    len v1 fun n0 =>
    lp k (f35_l1 rec k v1 v3 n0) [(.bool false), (.int .i64 0), (.int .i64 0), (.int .i64 0)] h1 fun e0 ws1 h4 =>
    onE e0 0 (
      len v1 fun n6 =>
      len v3 fun n7 =>
      ifB (not (eq n6 n7)) (
        some ((.tuple #[(.bool false), (.int .i64 0)]), h4)) (
        calls rec h4 65 [v3] fun v7 h5 =>
        asI .i64 v7 fun n8 =>
        asI .i64 (gv ws1 2) fun n9 =>
        ifB (not (eq n9 n8)) (
          some ((.tuple #[(.bool false), (.int .i64 0)]), h5)) (
          len v1 fun n10 =>
          ifB (lt n10 2) (
            some ((.tuple #[(.bool false), (.int .i64 0)]), h5)) (
            six v1 0 1 fun b2 b3 =>
            ld Tryd.prog h5 3 b2 b3 fun v8 =>
            asI .i64 v8 fun n11 =>
            len v1 fun n12 =>
            six v1 (sub .i64 n12 1) 1 fun b4 b5 =>
            ld Tryd.prog h5 3 b4 b5 fun v9 =>
            asI .i64 v9 fun n13 =>
            calls rec h5 80 [v3, (.int .i64 n11), (.int .i64 n13)] fun v10 h6 =>
            asB v10 fun q2 =>
            ifB (not q2) (
              some ((.tuple #[(.bool false), (.int .i64 0)]), h6)) (
              len v1 fun n14 =>
              lp k (f35_l2 rec k v1 v3 ws1 n14) [gv ws1 0, gv ws1 1, (.int .i64 0), (.int .i64 0)] h6 fun e1 ws3 h8 =>
              onE e1 2 (
                some ((.tuple #[(.bool true), (.int .i64 0)]), h8)) (
                onR e1 (
                  some ((.tuple #[gv ws3 0, gv ws3 1]), h8)))))))) (
      onR e0 (
        some ((.tuple #[gv ws1 0, gv ws1 1]), h4))))

theorem e35 (rec : Rec) (k : Nat) (v0 : Value) (v1 : Value) (h : H) : bodyT Tryd.prog E0 SC (XC Tryd.prog rec k) 35 (Value × H) [.opq v0, .opq v1] h (fun v h => some (v, h)) = f35 rec k v0 v1 h := by kernel_rfl

theorem t35 {k : Nat} {v0 : Value} {v1 : Value} {h h1 : H} {v : Value} (hh : f35 rn k v0 v1 h = some (v, h1)) : rn 35 #[v0, v1] h = some (v, trunc Tryd.prog h h1 v) :=
  run_of_bodyT (args := [.opq v0, .opq v1]) rfl ((e35 _ _ _ _ _).trans hh)

theorem p35 {k : Nat} {v0 : Value} {v1 : Value} {h h1 : H} {v : Value} (hh : f35 rn k v0 v1 h = some (v, h1)) (hp : plainO v = true) (x : Ext h h1) : rn 35 #[v0, v1] h = some (v, h) := by rw [t35 hh, trunc_pure hp x]

noncomputable def f36 (rec : Rec) (_k : Nat) (v0 : Value) (h0 : H) : Option (Value × H) :=
  len v0 fun n0 =>
  sli Tryd.prog h0 22 v0 none (some (.int .i64 (imin n0 16))) none fun v1 =>
  calls rec h0 83 [v1] fun v2 h1 =>
  some (v2, h1)

theorem e36 (rec : Rec) (k : Nat) (v0 : Value) (h : H) : bodyT Tryd.prog E0 SC (XC Tryd.prog rec k) 36 (Value × H) [.opq v0] h (fun v h => some (v, h)) = f36 rec k v0 h := by kernel_rfl

theorem t36 {k : Nat} {v0 : Value} {h h1 : H} {v : Value} (hh : f36 rn k v0 h = some (v, h1)) : rn 36 #[v0] h = some (v, trunc Tryd.prog h h1 v) :=
  run_of_bodyT (args := [.opq v0]) rfl ((e36 _ _ _ _).trans hh)

theorem x36 {k : Nat} {v0 : Value} {h h1 : H} {v : Value} (hh : f36 rn k v0 h = some (v, h1)) (hp : plainO v = false) : ∃ h2, rn 36 #[v0] h = some (v, h2) ∧ Sm h1 h2 ∧ (Ext h h1 → Exw h h2) := trunc_cell hp (t36 hh)

noncomputable def f38 (_rec : Rec) (_k : Nat) (v0 : Value) (n0 : Int) (h0 : H) : Option (Value × H) :=
  ifB (le 0 n0) (
    len v0 fun n1 =>
    some ((.bool (lt n0 n1)), h0)) (
    some ((.bool false), h0))

theorem e38 (rec : Rec) (k : Nat) (v0 : Value) (n0 : Int) (h : H) : bodyT Tryd.prog E0 SC (XC Tryd.prog rec k) 38 (Value × H) [.opq v0, .int .i64 n0] h (fun v h => some (v, h)) = f38 rec k v0 n0 h := by kernel_rfl

theorem t38 {k : Nat} {v0 : Value} {n0 : Int} {h h1 : H} {v : Value} (hh : f38 rn k v0 n0 h = some (v, h1)) : rn 38 #[v0, .int .i64 n0] h = some (v, trunc Tryd.prog h h1 v) :=
  run_of_bodyT (args := [.opq v0, .int .i64 n0]) rfl ((e38 _ _ _ _ _).trans hh)

theorem p38 {k : Nat} {v0 : Value} {n0 : Int} {h h1 : H} {v : Value} (hh : f38 rn k v0 n0 h = some (v, h1)) (hp : plainO v = true) (x : Ext h h1) : rn 38 #[v0, .int .i64 n0] h = some (v, h) := by rw [t38 hh, trunc_pure hp x]

noncomputable def f81 (rec : Rec) (_k : Nat) (v0 : Value) (h0 : H) : Option (Value × H) :=
  len v0 fun n0 =>
  ifB (le 3 n0) (
    calls rec h0 65 [v0] fun v1 h1 =>
    asI .i64 v1 fun n1 =>
    calls rec h1 64 [v0, (.int .i64 n1)] fun v2 h2 =>
    asB v2 fun q0 =>
    ifB q0 (
      calls rec h2 65 [v0] fun v3 h3 =>
      asI .i64 v3 fun n2 =>
      calls rec h3 70 [v0, (.int .i64 n2)] fun v4 h4 =>
      asI .i64 v4 fun n3 =>
      some ((.bool (eq n3 0)), h4)) (
      some ((.bool false), h2))) (
    some ((.bool false), h0))

theorem e81 (rec : Rec) (k : Nat) (v0 : Value) (h : H) : bodyT Tryd.prog E0 SC (XC Tryd.prog rec k) 81 (Value × H) [.opq v0] h (fun v h => some (v, h)) = f81 rec k v0 h := by kernel_rfl

theorem t81 {k : Nat} {v0 : Value} {h h1 : H} {v : Value} (hh : f81 rn k v0 h = some (v, h1)) : rn 81 #[v0] h = some (v, trunc Tryd.prog h h1 v) :=
  run_of_bodyT (args := [.opq v0]) rfl ((e81 _ _ _ _).trans hh)

theorem p81 {k : Nat} {v0 : Value} {h h1 : H} {v : Value} (hh : f81 rn k v0 h = some (v, h1)) (hp : plainO v = true) (x : Ext h h1) : rn 81 #[v0] h = some (v, h) := by rw [t81 hh, trunc_pure hp x]

noncomputable def f82_l1 (rec : Rec) (_k : Nat) (v0 : Value) (v1 : Value) (n0 : Int) (n1 : Int) (v11 : Value) (n5 : Int) (ws0 : List Value) (h5 : H) : Option (Ex × List Value × H) :=
  asI .i64 (gv ws0 1) fun n6 =>
  ifB (lt n6 n5) (
    asK (gv ws0 1) fun n7 =>
    six v11 n7 1 fun b10 b11 =>
    ld Tryd.prog h5 3 b10 b11 fun v12 =>
    asI .i64 v12 fun n8 =>
    nil v0 (
      asP v0 fun b12 b13 =>
      ld Tryd.prog h5 78 b12 b13 fun v13 =>
      six v13 n8 1 fun b14 b15 =>
      ld Tryd.prog h5 3 b14 b15 fun v14 =>
      asI .i64 v14 fun n9 =>
      ifB (eq (and .i64 n9 n0) 0) (
        asI .i64 (gv ws0 1) fun n10 =>
        out .normal [gv ws0 0, (.int .i64 (add .i64 n10 1))] h5) (
        nil v0 (
          asP v0 fun b16 b17 =>
          ld Tryd.prog h5 78 b16 b17 fun v15 =>
          six v15 n8 1 fun b18 b19 =>
          ld Tryd.prog h5 3 b18 b19 fun v16 =>
          asI .i64 v16 fun n11 =>
          ifB (eq (and .i64 n11 (andNot .i64 n1 n0)) 0) (
            asI .i64 (gv ws0 1) fun n12 =>
            out .normal [gv ws0 0, (.int .i64 (add .i64 n12 1))] h5) (
            calls rec h5 83 [v1] fun v17 h6 =>
            bls Tryd.prog h6 22 1 [(0, (.int .i64 n8))] fun v18 h7 =>
            app Tryd.prog h7 22 22 v17 v18 fun v19 h8 =>
            nn n8 (
              calls rec h8 82 [v0, v19, (.int .i64 (or .i64 n0 (shl .i64 1 n8)))] fun v20 h9 =>
              eqv Tryd.prog 22 v20 (.slice none 0 0) fun q1 =>
              ifB (not q1) (
                out .ret [v20, gv ws0 1] h9) (
                asI .i64 (gv ws0 1) fun n13 =>
                out .normal [gv ws0 0, (.int .i64 (add .i64 n13 1))] h9))))))) (
    out (.exit 0) [gv ws0 0, gv ws0 1] h5)

noncomputable def f82 (rec : Rec) (k : Nat) (v0 : Value) (v1 : Value) (n0 : Int) (h0 : H) : Option (Value × H) :=
  nil v0 (
    asP v0 fun b0 b1 =>
    ld Tryd.prog h0 78 b0 b1 fun v2 =>
    calls rec h0 65 [v2] fun v3 h1 =>
    asI .i64 v3 fun n1 =>
    nil v0 (
      asP v0 fun b2 b3 =>
      ld Tryd.prog h1 3 b2 (off b3 1) fun v4 =>
      asI .i64 v4 fun n2 =>
      nn n2 (
        ifB (eq (andNot .i64 n1 n0) (shl .i64 1 n2)) (
          nil v0 (
            asP v0 fun b4 b5 =>
            ld Tryd.prog h1 3 b4 (off b5 1) fun v5 =>
            asI .i64 v5 fun n3 =>
            bls Tryd.prog h1 22 1 [(0, (.int .i64 n3))] fun v6 h2 =>
            app Tryd.prog h2 22 22 v1 v6 fun v7 h3 =>
            some (v7, h3))) (
          nil v0 (
            asP v0 fun b6 b7 =>
            ld Tryd.prog h1 97 b6 (off b7 2) fun v8 =>
            lok Tryd.prog h1 97 v8 (.int .i64 n0) false fun v9 =>
            asB v9 fun q0 =>
            ifB q0 (
              some ((.slice none 0 0), h1)) (
              nil v0 (
                asP v0 fun b8 b9 =>
                ld Tryd.prog h1 3 b8 (off b9 1) fun v10 =>
                asI .i64 v10 fun n4 =>
                nn n4 (
                  calls rec h1 76 [(.int .i64 (andNot .i64 (andNot .i64 n1 n0) (shl .i64 1 n4)))] fun v11 h4 =>
                  len v11 fun n5 =>
                  lp k (f82_l1 rec k v0 v1 n0 n1 v11 n5) [(.slice none 0 0), (.int .i64 0)] h4 fun e0 ws1 h10 =>
                  onE e0 0 (
                    nil v0 (
                      asP v0 fun b20 b21 =>
                      ld Tryd.prog h10 97 b20 (off b21 2) fun v21 =>
                      mup Tryd.prog h10 97 v21 (.int .i64 n0) (.bool true) fun h11 =>
                      some ((.slice none 0 0), h11))) (
                    onR e0 (
                      some (gv ws1 0, h10)))))))))))

theorem e82 (rec : Rec) (k : Nat) (v0 : Value) (v1 : Value) (n0 : Int) (h : H) : bodyT Tryd.prog E0 SC (XC Tryd.prog rec k) 82 (Value × H) [.opq v0, .opq v1, .int .i64 n0] h (fun v h => some (v, h)) = f82 rec k v0 v1 n0 h := by kernel_rfl

theorem t82 {k : Nat} {v0 : Value} {v1 : Value} {n0 : Int} {h h1 : H} {v : Value} (hh : f82 rn k v0 v1 n0 h = some (v, h1)) : rn 82 #[v0, v1, .int .i64 n0] h = some (v, trunc Tryd.prog h h1 v) :=
  run_of_bodyT (args := [.opq v0, .opq v1, .int .i64 n0]) rfl ((e82 _ _ _ _ _ _).trans hh)

theorem x82 {k : Nat} {v0 : Value} {v1 : Value} {n0 : Int} {h h1 : H} {v : Value} (hh : f82 rn k v0 v1 n0 h = some (v, h1)) (hp : plainO v = false) : ∃ h2, rn 82 #[v0, v1, .int .i64 n0] h = some (v, h2) ∧ Sm h1 h2 ∧ (Ext h h1 → Exw h h2) := trunc_cell hp (t82 hh)

theorem y82 {k : Nat} {v0 : Value} {v1 : Value} {n0 : Int} {h : H} {v : Value} (hh : f82 rn k v0 v1 n0 h = some (v, h)) : rn 82 #[v0, v1, .int .i64 n0] h = some (v, h) := by rw [t82 hh, trunc_self]

end Go.AM

end
