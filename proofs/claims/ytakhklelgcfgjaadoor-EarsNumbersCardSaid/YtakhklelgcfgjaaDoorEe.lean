/- Edges, cut nodes, and a town without an edge. -/
import Derived.Test.YtakhklelgcfgjaaDoorF4
import Derived.Test.YtakhklelgcfgjaaDoorEd
namespace Go.AM
open Go.Proofs

variable {R : Type}

attribute [local simp] nx_eq nx_new nx_set blk_new blk_set asI_int asK_int asB_bool asP_ptr al_eq bx_eq len_slice onE_exit onE_ret onR_ret Value.cells d3 d22 d23 d32 cell_new cell_set rd_new rd_set off eq lt le ifB gv out ext20 ext21

theorem SlR.blkR {h : H} {e : TypeId} {s : Nat} {v : Value} {L : List (List Value)} (a : SlR h e s v L) {b : Nat} (hb : blkOf v = some b) : b < h.nx ∧ ∃ cs own, h.blk b = some (.row cs e own) := by
  cases a with
  | nil => cases hb
  | at_ hb' hr => cases hb; exact ⟨hb', _, _, hr⟩

/-- The edges of a node to greater ones. -/
def edgeIn (g : List Nat) (a j : Nat) (acc : List (Nat × Nat)) : List (Nat × Nat) := if adj g a (a + 1 + j) = true then acc ++ [(a, a + 1 + j)] else acc
def edgeRow (g : List Nat) (a : Nat) (acc : List (Nat × Nat)) : List (Nat × Nat) := foldI (fun _ j acc => edgeIn g a j acc) (List.range (g.length - 1 - a)) 0 acc
/-- All edges, in order. -/
def edgesP (g : List Nat) : List (Nat × Nat) := foldI (fun _ a acc => edgeRow g a acc) (List.range g.length) 0 []

theorem edgeIn_len (g : List Nat) (a j : Nat) (acc : List (Nat × Nat)) : (edgeIn g a j acc).length ≤ acc.length + 1 := by
  unfold edgeIn
  split <;> simp

theorem edgeRow_len {g : List Nat} {a : Nat} {acc : List (Nat × Nat)} : (edgeRow g a acc).length ≤ acc.length + g.length := by
  have := foldI_len (f := fun (_ : Nat) (j : Nat) acc => edgeIn g a j acc) (fun i x s => edgeIn_len g a x s) (List.range (g.length - 1 - a)) 0 acc
  unfold edgeRow
  rw [List.length_range] at this
  omega

/-- A loop that appends is the same as a filter. -/
theorem foldI_filter {α β : Type} {p : α → Bool} {f : α → β} : ∀ (l : List α) (i : Nat) (s : List β), foldI (fun _ x acc => if p x = true then acc ++ [f x] else acc) l i s = s ++ (l.filter p).map f := by
  intro l
  induction l with
  | nil => intro i s; simp [foldI]
  | cons x l ih =>
    intro i s
    simp only [foldI]
    rw [ih]
    cases hp : p x <;> simp [List.filter_cons, hp]

theorem edgeRow_eq {g : List Nat} {a : Nat} {acc : List (Nat × Nat)} : edgeRow g a acc = acc ++ ((List.range (g.length - 1 - a)).filter fun j => adj g a (a + 1 + j)).map fun j => (a, a + 1 + j) := by
  unfold edgeRow edgeIn
  exact foldI_filter (p := fun j => adj g a (a + 1 + j)) (f := fun j => (a, a + 1 + j)) _ _ _

/-- The numbers of a set that are greater than a. -/
theorem elts_above {g : List Nat} (hg : GrB g) {a : Nat} (ha : a < g.length) : ((elts (nb g a)).filter fun b => decide (a < b)) = ((List.range (g.length - 1 - a)).filter fun j => adj g a (a + 1 + j)).map fun j => a + 1 + j := by
  have hlen := hg.len
  have h1 : elts (nb g a) = (List.range g.length).filter fun i => (nb g a).testBit i := by
    unfold elts
    rw [show 10 = g.length + (10 - g.length) by omega, List.range_add, List.filter_append]
    have : (((List.range (10 - g.length)).map (g.length + ·)).filter fun i => (nb g a).testBit i) = [] := by
      rw [List.filter_eq_nil_iff]
      intro x hx
      obtain ⟨y, _, rfl⟩ := List.mem_map.1 hx
      rw [big_bit (hg.nb_lt a) (by omega)]
      simp
    rw [this, List.append_nil]
  rw [h1, List.filter_filter]
  have h2 : List.range g.length = List.range (a + 1) ++ (List.range (g.length - 1 - a)).map (a + 1 + ·) := by
    rw [← List.range_add]
    congr 1
    omega
  rw [h2, List.filter_append]
  have h3 : ((List.range (a + 1)).filter fun b => decide (a < b) && (nb g a).testBit b) = [] := by
    rw [List.filter_eq_nil_iff]
    intro x hx
    have := List.mem_range.1 hx
    rw [decide_eq_false (by omega)]
    simp
  rw [h3, List.nil_append, List.filter_map]
  congr 1
  refine List.filter_congr fun j hj => ?_
  simp only [Function.comp_apply]
  rw [decide_eq_true (show a < a + 1 + j by omega)]
  rfl

theorem adj_bit {g : List Nat} (hg : GrB g) {a b : Nat} (hb : b ≤ 64) : AM.and .i64 (shr .i64 (nb g a : Int) (b : Int)) 1 = if adj g a b then 1 else 0 := by
  have h1 := hg.nb_lt a
  have h2 := hg.pow
  exact bit_nat (by omega) hb

/-- The document's edges. -/
theorem edge_loopD {tv sv : Value} {g : List Nat} {h0 h : H} {a : Nat} {acc : List (Nat × Nat)} (hg : GrB g) (ha : a < g.length) (x0 : Ext h0 h) (hs : SlR h0 3 1 tv (cellsN g)) (hap : AqR h0.nx h 32 2 sv (cellsP acc)) (hacc : acc.length ≤ 200) (ws0 : List Value) (hw : AM.gv ws0 1 = iv a) :
    ∃ sv' w' h', lpGo (f71_l2 rn 200 tv ws0) 200 [sv, iv ((a : Int) + 1)] h = some (.exit 2, [sv', w'], h') ∧ Ext h0 h' ∧ AqR h0.nx h' 32 2 sv' (cellsP (edgeRow g a acc)) := by
  have hlen := hg.len
  have hn : ∀ {T : Type} (K : Int → Option T), len tv K = K (g.length : Int) := fun K => by rw [hs.len]; simp
  have hwk : ∀ {T : Type} (K : Int → Option T), asK (AM.gv ws0 1) K = K a := fun K => by rw [hw]; rfl
  obtain ⟨ws', h', hl, xg, hll, sv', hap', rfl⟩ := lp_for (F := f71_l2 rn 200 tv ws0) (k := 200) (l := List.range (g.length - 1 - a)) (fun _ j acc => edgeIn g a j acc)
    (fun i acc' ws h' => Ext h0 h' ∧ acc'.length ≤ acc.length + i ∧ ∃ sv, AqR h0.nx h' 32 2 sv (cellsP acc') ∧ ws = [sv, iv ((a + 1 + i : Nat) : Int)]) 2 (ws := [sv, iv ((a : Int) + 1)]) (h := h) (s0 := acc)
    ⟨x0, by omega, sv, hap, by simp⟩ (by simp; omega)
    (by
      rintro acc' ws h' ⟨_, _, sv, _, rfl⟩
      rw [List.length_range, show a + 1 + (g.length - 1 - a) = g.length by omega]
      simp [f71_l2, hn])
    (by
      rintro i x acc' ws h1 hx ⟨x1, hal, sv, hap1, rfl⟩
      obtain ⟨hi, rfl⟩ := range_get hx
      have hb : a + 1 + x < g.length := by omega
      have e1 := fun (K : Value → Option (Ex × List Value × H)) => getN (hs.ext x1) ha K
      have hbit := adj_bit hg (a := a) (b := a + 1 + x) (by omega)
      have hadd : add .i64 ((a + 1 + x : Nat) : Int) 1 = ((a + 1 + (x + 1) : Nat) : Int) := by rw [add64 (by omega) (by omega)]; omega
      have hlt : AM.lt ((a + 1 + x : Nat) : Int) (g.length : Int) = true := by rw [AM.lt, decide_eq_true_iff]; omega
      have start : f71_l2 rn 200 tv ws0 [sv, iv ((a + 1 + x : Nat) : Int)] h1 = if adj g a (a + 1 + x) = true then
          (bld Tryd.prog 32 [(0, iv a), (1, iv ((a + 1 + x : Nat) : Int))] fun v8 => bls Tryd.prog h1 24 1 [(0, v8)] fun v9 h8 => app Tryd.prog h8 24 24 sv v9 fun v10 h9 => AM.out .normal [v10, iv ((a + 1 + (x + 1) : Nat) : Int)] h9) else
          some (.normal, [sv, iv ((a + 1 + (x + 1) : Nat) : Int)], h1) := by
        unfold f71_l2
        rw [show AM.gv [sv, iv ((a + 1 + x : Nat) : Int)] 1 = iv ((a + 1 + x : Nat) : Int) from rfl, show AM.gv [sv, iv ((a + 1 + x : Nat) : Int)] 0 = sv from rfl]
        simp only [hn, asI_int, hlt, ifB_true, hwk, d3, e1, asK_int, nn_ge (show (0 : Int) ≤ ((a + 1 + x : Nat) : Int) by omega), hbit, hadd, hw]
        cases h5 : adj g a (a + 1 + x) with
        | false => simp
        | true => simp
      rw [start]
      by_cases hp : adj g a (a + 1 + x) = true
      · rw [if_pos hp, kbld32]
        obtain ⟨sv', h2, e2, a2, n2, k2, b2, hb2, hb2'⟩ := hap1.push app24 app24 (bls24 (a : Int) ((a + 1 + x : Nat) : Int)) rfl rfl (by rw [List.length_map]; omega) x1.nx
        rw [e2]
        have hpi : edgeIn g a x acc' = acc' ++ [(a, a + 1 + x)] := by unfold edgeIn; rw [if_pos hp]
        refine ⟨_, _, rfl, ⟨by have := x1.nx; omega, fun b hb => ?_⟩, ?_, sv', ?_, rfl⟩
        · rw [k2 b (by have := x1.nx; omega) (fun e => by have := (hap1.blkOf e).1; omega)]
          exact x1.blk b hb
        · rw [hpi]; simp; omega
        · rw [hpi]
          have : cellsP (acc' ++ [(a, a + 1 + x)]) = cellsP acc' ++ [[iv (a : Int), iv ((a + 1 + x : Nat) : Int)]] := by simp
          rw [this]; exact a2
      · rw [if_neg hp]
        have hpi : edgeIn g a x acc' = acc' := by unfold edgeIn; rw [if_neg hp]
        exact ⟨_, _, rfl, x1, by rw [hpi]; omega, sv, by rw [hpi]; exact hap1, rfl⟩)
  exact ⟨sv', _, h', hl, xg, hap'⟩

theorem s71 {v : Value} {g : List Nat} {h : H} (hg : GrB g) (hs : SlR h 3 1 v (cellsN g)) :
    ∃ v' h', rn 71 #[v] h = some (v', h') ∧ Exw h h' ∧ SlR h' 32 2 v' (cellsP (edgesP g)) := by
  have hlen := hg.len
  have hn : ∀ {T : Type} (K : Int → Option T), len v K = K (g.length : Int) := fun K => by rw [hs.len]; simp
  obtain ⟨ws', h', hl, xg, hll, sv', hap', rfl⟩ := lp_for (F := f71_l1 rn 200 v g.length) (k := 200) (l := List.range g.length) (fun _ a acc => edgeRow g a acc)
    (fun i acc' ws h' => Ext h h' ∧ acc'.length ≤ 10 * i ∧ ∃ sv, AqR h.nx h' 32 2 sv (cellsP acc') ∧ ws = [sv, iv i]) 0 (ws := [.slice none 0 0, iv 0]) (h := h) (s0 := [])
    ⟨.refl _, by simp, _, .nil, rfl⟩ (by simp; omega)
    (by
      rintro acc' ws h' ⟨_, _, sv, _, rfl⟩
      rw [List.length_range]
      simp [f71_l1])
    (by
      rintro i x acc' ws h1 hx ⟨x1, hal, sv, hap1, rfl⟩
      obtain ⟨hi, rfl⟩ := range_get hx
      have hadd : add .i64 (x : Int) 1 = (x : Int) + 1 := add64 (by omega) (by omega)
      obtain ⟨sv', w', h2, hl2, x2, hap2⟩ := edge_loopD hg hi x1 hs hap1 (by omega) [sv, iv x] rfl
      have hrl := edgeRow_len (g := g) (a := x) (acc := acc')
      refine ⟨[sv', iv ((x : Int) + 1)], h2, ?_, x2, by omega, sv', hap2, rfl⟩
      have hlq := fun (K : Ex → List Value → H → Option (Ex × List Value × H)) => lp_eq (K := K) hl2
      simp [f71_l1, hi, hadd, hlq])
  obtain ⟨h2, e2, m2, w2⟩ := x71 (k := 200) (v0 := v) (h := h) (h1 := h') (v := sv') (by
    unfold f71
    rw [hn]
    refine (lp_eq hl).trans ?_
    rfl) (by obtain ⟨x, y, z, hz⟩ := hap'.isSl; rw [hz]; rfl)
  exact ⟨sv', h2, e2, w2 xg, hap'.slR.ext m2.ext⟩

/-- The program's edges. -/
theorem edge_loop {nv sv : Value} {g : List Nat} {h0 h : H} {a : Nat} {acc : List (Nat × Nat)} (hg : GrB g) (ha : a < g.length) (x0 : Ext h0 h) (hs : SlR h 3 1 nv (cellsN (elts (nb g a)))) (hap : AqR h0.nx h 32 2 sv (cellsP acc)) (hacc : acc.length ≤ 200) (ws0 : List Value) (hw : AM.gv ws0 1 = iv a) :
    ∃ sv' w' h', lpGo (f77_l2 rn 200 ws0 nv (elts (nb g a)).length) 200 [sv, iv 0] h = some (.exit 2, [sv', w'], h') ∧ Ext h0 h' ∧ AqR h0.nx h' 32 2 sv' (cellsP (edgeRow g a acc)) := by
  have hlen := hg.len
  have hnb : nb g a < 1024 := Nat.lt_of_lt_of_le (hg.nb_lt a) hg.pow
  have hpl : (elts (nb g a)).length ≤ 10 := by rw [elts_len]; exact pop_le_n (Nat.le_refl 10) hnb
  obtain ⟨ws', h', hl, xg, xh, hll, sv', hap', rfl⟩ := lp_for (F := f77_l2 rn 200 ws0 nv (elts (nb g a)).length) (k := 200) (l := elts (nb g a)) (fun _ b acc => if decide (a < b) = true then acc ++ [(a, b)] else acc)
    (fun i acc' ws h' => Ext h0 h' ∧ SlR h' 3 1 nv (cellsN (elts (nb g a))) ∧ acc'.length ≤ acc.length + i ∧ ∃ sv, AqR h0.nx h' 32 2 sv (cellsP acc') ∧ ws = [sv, iv i]) 2 (ws := [sv, iv 0]) (h := h) (s0 := acc)
    ⟨x0, hs, by omega, sv, hap, rfl⟩ (by omega)
    (by
      rintro acc' ws h' ⟨_, _, _, sv, _, rfl⟩
      simp [f77_l2])
    (by
      rintro i b acc' ws h1 hx ⟨x1, hs1, hal, sv, hap1, rfl⟩
      have hi := (List.getElem?_eq_some_iff.1 hx).1
      have hadd : add .i64 (i : Int) 1 = (i : Int) + 1 := add64 (by omega) (by omega)
      have e1 : ∀ (K : Value → Option (Ex × List Value × H)), (six nv (i : Int) 1 fun b o => (h1.cell b o).bind K) = K (iv b) := fun K => hs1.c0 (by omega) (x := [iv b]) (by simp [hx]) rfl K
      have start : f77_l2 rn 200 ws0 nv (elts (nb g a)).length [sv, iv i] h1 = if a < b then
          (bld Tryd.prog 32 [(0, iv a), (1, iv b)] fun v8 => bls Tryd.prog h1 24 1 [(0, v8)] fun v9 h8 => app Tryd.prog h8 24 24 sv v9 fun v10 h9 => AM.out .normal [v10, iv ((i : Int) + 1)] h9) else
          some (.normal, [sv, iv ((i : Int) + 1)], h1) := by
        unfold f77_l2
        rw [show AM.gv [sv, iv i] 1 = iv i from rfl, show AM.gv [sv, iv i] 0 = sv from rfl]
        simp only [asI_int, lt_t (show (i : Int) < (elts (nb g a)).length by omega), ifB_true, asK_int, d3, e1, hw, hadd]
        by_cases h5 : a < b
        · simp [h5]
        · simp [h5]
      rw [start]
      by_cases hp : a < b
      · rw [if_pos hp, kbld32]
        obtain ⟨sv', h2, e2, a2, n2, k2, b2, hb2, hb2'⟩ := hap1.push app24 app24 (bls24 (a : Int) (b : Int)) rfl rfl (by rw [List.length_map]; omega) x1.nx
        rw [e2]
        have hpi : (if decide (a < b) = true then acc' ++ [(a, b)] else acc') = acc' ++ [(a, b)] := by simp [hp]
        have k2' : ∀ q, q < h1.nx → blkOf sv ≠ some q → h2.blk q = h1.blk q := k2
        refine ⟨_, _, rfl, ⟨by have := x1.nx; omega, fun q hq => ?_⟩, ?_, ?_, sv', ?_, rfl⟩
        · rw [k2 q (by have := x1.nx; omega) (fun e => by have := (hap1.blkOf e).1; omega)]
          exact x1.blk q hq
        · refine hs1.keepB n2 fun q hq => k2 q ?_ fun e => ?_
          · exact (hs1.blkR hq).1
          · have h7 := (hap1.blkOf e).2.2
            obtain ⟨_, cs, own, hr⟩ := hs1.blkR hq
            rw [hr] at h7
            simp at h7
        · rw [hpi]; simp; omega
        · rw [hpi]
          have : cellsP (acc' ++ [(a, b)]) = cellsP acc' ++ [[iv (a : Int), iv (b : Int)]] := by simp
          rw [this]; exact a2
      · rw [if_neg hp]
        have hpi : (if decide (a < b) = true then acc' ++ [(a, b)] else acc') = acc' := by simp [hp]
        exact ⟨_, _, rfl, x1, hs1, by rw [hpi]; omega, sv, by rw [hpi]; exact hap1, rfl⟩)
  have he : foldI (fun _ b acc => if decide (a < b) = true then acc ++ [(a, b)] else acc) (elts (nb g a)) 0 acc = edgeRow g a acc := by
    rw [foldI_filter (p := fun b => decide (a < b)) (f := fun b => (a, b)), edgeRow_eq, elts_above hg ha, List.map_map]
    rfl
  rw [he] at hap'
  exact ⟨sv', _, h', hl, xg, hap'⟩

theorem s77 {v : Value} {g : List Nat} {h : H} (hg : GrB g) (hs : SlR h 3 1 v (cellsN g)) :
    ∃ v' h', rn 77 #[v] h = some (v', h') ∧ Exw h h' ∧ AqR h.nx h' 32 2 v' (cellsP (edgesP g)) := by
  have hlen := hg.len
  have hn : ∀ {T : Type} (K : Int → Option T), len v K = K (g.length : Int) := fun K => by rw [hs.len]; simp
  obtain ⟨ws', h', hl, xg, hll, sv', hap', rfl⟩ := lp_for (F := f77_l1 rn 200 v g.length) (k := 200) (l := List.range g.length) (fun _ a acc => edgeRow g a acc)
    (fun i acc' ws h' => Ext h h' ∧ acc'.length ≤ 10 * i ∧ ∃ sv, AqR h.nx h' 32 2 sv (cellsP acc') ∧ ws = [sv, iv i]) 0 (ws := [.slice none 0 0, iv 0]) (h := h) (s0 := [])
    ⟨.refl _, by simp, _, .nil, rfl⟩ (by simp; omega)
    (by
      rintro acc' ws h' ⟨_, _, sv, _, rfl⟩
      rw [List.length_range]
      simp [f77_l1])
    (by
      rintro i x acc' ws h1 hx ⟨x1, hal, sv, hap1, rfl⟩
      obtain ⟨hi, rfl⟩ := range_get hx
      have hadd : add .i64 (x : Int) 1 = (x : Int) + 1 := add64 (by omega) (by omega)
      have e1 := fun (K : Value → Option (Ex × List Value × H)) => getN (hs.ext x1) hi K
      have hnb : nb g x < 1024 := Nat.lt_of_lt_of_le (hg.nb_lt x) hg.pow
      obtain ⟨nv, h2, e76, x2w, hn2⟩ := s76 hnb h1
      have x2 := x2w.toExt
      have c76 := fun (K : Value → H → Option (Ex × List Value × H)) => calls_eq (K := K) (xs := [iv (nb g x : Nat)]) e76
      have hnn : ∀ {T : Type} (K : Int → Option T), len nv K = K ((elts (nb g x)).length : Int) := fun K => by rw [hn2.len]; simp
      obtain ⟨sv', w', h3, hl2, x3, hap2⟩ := edge_loop hg hi (x1.trans x2) hn2 (hap1.ext x2) (by omega) [sv, iv x] rfl
      have hrl := edgeRow_len (g := g) (a := x) (acc := acc')
      refine ⟨[sv', iv ((x : Int) + 1)], h3, ?_, x3, by omega, sv', hap2, rfl⟩
      have hlq := fun (K : Ex → List Value → H → Option (Ex × List Value × H)) => lp_eq (K := K) hl2
      simp [f77_l1, hi, hadd, e1, c76, hnn, hlq])
  obtain ⟨h2, e2, m2, w2⟩ := x77 (k := 200) (v0 := v) (h := h) (h1 := h') (v := sv') (by
    unfold f77
    rw [hn]
    refine (lp_eq hl).trans ?_
    rfl) (by obtain ⟨x, y, z, hz⟩ := hap'.isSl; rw [hz]; rfl)
  exact ⟨sv', h2, e2, w2 xg, hap'.ext m2.ext⟩

end Go.AM
