/- Blocks, the walk of the document's search. -/
import Derived.Test.YtakhklelgcfgjaaDoorEl
namespace Go.AM
open Go.Proofs

variable {R : Type}

attribute [local simp] nx_eq nx_new nx_set blk_new blk_set asI_int asK_int asB_bool asP_ptr al_eq bx_eq len_slice onE_exit onE_ret onR_ret Value.cells d3 d22 d23 d32 d78 w3 w32 cell_new cell_set rd_new rd_set off eq lt le ifB gv out ext20 ext21

theorem any_foldI {l : List Nat} {p : Nat → Bool} : ∀ (i : Nat) (s : Bool), foldI (fun _ b (s : Bool) => s || p b) l i s = (s || l.any p) := by
  induction l with
  | nil => intro i s; simp [foldI]
  | cons b l ih => intro i s; simp only [foldI, List.any_cons]; rw [ih, Bool.or_assoc]

/-- Is a set a part of one that was found? -/
theorem part_loop {sv : Value} {found : List Nat} {S : Nat} {h : H} (hs : SlR h 3 1 sv (cellsN found)) (hf : ∀ b ∈ found, b < 1024) (hS : S < 1024) (hl : found.length < 2 ^ 15) (w : Value) :
    ∃ w', lpGo (f46_l3 rn 200000 [sv, iv S] found.length) 200000 [.bool false, iv 0] h = some (.exit 4, [.bool (found.any fun b => decide (without S b = 0)), w'], h) := by
  have hl := lp_same (σ := Bool) (ρ := Empty) (F := f46_l3 rn 200000 [sv, iv S] found.length) (k := 200000) (l := found) (h := h) (fun i s => [.bool s, iv i])
    (fun _ b s => .inl (s || decide (without S b = 0))) (fun _ _ => True) (fun _ => .ret) (fun _ => []) 4 (fun s => [.bool s, iv found.length]) (ws := [.bool false, iv 0]) (s0 := false) rfl trivial (by omega) (by simp)
    (fun _ _ => by simp [f46_l3])
    (by
      intro i b s hx _
      have hi := (List.getElem?_eq_some_iff.1 hx).1
      have hb := hf b (List.mem_of_getElem? hx)
      refine ⟨fun s' hs' => trivial, ?_⟩
      have e1 : ∀ (K : Value → Option (Ex × List Value × H)), (six sv (i : Int) 1 fun b o => (h.cell b o).bind K) = K (iv b) := fun K => hs.c0 (by omega) (x := [iv b]) (by simp [hx]) rfl K
      have hadd : add .i64 (i : Int) 1 = (i : Int) + 1 := add64 (by omega) (by omega)
      have hcalc : AM.andNot .i64 (S : Int) (b : Int) = ((without S b : Nat) : Int) := andNot_nat (by omega) (by omega)
      have he : AM.eq ((without S b : Nat) : Int) 0 = decide (without S b = 0) := by rw [Bool.eq_iff_iff]; simp
      unfold f46_l3
      simp only [gv, List.getD_cons_succ, List.getD_cons_zero, asI_int, lt_t (show (i : Int) < (found.length : Int) by omega), ifB_true, asK_int, d3, e1, asB_bool, hcalc, he, hadd]
      cases s <;> simp [rnd])
  rw [itL_inl (fun _ b s => s || decide (without S b = 0)), any_foldI] at hl
  exact ⟨_, by simpa using hl.1⟩

set_option maxHeartbeats 1000000 in
/-- The sets of one size. -/
theorem size_loop {tv sv : Value} {g : List Nat} {h0 h : H} {m : Nat} {acc : List Nat} (hg : GrB g) (hm : 2 ≤ m) (hm' : m ≤ 10) (x0 : Ext h0 h) (hs : SlR h0 3 1 tv (cellsN g)) (hap : AqR h0.nx h 3 1 sv (cellsN acc)) (hacc : acc.length ≤ 2 ^ 14) (hlt : ∀ b ∈ acc, b < 1024) (ws0 : List Value) (hw : AM.gv ws0 1 = iv m) :
    ∃ sv' w' h', lpGo (f46_l2 rn 200000 tv ws0 (allN g : Nat)) 200000 [sv, iv 0] h = some (.exit 2, [sv', w'], h') ∧ Ext h0 h' ∧ AqR h0.nx h' 3 1 sv' (cellsN (rowB g m acc)) ∧ (∀ b ∈ rowB g m acc, b < 1024) ∧ (rowB g m acc).length ≤ acc.length + 1024 := by
  have hlen := hg.len
  have hpow := hg.pow
  have hp2 := Nat.two_pow_pos g.length
  have hall : allN g + 1 = 2 ^ g.length := by unfold allN; omega
  have hadd1 : add .i64 (allN g : Int) 1 = ((allN g + 1 : Nat) : Int) := by rw [add64 (by omega) (by omega)]; omega
  obtain ⟨ws', h', hl, xg, hll, hbl, sv', hap', rfl⟩ := lp_for (F := f46_l2 rn 200000 tv ws0 (allN g : Nat)) (k := 200000) (l := List.range (allN g + 1)) (fun _ S acc => stepB g m S acc)
    (fun i acc' ws h' => Ext h0 h' ∧ acc'.length ≤ acc.length + i ∧ (∀ b ∈ acc', b < 1024) ∧ ∃ sv, AqR h0.nx h' 3 1 sv (cellsN acc') ∧ ws = [sv, iv i]) 2 (ws := [sv, iv 0]) (h := h) (s0 := acc)
    ⟨x0, by omega, hlt, sv, hap, rfl⟩ (by simp; omega)
    (by
      rintro acc' ws h' ⟨_, _, _, sv, _, rfl⟩
      simp [f46_l2, hadd1])
    (by
      rintro i S acc' ws h1 hx ⟨x1, hal, hbl, sv, hap1, rfl⟩
      obtain ⟨hi, rfl⟩ := range_get hx
      have hS' : S < 1024 := by omega
      have hsg := hs.ext x1
      have c43 := fun (K : Value → H → Option (Ex × List Value × H)) => calls_eq (K := K) (xs := [iv S]) (s43 hS' h1)
      have c67 := fun (K : Value → H → Option (Ex × List Value × H)) => calls_eq (K := K) (xs := [tv, iv S]) (s67 hg hsg (show S < 2 ^ g.length by omega))
      have c74 := fun (K : Value → H → Option (Ex × List Value × H)) => calls_eq (K := K) (xs := [tv, iv S]) (s74 hg hsg (show S < 2 ^ g.length by omega))
      have hadd : add .i64 (S : Int) 1 = ((S + 1 : Nat) : Int) := by rw [add64 (by omega) (by omega)]; omega
      obtain ⟨w', hpl⟩ := part_loop hap1.slR hbl hS' (by omega) (iv 0)
      have hn1 : ∀ {T : Type} (K : Int → Option T), len sv K = K (acc'.length : Int) := fun K => by rw [hap1.slR.len]; simp
      have hlq := fun (K : Ex → List Value → H → Option (Ex × List Value × H)) => lp_eq (K := K) hpl
      have hlt : AM.lt (S : Int) ((allN g + 1 : Nat) : Int) = true := by rw [AM.lt, decide_eq_true_iff]; omega
      have start : f46_l2 rn 200000 tv ws0 (allN g : Nat) [sv, iv S] h1 = if (decide (pop S = m) && cand2 g S && !(acc'.any fun b => decide (without S b = 0))) = true then
          (bls Tryd.prog h1 22 1 [(0, iv S)] fun v6 h9 => app Tryd.prog h9 22 22 sv v6 fun v7 h10 => some (.normal, [v7, iv ((S + 1 : Nat) : Int)], h10)) else
          some (.normal, [sv, iv ((S + 1 : Nat) : Int)], h1) := by
        unfold f46_l2 cand2
        simp only [gv, List.getD_cons_succ, List.getD_cons_zero, asI_int, hadd1, hlt, ifB_true, c43, hadd]
        rw [show ws0.getD 1 undef = iv m from hw, asI_int]
        by_cases h1 : pop S = m
        · rw [h1, show AM.eq (m : Int) (m : Int) = true by simp, show (!true) = false from rfl, ifB_false, c67, asB_bool, decide_eq_true (show S ≠ 0 by rintro rfl; rw [show pop 0 = 0 by decide] at h1; omega), decide_eq_true (show 1 < m by omega), decide_eq_true (rfl : m = m)]
          cases h3 : connS g S with
          | false => simp
          | true =>
            simp only [Bool.and_true, Bool.true_and, Bool.not_true, ifB_false, c74, asI_int]
            by_cases h4 : cutsP g S = 0
            · rw [h4, show AM.eq ((0 : Nat) : Int) 0 = true from rfl, show (!true) = false from rfl, ifB_false, hn1, hlq]
              simp only [onE_exit, if_true, gv, List.getD_cons_zero, asB_bool, decide_true, Bool.true_and]
              cases acc'.any fun b => decide (without S b = 0) <;> simp
            · rw [show AM.eq (cutsP g S : Int) 0 = false by simp; omega]
              simp [h4]
        · rw [show AM.eq (pop S : Int) (m : Int) = false by simp; omega]
          simp [h1]
      rw [start]
      unfold stepB
      by_cases hp : (decide (pop S = m) && cand2 g S && !(acc'.any fun b => decide (without S b = 0))) = true
      · rw [if_pos hp, if_pos hp]
        obtain ⟨sv', h2, e2, a2, n2, k2, b2, hb2, hb2'⟩ := hap1.push app22 app22 (bls22 (S : Int)) rfl rfl (by rw [List.length_map]; omega) x1.nx
        rw [e2]
        refine ⟨_, _, rfl, ⟨by have := x1.nx; omega, fun b hb => ?_⟩, by simp; omega, fun b hb => ?_, sv', ?_, rfl⟩
        · rw [k2 b (by have := x1.nx; omega) (fun e => by have := (hap1.blkOf e).1; omega)]
          exact x1.blk b hb
        · rcases List.mem_append.1 hb with hb | hb
          · exact hbl b hb
          · rw [List.mem_singleton] at hb; rw [hb]; exact hS'
        · have : cellsN (acc' ++ [S]) = cellsN acc' ++ [[iv (S : Int)]] := by simp
          rw [this]; exact a2
      · rw [if_neg hp, if_neg hp]
        exact ⟨_, _, rfl, x1, by omega, hbl, sv, hap1, rfl⟩)
  rw [List.length_range] at hll
  exact ⟨sv', _, h', hl, xg, hap', hbl, by unfold rowB; omega⟩

set_option maxHeartbeats 1000000 in
theorem s46 {tv : Value} {g : List Nat} {h : H} (hg : GrN g) (hs : SlR h 3 1 tv (cellsN g)) :
    ∃ v' h', rn 46 #[tv] h = some (v', h') ∧ Exw h h' ∧ SlR h' 3 1 v' (cellsN (blocksP g)) := by
  have hlen := hg.len
  have hpos := hg.pos
  have hpow := hg.pow
  have hp2 := Nat.two_pow_pos g.length
  have hall : allN g + 1 = 2 ^ g.length := by unfold allN; omega
  have hn : ∀ {T : Type} (K : Int → Option T), len tv K = K (g.length : Int) := fun K => by rw [hs.len]; simp
  -- sets, the greatest first
  obtain ⟨ws1, h1, hl1, x1, hll, hbl, sv1, hap1, rfl⟩ := lp_for (F := f46_l1 rn 200000 tv) (k := 200000) (l := List.range (g.length - 1)) (fun _ i acc => rowB g (g.length - i) acc)
    (fun i acc' ws h' => Ext h h' ∧ acc'.length ≤ 1024 * i ∧ (∀ b ∈ acc', b < 1024) ∧ ∃ sv, AqR h.nx h' 3 1 sv (cellsN acc') ∧ ws = [sv, iv ((g.length : Int) - i)]) 0 (ws := [.slice none 0 0, iv g.length]) (h := h) (s0 := [])
    ⟨.refl _, by simp, by simp, _, .nil, by simp⟩ (by simp; omega)
    (by
      rintro acc' ws h' ⟨_, _, _, sv, _, rfl⟩
      rw [List.length_range, show ((g.length : Int) - ((g.length - 1 : Nat) : Int)) = 1 by omega]
      simp [f46_l1])
    (by
      rintro i x acc' ws h1 hx ⟨x1, hal, hbl, sv, hap1, rfl⟩
      obtain ⟨hi, rfl⟩ := range_get hx
      have c68 := fun (K : Value → H → Option (Ex × List Value × H)) => calls_eq (K := K) (xs := [tv]) (s68 hg.toGrB (hs.ext x1))
      rw [show ((g.length : Int) - (x : Int)) = ((g.length - x : Nat) : Int) by omega]
      obtain ⟨sv', w', h2, hl2, x2, hap2, hb2, hl3⟩ := size_loop hg.toGrB (m := g.length - x) (by omega) (by omega) x1 hs hap1 (by omega) hbl [sv, iv (g.length - x : Nat)] rfl
      have hlq := fun (K : Ex → List Value → H → Option (Ex × List Value × H)) => lp_eq (K := K) hl2
      have hsub : sub .i64 ((g.length - x : Nat) : Int) 1 = (g.length : Int) - ((x + 1 : Nat) : Int) := by rw [sub64 (by omega) (by omega)]; omega
      refine ⟨[sv', iv ((g.length : Int) - ((x + 1 : Nat) : Int))], h2, ?_, x2, by omega, hb2, sv', hap2, rfl⟩
      unfold f46_l1
      simp only [gv, List.getD_cons_succ, List.getD_cons_zero, asI_int]
      rw [show AM.le 2 ((g.length - x : Nat) : Int) = true by simp; omega, ifB_true, c68, asI_int]
      refine (hlq _).trans ?_
      simp only [onE_exit, if_true, gv, List.getD_cons_zero, hsub]
      rfl)
  have hfb : foldI (fun _ i acc => rowB g (g.length - i) acc) (List.range (g.length - 1)) 0 [] = foundB g := rfl
  rw [hfb] at hap1 hbl hll
  rw [List.length_range] at hll
  -- lone nodes
  obtain ⟨sv2, h2, hl2, x2, hap2⟩ := lp_filter (F := f46_l4 rn 200000 tv g.length) (k := 200000) (l := List.range g.length) (h0 := h) (fun v => decide (nb g v = 0)) (2 ^ ·) (fun i => iv (i : Int)) 6 (by simp; omega)
    (by intro sv g' xg; simp [f46_l4])
    (by
      intro i v sv g' hx xg
      obtain ⟨hi, rfl⟩ := range_get hx
      have e2 := fun (K : Value → Option (Ex × List Value × H)) => getN (hs.ext xg) hi K
      have hadd : add .i64 (v : Int) 1 = ((v + 1 : Nat) : Int) := by rw [add64 (by omega) (by omega)]; omega
      refine ⟨g', .refl _, ?_⟩
      unfold f46_l4
      simp only [gv, List.getD_cons_succ, List.getD_cons_zero, asI_int, lt_t (show (v : Int) < (g.length : Int) by omega), ifB_true, asK_int, d3, e2, nn_ge (show (0 : Int) ≤ (v : Int) by omega), hadd, shl1_nat (show v < 63 by omega)]
      by_cases h0 : nb g v = 0
      · rw [h0]; simp
      · rw [show AM.eq (nb g v : Int) 0 = false by simp; omega]
        simp [h0])
    (acc := foundB g) (sv := sv1) (h := h1) x1 hap1 (by simp; omega)
  have hfa : foundB g ++ ((List.range g.length).filter fun v => decide (nb g v = 0)).map (2 ^ ·) = foundAll g := rfl
  rw [hfa] at hap2
  have hs2 := hap2.slR
  have hfal : (foundAll g).length ≤ 2 ^ 14 := by
    unfold foundAll
    rw [List.length_append, List.length_map]
    have := List.length_filter_le (fun v => decide (nb g v = 0)) (List.range g.length)
    rw [List.length_range] at this
    omega
  have hn2 : ∀ {T : Type} (K : Int → Option T), len sv2 K = K ((foundAll g).length : Int) := fun K => by rw [hs2.len]; simp
  -- in order
  obtain ⟨ws3, h3, hl3, x3, hll3, sv3, hap3, rfl⟩ := lp_for (F := f46_l5 rn 200000 [sv2, iv (List.range g.length).length] (allN g : Nat)) (k := 200000) (l := List.range (allN g + 1)) (fun _ S acc => acc ++ (foundAll g).filter (· == S))
    (fun i acc' ws h' => Ext h2 h' ∧ acc'.length ≤ 2 ^ 14 * i ∧ ∃ sv, AqR h2.nx h' 3 1 sv (cellsN acc') ∧ ws = [sv, iv i]) 8 (ws := [.slice none 0 0, iv 0]) (h := h2) (s0 := [])
    ⟨.refl _, by simp, _, .nil, rfl⟩ (by simp; omega)
    (by
      rintro acc' ws h' ⟨_, _, sv, _, rfl⟩
      have hadd1 : add .i64 (allN g : Int) 1 = ((allN g + 1 : Nat) : Int) := by rw [add64 (by omega) (by omega)]; omega
      simp [f46_l5, hadd1])
    (by
      rintro i S acc' ws h4 hx ⟨x4, hal, sv, hap4, rfl⟩
      obtain ⟨hi, rfl⟩ := range_get hx
      have hadd1 : add .i64 (allN g : Int) 1 = ((allN g + 1 : Nat) : Int) := by rw [add64 (by omega) (by omega)]; omega
      have hadd : add .i64 (S : Int) 1 = ((S + 1 : Nat) : Int) := by rw [add64 (by omega) (by omega)]; omega
      have hlt : AM.lt (S : Int) ((allN g + 1 : Nat) : Int) = true := by rw [AM.lt, decide_eq_true_iff]; omega
      obtain ⟨sv5, h5, hl5, x5, hap5⟩ := lp_filter (F := f46_l6 rn 200000 [sv2, iv (List.range g.length).length] [sv, iv S] (foundAll g).length) (k := 200000) (l := foundAll g) (h0 := h2) (fun b => b == S) id (fun i => iv (i : Int)) 10 (by omega)
        (by intro sv g' xg; simp [f46_l6])
        (by
          intro i b sv' g' hx xg
          have hi := (List.getElem?_eq_some_iff.1 hx).1
          have hsg := hs2.ext xg
          have e1 : ∀ (K : Value → Option (Ex × List Value × H)), (six sv2 (i : Int) 1 fun b o => (g'.cell b o).bind K) = K (iv b) := fun K => hsg.c0 (by omega) (x := [iv b]) (by simp [hx]) rfl K
          have hadd : add .i64 (i : Int) 1 = ((i + 1 : Nat) : Int) := by rw [add64 (by omega) (by omega)]; omega
          refine ⟨g', .refl _, ?_⟩
          unfold f46_l6
          simp only [gv, List.getD_cons_succ, List.getD_cons_zero, asI_int, lt_t (show (i : Int) < ((foundAll g).length : Int) by omega), ifB_true, asK_int, d3, e1, hadd, id_eq]
          by_cases h0 : b = S
          · subst h0; simp
          · rw [show AM.eq (b : Int) (S : Int) = false by simp; omega]
            simp [h0])
        (acc := acc') (sv := sv) (h := h4) x4 hap4 (by omega)
      rw [List.map_id_fun, id_eq] at hap5
      have hlq := fun (K : Ex → List Value → H → Option (Ex × List Value × H)) => lp_eq (K := K) hl5
      have hfl := List.length_filter_le (· == S) (foundAll g)
      refine ⟨[sv5, iv ((S + 1 : Nat) : Int)], h5, ?_, x5, by rw [List.length_append]; omega, sv5, hap5, rfl⟩
      unfold f46_l5
      simp only [gv, List.getD_cons_succ, List.getD_cons_zero, asI_int, hadd1, hlt, ifB_true, hn2]
      refine (hlq _).trans ?_
      simp only [onE_exit, if_true, gv, List.getD_cons_zero, hadd]
      rfl)
  have hfin : foldI (fun _ S acc => acc ++ (foundAll g).filter (· == S)) (List.range (allN g + 1)) 0 [] = blocksP g := by
    rw [← blocks_doc hg, foldI_foldl (fun S acc => acc ++ (foundAll g).filter (· == S))]
    have : ∀ (L acc : List Nat), L.foldl (fun s x => s ++ (foundAll g).filter (· == x)) acc = acc ++ L.flatMap (fun S => (foundAll g).filter (· == S)) := by
      intro L
      induction L with
      | nil => intro acc; simp
      | cons S L ih => intro acc; rw [List.foldl_cons, ih, List.flatMap_cons, List.append_assoc]
    exact this _ []
  rw [hfin] at hap3
  have c68 := fun (K : Value → H → Option (Value × H)) => calls_eq (K := K) (xs := [tv]) (s68 hg.toGrB (hs.ext x2))
  obtain ⟨h6, e6, m6, w6⟩ := x46 (k := 200000) (v0 := tv) (h := h) (h1 := h3) (v := sv3) (by
    unfold f46
    rw [hn]
    refine (lp_eq hl1).trans ?_
    rw [onE_exit, if_pos rfl, hn]
    refine (lp_eq hl2).trans ?_
    rw [onE_exit, if_pos rfl, c68, asI_int]
    refine (lp_eq hl3).trans ?_
    rfl) hap3.slR.notR
  exact ⟨sv3, h6, e6, w6 (x2.trans x3), hap3.slR.ext m6.ext⟩

theorem s44 {v : Value} {g : List Nat} {h : H} (hg : GrN g) (hval : validG (g.map Int.ofNat) = true) (hs : SlR h 3 1 v (cellsN g)) :
    ∃ v' h', rn 44 #[v] h = some (.tuple #[v', iv 0], h') ∧ Exw h h' ∧ SlR h' 3 1 v' (cellsN (blocksP g)) := by
  have c63 := fun (K : Value → H → Option (Value × H)) => calls_eq (K := K) (xs := [v]) (s63 (l := g.map Int.ofNat) (h := h) (by rw [cellsN_eq]; exact hs))
  rw [if_pos hval] at c63
  obtain ⟨v', h1, e90, x1, hs1⟩ := s90 hg.toGrB hs
  have c90 := fun (K : Value → H → Option (Value × H)) => calls_eq (K := K) (xs := [v]) e90
  obtain ⟨h2, e2, m2, w2⟩ := x44 (k := 0) (v0 := v) (h := h) (h1 := h1) (v := .tuple #[v', iv 0]) (by
    simp [f44, c63, c90]) hs1.notR2
  exact ⟨v', h2, e2, w2 x1.toExt, hs1.ext m2.ext⟩

theorem s44_bad {v : Value} {l : List Int} {h : H} (hval : validG l = false) (hs : SlR h 3 1 v (cellsI l)) : rn 44 #[v] h = some (.tuple #[.slice none 0 0, iv 2], h) := by
  have c63 := fun (K : Value → H → Option (Value × H)) => calls_eq (K := K) (xs := [v]) (s63 hs)
  rw [hval] at c63
  refine y44 (k := 0) ?_
  simp [f44, c63]

end Go.AM
