/- Parts of the proof, put together: what the functions of the program answer, and plain laws. -/
import Derived.Test.YtphchobmencipaaDoorAmRun
import Derived.Test.YtphchobmencipaaDoorRows
import Derived.LaidMore
import Derived.Stop.Joined
import Derived.ProofKit
import Derived.OpenShut
import Derived.Test.YtphchobmencipaaDoorBk1

section

/- Law 3: the width of a graph is the greatest width of one of its blocks. -/
namespace Go.AM
open Go.Proofs
variable {k : Nat} {R : Type}
attribute [local simp] nx_eq nx_new nx_set blk_new blk_set asI_int asK_int asB_bool asP_ptr al_eq bx_eq len_slice onE_exit onE_ret onR_ret Value.cells d3 d22 d23 cell_new cell_set rd_new rd_set off eq lt le ifB gv out
theorem bls23 (z : Int) (h : H) : buildSlice Tryd.prog 23 1 [(0, .int .i64 z)] h = some (.slice (some ⟨h.nx, 0, none⟩) 1 1, h.new (.row [iv z] 3 true)) := by kernel_rfl

/-- A graph is valid. -/
theorem valid_of {g : List Nat} (hg : GrN g) : validG (g.map Int.ofNat) = true := by
  have hlen := hg.len
  have hpos := hg.pos
  have hpow := hg.pow
  rw [validG_iff (by simpa using ⟨hpos, hlen⟩)]
  intro i x hx
  have hi : i < g.length := by have := (List.getElem?_eq_some_iff.1 hx).1; simpa using this
  obtain rfl := nb_eq hx
  have hlt := hg.nb_lt i
  unfold rowOk
  simp only [Bool.and_eq_true, Bool.not_eq_true', decide_eq_false_iff_not, List.all_eq_true, List.mem_range, decide_eq_true_iff, List.length_map]
  refine ⟨⟨⟨by omega, ?_⟩, ?_⟩, fun j hj => ?_⟩
  · rw [shl1_nat (by omega)]; omega
  · rw [bitI_nat (by omega) (by omega)]
    have : (nb g i).testBit i = false := hg.irr i
    rw [this]; simp
  · have h1 : (List.map Int.ofNat g).getD j 0 = ((nb g j : Nat) : Int) := by
      rw [List.getD_eq_getElem?_getD, nb_get hj]; rfl
    have hlt' := hg.nb_lt j
    rw [h1, bitI_nat (by omega) (by omega), bitI_nat (by omega) (by omega)]
    have : (nb g i).testBit j = (nb g j).testBit i := hg.sym i j
    rw [this]

theorem s11 {v : Value} {l : List Int} {h : H} (hs : SlR h 3 1 v (cellsI l)) : ∃ v' h', rn 11 #[v] h = some (v', h') ∧ Exw h h' ∧ SlR h' 3 1 v' (cellsI (l.take 13)) := by
  have e1 : imin ((cellsI l).length : Int) 13 = ((min l.length 13 : Nat) : Int) := by
    rw [List.length_map]
    unfold imin
    split <;> omega
  obtain ⟨v1, s1, e2⟩ := hs.take (i := ((min l.length 13 : Nat) : Int)) under23 sz3 (by omega) (by rw [List.length_map]; omega)
  have e3 : (cellsI l).take ((min l.length 13 : Nat) : Int).toNat = cellsI (l.take 13) := by
    rw [Int.toNat_natCast, ← List.map_take]
    congr 1
    rcases Nat.le_total l.length 13 with h1 | h1
    · rw [Nat.min_eq_left h1, List.take_of_length_le (Nat.le_refl _), List.take_of_length_le h1]
    · rw [Nat.min_eq_right h1]
  rw [e3] at s1
  obtain ⟨v', h', e4, x, s, a, n, c, rfl⟩ := s38 s1 (by rw [List.length_map, List.length_take]; omega)
  obtain ⟨h2, e5, m2, w2⟩ := x11 (k := 0) (h := h) (v0 := v) (h1 := h') (v := .slice a n c) (by
    unfold f11
    rw [hs.len, e1, e2, calls_eq e4]) rfl
  exact ⟨_, h2, e5, w2 x.toExt, s.ext m2.ext⟩

theorem s11g {v : Value} {g : List Nat} {h : H} (hg : GrB g) (hs : SlR h 3 1 v (cellsN g)) : ∃ v' h', rn 11 #[v] h = some (v', h') ∧ Exw h h' ∧ SlR h' 3 1 v' (cellsN g) := by
  have hlen := hg.len
  obtain ⟨v', h', e, x, s⟩ := s11 (l := g.map Int.ofNat) (by rw [cellsN_eq]; exact hs)
  refine ⟨v', h', e, x, ?_⟩
  rw [List.take_of_length_le (by simp; omega), cellsN_eq] at s
  exact s

/-! ### The graph of some nodes -/
def cntB (S i : Nat) : Nat := ((List.range i).filter fun u => S.testBit u).length

theorem cntB_succ (S i : Nat) : cntB S (i + 1) = cntB S i + if S.testBit i = true then 1 else 0 := by
  unfold cntB
  rw [List.range_succ, List.filter_append, List.length_append]
  congr 1
  by_cases h : S.testBit i = true <;> simp [h]

theorem elts_pre {S n i : Nat} (hn : n ≤ 10) (hS : S < 2 ^ n) (hi : i < n) : elts S = ((List.range i).filter fun u => S.testBit u) ++ ((List.range' i (n - i)).filter fun u => S.testBit u) := by
  rw [elts_n hn hS, ← List.filter_append]
  congr 1
  rw [List.range_eq_range', List.range_eq_range']
  have := List.range'_append (s := 0) (m := i) (n := n - i) (step := 1)
  simp only [Nat.zero_add, Nat.one_mul] at this
  rw [this]
  congr 1
  omega

theorem eAt_cnt {S n i : Nat} (hn : n ≤ 10) (hS : S < 2 ^ n) (hi : i < n) (hb : S.testBit i = true) : eAt S (cntB S i) = i := by
  unfold eAt cntB
  rw [elts_pre hn hS hi, List.getD_eq_getElem?_getD, List.getElem?_append_right (Nat.le_refl _), Nat.sub_self]
  obtain ⟨m, hm⟩ : ∃ m, n - i = m + 1 := ⟨n - i - 1, by omega⟩
  rw [hm, List.range'_succ, List.filter_cons_of_pos hb]
  rfl

theorem cntB_all {S n : Nat} (hn : n ≤ 10) (hS : S < 2 ^ n) : cntB S n = pop S := by
  rw [← elts_len, elts_n hn hS]; rfl

theorem cntB_le (S i : Nat) : cntB S i ≤ i := by
  unfold cntB
  have := List.length_filter_le (fun u => S.testBit u) (List.range i)
  rwa [List.length_range] at this

theorem s13 {v : Value} {g : List Nat} {S : Nat} {h : H} (hg : GrB g) (hS : S < 2 ^ g.length) (hs : SlR h 3 1 v (cellsN g)) :
    ∃ v' h', rn 13 #[v, iv S] h = some (v', h') ∧ Exw h h' ∧ SlR h' 3 1 v' (cellsN (withinP g S)) := by
  have hlen := hg.len
  have hpow := hg.pow
  have hn : ∀ {T : Type} (K : Int → Option T), len v K = K (g.length : Int) := fun K => by rw [hs.len]; simp
  let F : Nat → Nat := fun u => mkS (fun k => adj g u (eAt S k)) (pop S)
  -- the row of a node
  have inner : ∀ (u : Nat), u < g.length → ∀ g' : H, ∃ w, lpGo (f13_l2 rn 2000 S (nb g u) g.length) 2000 [iv 0, iv 0, iv 0] g' = some (.exit 2, [iv (F u), w, iv g.length], g') := by
    intro u hu g'
    have hnu := hg.nb_lt u
    obtain ⟨e, ws', h', hl, rfl, rfl, w, rfl⟩ := lp_range (F := f13_l2 rn 2000 S (nb g u) g.length) (k := 2000) (n := g.length)
      (fun i ws g2 => g2 = g' ∧ ws = [iv (mkS (fun k => adj g u (eAt S k)) (cntB S i) : Nat), iv (cntB S i : Nat), iv i])
      (fun e ws g2 => e = .exit 2 ∧ g2 = g' ∧ ∃ w, ws = [iv (F u), w, iv g.length])
      (by
        rintro i ws g2 hi ⟨rfl, rfl⟩
        have hadd : add .i64 (i : Int) 1 = ((i + 1 : Nat) : Int) := by rw [add64 (by omega) (by omega)]; omega
        have hb1 : AM.and .i64 (shr .i64 (S : Int) (i : Int)) 1 = if S.testBit i then 1 else 0 := bit_nat (by omega) (by omega)
        have hb2 : AM.and .i64 (shr .i64 ((nb g u : Nat) : Int) (i : Int)) 1 = if (nb g u).testBit i then 1 else 0 := bit_nat (by omega) (by omega)
        have hc := cntB_le S i
        have hadd2 : add .i64 ((cntB S i : Nat) : Int) 1 = ((cntB S i + 1 : Nat) : Int) := by rw [add64 (by omega) (by omega)]; omega
        have hsh : AM.shl .i64 (if (nb g u).testBit i then 1 else 0) ((cntB S i : Nat) : Int) = ((if (nb g u).testBit i = true then 2 ^ cntB S i else 0 : Nat) : Int) := by
          have hp : 2 ^ cntB S i < 2 ^ 63 := Nat.pow_lt_pow_right (by omega) (by omega)
          by_cases hq : (nb g u).testBit i = true
          · rw [if_pos hq, if_pos hq, shl1_nat (by omega)]
          · rw [if_neg hq, if_neg hq]
            have := shl_nat (a := 0) (p := cntB S i) (by omega) (by omega)
            simpa using this
        refine ⟨.normal, _, g2, ?_, .inl ⟨rfl, rfl, rfl⟩⟩
        unfold f13_l2
        rw [show gv [iv (mkS (fun k => adj g u (eAt S k)) (cntB S i) : Nat), iv (cntB S i : Nat), iv i] 2 = iv i from rfl, asI_int, lt_t (by omega), ifB_true, asK_int, nn_ge (by omega), hb1]
        by_cases hb : S.testBit i = true
        · have hx : mkS (fun k => adj g u (eAt S k)) (cntB S i) < 1024 := Nat.lt_of_lt_of_le (mkS_lt _ _) (show 2 ^ cntB S i ≤ 2 ^ 10 from Nat.pow_le_pow_right (by omega) (by omega))
          have hy : (if (nb g u).testBit i = true then 2 ^ cntB S i else 0 : Nat) < 1024 := by
            have : 2 ^ cntB S i < 2 ^ 10 := Nat.pow_lt_pow_right (by omega) (by omega)
            split <;> omega
          have hor : AM.or .i64 ((mkS (fun k => adj g u (eAt S k)) (cntB S i) : Nat) : Int) ((if (nb g u).testBit i = true then 2 ^ cntB S i else 0 : Nat) : Int) = ((mkS (fun k => adj g u (eAt S k)) (cntB S (i + 1)) : Nat) : Int) := by
            rw [or_nat (by omega) (by omega), cntB_succ, if_pos hb]
            simp only [mkS]
            have : adj g u (eAt S (cntB S i)) = (nb g u).testBit i := by rw [eAt_cnt hlen hS hi hb]; rfl
            simp only [this]
          rw [if_pos hb, show AM.eq 1 1 = true from rfl, ifB_true, asK_int, nn_ge (by omega), show gv [iv (mkS (fun k => adj g u (eAt S k)) (cntB S i) : Nat), iv (cntB S i : Nat), iv i] 1 = iv (cntB S i : Nat) from rfl, asK_int, nn_ge (by omega), show gv [iv (mkS (fun k => adj g u (eAt S k)) (cntB S i) : Nat), iv (cntB S i : Nat), iv i] 0 = iv (mkS (fun k => adj g u (eAt S k)) (cntB S i) : Nat) from rfl, asI_int, asI_int, hb2, hsh, hor, asI_int, hadd, hadd2, cntB_succ, if_pos hb]
          rfl
        · rw [if_neg hb, show AM.eq 0 1 = false from rfl, ifB_false, asI_int, hadd, cntB_succ, if_neg hb]
          rfl)
      (by
        rintro ws g2 ⟨rfl, rfl⟩
        refine ⟨.exit 2, _, g2, ?_, by simp, rfl, rfl, iv (cntB S g.length : Nat), rfl⟩
        unfold f13_l2
        rw [show gv [iv (mkS (fun k => adj g u (eAt S k)) (cntB S g.length) : Nat), iv (cntB S g.length : Nat), iv (g.length : Nat)] 2 = iv g.length from rfl, asI_int, lt_f (by omega), ifB_false, cntB_all hlen hS]
        rfl) (ws := [iv 0, iv 0, iv 0]) (h := g') (by omega) ⟨rfl, rfl⟩
    exact ⟨w, hl⟩
  obtain ⟨e, ws', h', hl, rfl, xg, v', hap, w, rfl⟩ := lp_range (F := f13_l1 rn 2000 v S g.length) (k := 2000) (n := g.length)
    (fun i ws g' => Ext h g' ∧ ∃ v', ws = [v', iv i] ∧ AqR h.nx g' 3 1 v' (cellsN (((List.range i).filter fun u => S.testBit u).map F)))
    (fun e ws g' => e = .exit 0 ∧ Ext h g' ∧ ∃ v', AqR h.nx g' 3 1 v' (cellsN (withinP g S)) ∧ ∃ w, ws = [v', w])
    (by
      rintro i ws g' hi ⟨xg, v', rfl, hap⟩
      have hadd : add .i64 (i : Int) 1 = ((i + 1 : Nat) : Int) := by rw [add64 (by omega) (by omega)]; omega
      have hb1 : AM.and .i64 (shr .i64 (S : Int) (i : Int)) 1 = if S.testBit i then 1 else 0 := bit_nat (by omega) (by omega)
      have e1 := fun (K : Value → Option (Ex × List Value × H)) => getN (hs.ext xg) hi K
      by_cases hb : S.testBit i = true
      · obtain ⟨w, hw⟩ := inner i hi g'
        have hcl := cntB_le S i
        obtain ⟨v2, g2, e2, a2, n2, k2, b2, hb2, hb2'⟩ := hap.push app23 app23 (bls23 (F i : Int)) rfl rfl (by simp only [List.length_map]; unfold cntB at hcl; omega) xg.nx
        have ee : ∀ (K : Value → H → Option (Ex × List Value × H)), (bls Tryd.prog g' 23 1 [(0, iv (F i : Nat))] fun y h2 => app Tryd.prog h2 23 23 v' y K) = K v2 g2 := fun K => e2 K
        refine ⟨.normal, [v2, iv ((i + 1 : Nat) : Int)], g2, ?_, .inl ⟨rfl, ⟨by have := xg.nx; omega, fun b hb => ?_⟩, v2, rfl, ?_⟩⟩
        · unfold f13_l1
          simp only [d3]
          rw [show gv [v', iv (i : Int)] 1 = iv i from rfl, asI_int, lt_t (by omega), ifB_true, asK_int, e1, asI_int, asK_int, nn_ge (by omega), hb1, if_pos hb, show AM.eq 1 0 = false from rfl, ifB_false, hn, lp_eq hw, onE_exit, if_pos rfl]
          rw [show gv [iv ((F i : Nat) : Int), w, iv (g.length : Int)] 0 = iv (F i : Nat) from rfl, show gv [v', iv (i : Int)] 0 = v' from rfl, ee, asI_int, hadd]
          rfl
        · rw [k2 b (by have := xg.nx; omega) (fun e => by have := (hap.blkOf e).1; omega)]
          exact xg.blk b hb
        · have : cellsN (((List.range (i + 1)).filter fun u => S.testBit u).map F) = cellsN (((List.range i).filter fun u => S.testBit u).map F) ++ [[iv (F i : Int)]] := by
            rw [List.range_succ, List.filter_append]
            simp [hb]
          rw [this]; exact a2
      · refine ⟨.normal, [v', iv ((i + 1 : Nat) : Int)], g', ?_, .inl ⟨rfl, xg, v', rfl, ?_⟩⟩
        · unfold f13_l1
          simp only [d3]
          rw [show gv [v', iv (i : Int)] 1 = iv i from rfl, asI_int, lt_t (by omega), ifB_true, asK_int, e1, asI_int, asK_int, nn_ge (by omega), hb1, if_neg hb, show AM.eq 0 0 = true from rfl, ifB_true, asI_int, hadd]
          rfl
        · have : ((List.range (i + 1)).filter fun u => S.testBit u) = (List.range i).filter fun u => S.testBit u := by
            rw [List.range_succ, List.filter_append]
            simp [hb]
          rw [this]; exact hap)
    (by
      rintro ws g' ⟨xg, v', rfl, hap⟩
      refine ⟨.exit 0, _, g', ?_, by simp, rfl, xg, v', ?_, iv g.length, rfl⟩
      · unfold f13_l1
        rw [show gv [v', iv (g.length : Int)] 1 = iv g.length from rfl, asI_int, lt_f (by omega), ifB_false]
        rfl
      · rw [← elts_n hlen hS] at hap
        exact hap)
    (ws := [.slice none 0 0, iv 0]) (h := h) (by omega) ⟨.refl _, .slice none 0 0, rfl, .nil⟩
  obtain ⟨h2, e2, m2, w2⟩ := x13 (k := 2000) (v0 := v) (n0 := S) (h := h) (h1 := h') (v := v') (by
    unfold f13
    rw [hn, lp_eq hl, onE_exit, if_pos rfl]
    rfl) (by obtain ⟨x, y, z, hz⟩ := hap.isSl; rw [hz]; rfl)
  exact ⟨v', h2, e2, w2 xg, hap.slR.ext m2.ext⟩

/-- The law. -/
theorem s3 (s9 : ∀ h, rn 9 #[] h = some (.bool true, h)) {h : H} {v : Value} {l : List Int} (hs : SlR h 3 1 v (cellsI l)) : ∃ h', rn 3 #[v] h = some (.bool true, h') := by
  have c9 := fun (g : H) (K : Value → H → Option (Value × H)) => calls_eq (K := K) (xs := []) (s9 g)
  have c8 := fun (K : Value → H → Option (Value × H)) => calls_eq (K := K) (xs := [v]) (s8 hs)
  have hn : ∀ {T : Type} (K : Int → Option T), len v K = K (l.length : Int) := fun K => by rw [hs.len]; simp
  by_cases hval : validG l = true
  · obtain ⟨g, rfl, hg⟩ := valid_nat hval
    have hlen := hg.len
    have hpow := hg.pow
    by_cases h9 : g.length ≤ 9
    · rw [cellsN_eq] at hs
      obtain ⟨v4, h4, e4, x4, hs4⟩ := s11g hg.toGrB hs
      obtain ⟨v6, h5, e5, x5, hs6⟩ := s10 hg hval hs4
      have hs5 := hs.ext (x4.tr x5).toExt
      obtain ⟨v8, h6, e6, x6, hs8⟩ := s11g hg.toGrB hs5
      have e7 := s12 hg.toGrB hval h9 hs8
      have hs7 := hs5.ext x6.toExt
      have hb7 := hs6.ext x6.toExt
      have hbl := blocks_len hg.toGrB
      have hnb : ∀ {T : Type} (K : Int → Option T), len v6 K = K ((blocksP g).length : Int) := fun K => by rw [hs6.len]; simp
      -- the greatest width of a block
      obtain ⟨ws', h', hl, xh, w, rfl⟩ := lp_for (F := f3_l1 rn 20000 v v6 (blocksP g).length) (k := 20000) (l := blocksP g) (fun _ b m => max m (wN (withinP g b) (allN (withinP g b))))
        (fun i m ws g' => Ext h6 g' ∧ ∃ w, ws = [w, iv m, iv i]) 0 (ws := [.bool false, iv 0, iv 0]) (h := h6) (s0 := 0) ⟨.refl _, _, rfl⟩ (by omega)
        (by
          rintro m ws g' ⟨_, w, rfl⟩
          simp [f3_l1])
        (by
          rintro i b m ws g' hx ⟨xg, w, rfl⟩
          have hi := (List.getElem?_eq_some_iff.1 hx).1
          have hbm := List.mem_of_getElem? hx
          have hb := blocks_lt hbm
          have hb0 := (mem_cands.1 (List.mem_filter.1 hbm).1).1
          have hgw := within_gr hg hb (by omega)
          have hpl := pop_le_n hlen hb
          obtain ⟨v13, g2, e13, x13, hs13⟩ := s13 hg.toGrB hb (hs7.ext xg)
          have e12 := s12 hgw.toGrB (valid_of hgw) (by rw [within_len]; omega) hs13
          have e1 : ∀ (K : Value → Option (Ex × List Value × H)), (six v6 (i : Int) 1 fun b o => (g'.cell b o).bind K) = K (iv b) := fun K => (hb7.ext xg).c0 (by omega) (x := [iv b]) (by simp [hx]) rfl K
          have hadd : add .i64 (i : Int) 1 = ((i + 1 : Nat) : Int) := by rw [add64 (by omega) (by omega)]; omega
          refine ⟨_, g2, ?_, xg.trans x13.toExt, w, rfl⟩
          unfold f3_l1
          simp only [d3]
          rw [show gv [w, iv (m : Int), iv (i : Int)] 2 = iv i from rfl, asI_int, lt_t (by omega), ifB_true, asK_int, e1, asI_int, lt_f (by omega), ifB_false, hn, List.length_map, nn_ge (by omega), shl1_nat (by omega), show AM.le ((2 ^ g.length : Nat) : Int) (b : Int) = false from decide_eq_false (by omega), ifB_false, calls_eq (xs := [v, iv b]) e13, calls_eq (xs := [v13]) e12, ext20, asI_int, ext21, asI_int, show AM.eq 0 0 = true from rfl, show (!true) = false from rfl, ifB_false, show gv [w, iv (m : Int), iv (i : Int)] 1 = iv m from rfl, asI_int, asI_int, hadd, imax_nat]
          rfl)
      have hmax : wN g (allN g) = foldI (fun _ b m => max m (wN (withinP g b) (allN (withinP g b)))) (blocksP g) 0 0 := by
        rw [foldI_foldl (fun b m => max m (wN (withinP g b) (allN (withinP g b))))]
        have key : ∀ (L : List Nat) (m k : Nat), L.foldl (fun m b => max m (wN (withinP g b) (allN (withinP g b)))) m ≤ k ↔ m ≤ k ∧ ∀ b ∈ L, wN (withinP g b) (allN (withinP g b)) ≤ k := by
          intro L
          induction L with
          | nil => intro m k; simp
          | cons b L ih =>
            intro m k
            rw [List.foldl_cons, ih]
            constructor
            · rintro ⟨h1, h2⟩
              refine ⟨by omega, fun x hx => ?_⟩
              rcases List.mem_cons.1 hx with rfl | hx
              · omega
              · exact h2 x hx
            · rintro ⟨h1, h2⟩
              exact ⟨Nat.max_le.2 ⟨h1, h2 b List.mem_cons_self⟩, fun x hx => h2 x (List.mem_cons_of_mem _ hx)⟩
        refine Nat.le_antisymm ?_ ?_
        · exact (width_blocks hg _).2 ((key _ _ _).1 (Nat.le_refl _)).2
        · exact (key _ _ _).2 ⟨Nat.zero_le _, (width_blocks hg _).1 (Nat.le_refl _)⟩
      refine ⟨_, t3 (k := 20000) (v0 := v) (h1 := h') (v := .bool true) ?_⟩
      unfold f3
      rw [c8, hval, asB_bool, show (!true) = false from rfl, ifB_false, hn, List.length_map, lt_f (by omega), ifB_false, calls_eq (xs := [v]) e4, calls_eq (xs := [v4]) e5, ext20, ext21, asI_int, calls_eq (xs := [v]) e6, calls_eq (xs := [v8]) e7, ext20, asI_int, ext21, asI_int]
      simp only [show AM.eq 0 0 = true from rfl, Bool.not_true, ifB_false]
      rw [hnb, lp_eq hl, onE_exit, if_pos rfl, show gv [w, iv ((foldI (fun _ b m => max m (wN (withinP g b) (allN (withinP g b)))) (blocksP g) 0 0 : Nat) : Int), iv ((blocksP g).length : Int)] 1 = iv (foldI (fun _ b m => max m (wN (withinP g b) (allN (withinP g b)))) (blocksP g) 0 0 : Nat) from rfl, asI_int, ← hmax, show AM.eq ((wN g (allN g) : Nat) : Int) ((wN g (allN g) : Nat) : Int) = true by simp, ifB_true, c9, asB_bool]
    · refine ⟨_, t3 (k := 0) (v0 := v) (h1 := h) (v := .bool true) ?_⟩
      unfold f3
      rw [c8, hval, asB_bool, show (!true) = false from rfl, ifB_false, hn, List.length_map, lt_t (by omega), ifB_true, c9, asB_bool]
  · refine ⟨_, t3 (k := 0) (v0 := v) (h1 := h) (v := .bool true) ?_⟩
    unfold f3
    rw [c8, asB_bool, show validG l = false by simpa using hval, show (!false) = true from rfl, ifB_true, c9, asB_bool]

end Go.AM

end

section

/- The examples at the end: by the kernel's own run. -/
namespace Go.AM
open Go.Proofs
noncomputable def loneOk (f : FuncId) : Bool := match call Tryd.prog E0 60 f #[] ⟨fun _ => none, 0, 0⟩ with
  | some (.bool b, _) => b
  | _ => false

theorem lone_run {f : FuncId} (hf : E0.iso f = true) (ht : loneOk f = true) (h : H) : rn f #[] h = some (.bool true, h) := by
  unfold loneOk at ht
  split at ht
  · rename_i b h' hc
    subst ht
    exact run_iso (n := 59) (by rw [hf]; rfl) (iso_any (by rw [hf]; rfl) hc)
  · cases ht

theorem parts_run : loneOk 9 = true := by decide +kernel

theorem s9 (h : H) : rn 9 #[] h = some (.bool true, h) := lone_run rfl parts_run h

end Go.AM

end

section

/- Slices of numbers that a statement is handed, in the abstract heap. -/
namespace Go.AM
open Go.Proofs Go.ChangeShapes
variable {HH : Type} {enc : TypeId × Value → HH} {w : World} {base : Nat} {held : Bool}
theorem flat3 (n : Nat) (cs : List Value) (x : DataW HH × List MemPlace) (h : DataW.trod enc Tryd.prog w base (fun _ => true) held n 3 cs = some x) : ∃ z : Int, cs = [iv z] := by
  obtain ⟨z, h1, _⟩ := DataW.trod_int (show Tryd.prog.underlying 3 = some (.int .i64) from by kernel_rfl) h
  exact ⟨z, h1⟩

theorem cellsOf3 : Tryd.prog.cellsOf 3 = 1 := by kernel_rfl

theorem bytes3 : Tryd.prog.bytesOf 3 = 8 := by kernel_rfl

theorem ints_of : ∀ (l : List (List Value)), (∀ x ∈ l, ∃ z : Int, x = [iv z]) → ∃ l' : List Int, l = l'.map fun z => [iv z] := by
  intro l
  induction l with
  | nil => intro _; exact ⟨[], rfl⟩
  | cons x l ih =>
    intro h
    obtain ⟨c, hc⟩ := h x (by simp)
    obtain ⟨l', hl⟩ := ih (fun y hy => h y (List.mem_cons_of_mem _ hy))
    exact ⟨c :: l', by rw [hc, hl]; rfl⟩

set_option maxRecDepth 100000 in
/-- A graph that came in. -/
theorem open_graph {rr : Reach} {b0 : Nat} {v : Value} {d : DataW HH} {ps : List MemPlace} (hv : Value.okWide Tryd.prog w rr b0 23 v) (hwt : ∀ x ∈ d.weights Tryd.prog 23, x ≤ reachBytes)
    (hd : DataW.Trod enc Tryd.prog w base (fun _ => true) held 23 v d ps) {ι : Nat → Emb} {h : H} (r : Rel Tryd.prog E0 ι h w) (hro : ∀ b k, h.blk b = some k → k.own = false) :
    ∃ (v0 : Value) (ι' : Nat → Emb) (h' : H) (l : List Int), Rel Tryd.prog E0 ι' h' w ∧ (∀ b k, h'.blk b = some k → k.own = false) ∧ Ext h h' ∧ (∀ b, b < h.nx → ι' b = ι b) ∧
      VR ι' h'.nx v0 v ∧ SlR h' 3 1 v0 (l.map fun z => [iv z]) := by
  have hu : Tryd.prog.underlying 23 = some (.slice 3) := by kernel_rfl
  simp only [Value.okWide, hu] at hv
  have hy : ∃ a len cap, v = .slice a len cap := by
    simp only [Cell.okWide, hu] at hv
    cases v <;> simp_all [Cell.ok]
  obtain ⟨a, len, cap, rfl⟩ := hy
  obtain ⟨ι', h', v0, l, g1, g2, g3, g4, g5, g6, g7⟩ := open_flat r hro hu sz3 cellsOf3 (by decide) (Q := fun x => ∃ z : Int, x = [iv z]) flat3 (by
    rintro cs ⟨c, rfl⟩
    exact ⟨rfl, fun v hv => by simp at hv; subst hv; exact ⟨_, _, rfl⟩⟩) (by rw [bytes3]; exact Nat.succ_pos _) hwt (okWide_has hu hv) hd
  obtain ⟨l', rfl⟩ := ints_of l g7
  exact ⟨v0, ι', h', l', g1, g2, g3, g4, g5, g6⟩

/-! ### Streets and numbers that came in -/
/-! ### The table -/
open Go.Proofs.YtphchobmencipaaDoor
theorem glTab : Tryd.prog.globalNamed "math/bits.deBruijn64tab" = some 1 := by kernel_rfl

theorem tyTab : (Tryd.prog.globals[1]?).map (·.type) = some 160 := by kernel_rfl

theorem under160 : Tryd.prog.underlying 160 = some (.array 64 5) := by kernel_rfl

theorem under5 : Tryd.prog.underlying 5 = some (.int .u8) := by kernel_rfl

theorem cellsOf5 : Tryd.prog.cellsOf 5 = 1 := by kernel_rfl

/-- What the rows say of the package-level variables. -/
def laidT : List (String × DataW Unit) := [("math/bits.deBruijn32tab", Rows.laid_math_bits_deBruijn32tab), ("math/bits.deBruijn64tab", Rows.laid_math_bits_deBruijn64tab)]

theorem laid64_eq : (Rows.laid_math_bits_deBruijn64tab : DataW Unit) = .agg (tab64.map fun n => .lit (.int .u8 n)) := by kernel_rfl

theorem tab_len : tab64.length = 64 := by decide

set_option maxRecDepth 100000 in
/-- What the condition gives: each cell of the table. -/
theorem of_laid {W : World} (h : laidMetH Tryd.prog laidT W) (i : Nat) (z : Int) (hz : tab64[i]? = some z) : W.cell? ⟨1, i, none⟩ = some (.int .u8 z) := by
  rw [MakeChecks.laidMetH_plain _ _ _ (by kernel_rfl)] at h
  obtain ⟨ps, ⟨g0, t0, cs0, f0, p0, q0, hg0, ht0, hv0, hd0, ⟨g1, t1, cs1, f1, p1, q1, hg1, ht1, hv1, hd1, _, _⟩, _⟩, _, _⟩ := h
  obtain rfl := Option.some.inj (glTab.symm.trans hg1)
  obtain rfl := Option.some.inj (tyTab.symm.trans ht1)
  obtain ⟨xs, m1, rfl, hx1, hlen, hn3, hel⟩ := DataW.trod_array under160 hd1
  have hi : i < 64 := by rw [← tab_len]; exact (List.getElem?_eq_some_iff.1 hz).1
  have h0 := hel i hi
  rw [cellsOf5, Nat.mul_one] at h0
  have hxi : xs[i]? = some xs[i] := List.getElem?_eq_getElem (by omega)
  rw [hxi] at h0
  obtain ⟨k, e1, e2, _⟩ := DataW.trod_int under5 h0
  have hx2 : DataW.agg (tab64.map fun n => DataW.lit (.int .u8 n)) = DataW.agg (xs.map (·.1)) := by
    rw [← laid64_eq]
    exact congrArg Prod.fst hx1
  have hx3 : (tab64.map fun n => (DataW.lit (.int .u8 n) : DataW Unit)) = xs.map (·.1) := by
    exact DataW.agg.inj hx2
  have hx4 := congrArg (·[i]?) hx3
  simp only [List.getElem?_map, hz, hxi, Option.map_some, Option.some.injEq] at hx4
  rw [e2] at hx4
  have hk : z = k := by
    have h5 : (DataW.lit (Lit.int .u8 z) : DataW Unit) = DataW.lit (Lit.int .u8 k) := hx4
    exact (Lit.int.inj (DataW.lit.inj h5)).2
  subst hk
  rw [World.var?_cell hg1 hv1 i]
  have hcl : cs1.toList[i]? = some (.int .u8 z) := by
    have := congrArg (·[0]?) e1
    simpa [List.getElem?_take, List.getElem?_drop] using this
  simpa using hcl

/-- The beginning: the table alone. -/
def hTab : H := ⟨fun b => if b = 1 then some (.row (tab64.map fun n => .int .u8 n) 5 false) else none, 2, 0⟩

def ιTab : Nat → Emb := fun g => ⟨g, 0, 64, 1⟩

set_option maxRecDepth 100000 in
theorem rel_tab {W : World} (h : laidMetH Tryd.prog laidT W) : Rel Tryd.prog E0 ιTab hTab W := by
  have hc := of_laid h
  have h0 := hc 0 0 (by decide)
  have hsz : 1 < W.heap.size := by
    unfold World.cell? at h0
    split at h0
    · rename_i hb
      rcases Nat.lt_or_ge 1 W.heap.size with h1 | h1
      · exact h1
      · rw [Array.getElem?_eq_none h1] at hb; cases hb
    · cases h0
  have hrow : ∀ n, BlkR Tryd.prog ιTab n W 1 (.row (tab64.map fun n => .int .u8 n) 5 false) := by
    intro n
    refine ⟨hsz, sz5, fun i v hv => ?_⟩
    rw [List.getElem?_map] at hv
    obtain ⟨z, hz, rfl⟩ := Option.map_eq_some_iff.1 hv
    refine ⟨.int .u8 z, ?_, .int .u8 z⟩
    have := hc i z hz
    simpa [ιTab] using this
  refine ⟨fun b k hb => ?_, fun b k hb => ?_, fun b b' k k' hb _ _ ho => ?_, Nat.le_refl _, fun g _ => ⟨rfl, rfl⟩, fun g hg => ?_, fun g k hg hk => ?_⟩
  · simp only [hTab] at hb ⊢
    split at hb
    · omega
    · cases hb
  · simp only [hTab] at hb
    split at hb
    · rename_i h1
      subst h1
      cases hb
      exact hrow _
    · cases hb
  · simp only [hTab] at hb
    split at hb
    · cases hb; cases ho
    · cases hb
  · simp only [hTab, E0]
  · simp only [E0] at hk
    split at hk
    · rename_i h1
      subst h1
      cases hk
      exact ⟨rfl, hrow _⟩
    · cases hk

theorem ro_tab : ∀ b k, hTab.blk b = some k → k.own = false := by
  intro b k hb
  simp only [hTab] at hb
  split at hb
  · cases hb; rfl
  · cases hb

end Go.AM

end
