/- The document's Number. -/
import Derived.Test.YtakhklelgcfgjaaDoorHj
namespace Go.AM
open Go.Proofs

variable {R : Type}

attribute [local simp] nx_eq nx_new nx_set blk_new blk_set asI_int asK_int asB_bool asP_ptr al_eq bx_eq len_slice onE_exit onE_ret onR_ret Value.cells cell_new cell_set rd_new rd_set off eq lt le ifB gv out ext20 ext21

theorem lf_or (g : List Nat) (B u : Nat) : without (lf g B) (2 ^ u) = lf g (B ||| 2 ^ u) := by
  apply Nat.eq_of_testBit_eq
  intro i
  rw [without_bit, lf_bit, lf_bit, or_bit, Nat.testBit_two_pow]
  cases decide (i < g.length) <;> cases B.testBit i <;> cases decide (u = i) <;> rfl

theorem cq_split (g : List Nat) (t B v : Nat) : (cq g t B v && goodQ g t (B ||| 2 ^ v)) = (!B.testBit v && (!decide (v = t) && (!decide (nb g v &&& B = 0) && (!decide (nb g v &&& lf g (B ||| 2 ^ v) = 0) && goodQ g t (B ||| 2 ^ v))))) := by
  unfold cq
  simp only [ne_eq, decide_not, Bool.and_assoc]

theorem s41_in {v sv : Value} {g : List Nat} {t B : Nat} {l : List Nat} {h : H} (hg : GrN g) (hs : SlR h 3 1 v (cellsN g)) (htn : t < g.length) (hB : B < 2 ^ g.length) {lo : Nat} (hap : AqR lo h 3 1 sv (cellsN l)) (hlo : lo ≤ h.nx) (hl : l.length < 100) {u : Nat} (hu : nextV g t B = some u) :
    ∃ sv' w h', lpGo (f41_l2 rn 20 v t g.length) 20 [sv, iv B, iv 0] h = some (.exit 2, [sv', iv ((B ||| 2 ^ u : Nat) : Int), w], h') ∧ AqR lo h' 3 1 sv' (cellsN (l ++ [u])) ∧ h.nx ≤ h'.nx ∧ ∀ b, b < h.nx → blkOf sv ≠ some b → h'.blk b = h.blk b := by
  have hlen := hg.len
  have hpos := hg.pos
  have hB10 : B < 1024 := Nat.lt_of_lt_of_le hB hg.pow
  have hnext := hu
  unfold nextV at hnext
  obtain ⟨e, ws', h', hlp, rfl, sv', w, rfl, a', n', k'⟩ := lp_range (F := f41_l2 rn 20 v t g.length) (k := 20) (n := g.length)
    (fun i ws g' => ws = [sv, iv B, iv i] ∧ g' = h ∧ ∀ x, x < i → (cq g t B x && goodQ g t (B ||| 2 ^ x)) = false)
    (fun e ws h' => e = .exit 2 ∧ ∃ sv' w, ws = [sv', iv ((B ||| 2 ^ u : Nat) : Int), w] ∧ AqR lo h' 3 1 sv' (cellsN (l ++ [u])) ∧ h.nx ≤ h'.nx ∧ ∀ b, b < h.nx → blkOf sv ≠ some b → h'.blk b = h.blk b)
    (by
      rintro i ws g' hi ⟨rfl, rfl, hno⟩
      have hadd : add .i64 (i : Int) 1 = ((i + 1 : Nat) : Int) := by rw [add64 (by omega) (by omega)]; omega
      have hnb := nb_lt10 hg.toGrB i
      have hB'lt := or_lt hB hi
      have hlf := lf_lt (B := B ||| 2 ^ i) hg
      have hlft : lf g (B ||| 2 ^ i) < 2 ^ g.length := without_le _ _ (allN_lt g)
      have c68 := fun (K : Value → H → Option (Ex × List Value × H)) => calls_eq (K := K) (xs := [v]) (s68 hg.toGrB hs)
      have c33 := fun (K : Value → H → Option (Ex × List Value × H)) => calls_eq (K := K) (xs := [v, iv (lf g (B ||| 2 ^ i) : Nat), iv t]) (s33 hg.toGrB hs htn hlft)
      have e2 : ∀ (K : Value → Option (Ex × List Value × H)), (six v (i : Int) 1 fun b o => ld Tryd.prog g' 3 b o K) = K (iv (nb g i : Nat)) := fun K => by
        simp only [d3]; exact getN hs hi K
      have hbit : AM.eq (AM.and .i64 (AM.shr .i64 (B : Int) (i : Int)) 1) 0 = !B.testBit i := by
        rw [bit_nat (by omega) (by omega)]
        cases B.testBit i <;> rfl
      have hleft : AM.andNot .i64 (AM.andNot .i64 (allN g : Int) (B : Int)) (AM.shl .i64 1 (i : Int)) = (lf g (B ||| 2 ^ i) : Int) := by
        have h2 : 2 ^ i < 1024 := Nat.lt_of_lt_of_le (Nat.pow_lt_pow_right (by omega) hi) hg.pow
        have h3 := lf_lt (B := B) hg
        rw [lf_calc hg hB10, shl1_nat (by omega), andNot_nat (by omega) (by omega), lf_or]
      have hnni : ∀ {T : Type} (x : Option T), nn (i : Int) x = x := fun x => nn_ge (show (0 : Int) ≤ (i : Int) by omega) x
      have start : f41_l2 rn 20 v t g.length [sv, iv B, iv i] g' = if (cq g t B i && goodQ g t (B ||| 2 ^ i)) = true then
          (bls Tryd.prog g' 22 1 [(0, iv i)] fun v6 h6 => app Tryd.prog h6 22 22 sv v6 fun v7 h7 => some (.exit 2, [v7, iv ((B ||| 2 ^ i : Nat) : Int), iv i], h7)) else some (.normal, [sv, iv B, iv ((i + 1 : Nat) : Int)], g') := by
        rw [cq_split]
        unfold f41_l2
        rw [show AM.gv [sv, iv B, iv i] 2 = iv i from rfl, show AM.gv [sv, iv B, iv i] 1 = iv B from rfl, show AM.gv [sv, iv B, iv i] 0 = sv from rfl]
        simp only [asI_int, lt_t (show (i : Int) < (g.length : Int) by omega), ifB_true, c68, asK_int, hnni, hbit, e2, hleft, hadd, eqN, and_calc hnb hB10, and_calc hnb hlf, c33, or_calc2 hlen hB hi, AM.out]
        cases h1 : B.testBit i with
        | true => rw [show (!true) = false from rfl, ifB_false, Bool.false_and, if_neg (by simp)]
        | false =>
          simp only [Bool.not_false, ifB_true, Bool.true_and]
          by_cases h2 : i = t
          · simp only [h2, decide_true, Bool.not_true, ifB_false, Bool.false_and, Bool.false_eq_true, if_false]
          · simp only [h2, decide_false, Bool.not_false, ifB_true, Bool.true_and]
            by_cases h3 : nb g i &&& B = 0
            · simp only [h3, decide_true, Bool.not_true, ifB_false, Bool.false_and, Bool.false_eq_true, if_false]
            · simp only [h3, decide_false, Bool.not_false, ifB_true, Bool.true_and]
              by_cases h4 : nb g i &&& lf g (B ||| 2 ^ i) = 0
              · simp only [h4, decide_true, Bool.not_true, ifB_false, Bool.false_and, Bool.false_eq_true, if_false]
              · simp only [h4, decide_false, Bool.not_false, ifB_true, Bool.true_and]
                unfold goodQ
                by_cases h5 : rch g (lf g (B ||| 2 ^ i)) t = lf g (B ||| 2 ^ i)
                · simp only [h5, decide_true, ifB_true, if_true]
                · simp only [h5, decide_false, ifB_false, Bool.false_eq_true, if_false]
      rw [start]
      cases hc : (cq g t B i && goodQ g t (B ||| 2 ^ i)) with
      | true =>
        rw [if_pos rfl]
        have hui : u = i := by
          have := find_at (l := List.range g.length) (i := i) (x := i) (p := fun v => cq g t B v && goodQ g t (B ||| 2 ^ v)) (by simp [hi]) hc (fun y hy => by
            rw [List.take_range, Nat.min_eq_left (by omega)] at hy
            exact hno y (List.mem_range.1 hy))
          rw [hnext] at this
          exact Option.some.inj this
        subst hui
        obtain ⟨v7, h7, e7, a7, n7, k7, _⟩ := hap.push app22 app22 (bls22 (u : Int)) rfl rfl (by rw [List.length_map]; omega) hlo
        have : cellsN (l ++ [u]) = cellsN l ++ [[iv (u : Int)]] := by simp
        exact ⟨_, _, _, e7 _, .inr ⟨by simp, rfl, v7, iv u, rfl, by rw [this]; exact a7, n7, k7⟩⟩
      | false =>
        rw [if_neg (by simp)]
        refine ⟨_, _, _, rfl, .inl ⟨rfl, rfl, rfl, fun x hx => ?_⟩⟩
        by_cases hxi : x = i
        · rw [hxi]; exact hc
        · exact hno x (by omega))
    (by
      rintro ws g' ⟨rfl, rfl, hno⟩
      exfalso
      have h1 := List.find?_some hnext
      have h2 := List.mem_of_find?_eq_some hnext
      rw [hno u (List.mem_range.1 h2)] at h1
      cases h1)
    (ws := [sv, iv B, iv 0]) (h := h) (by omega) ⟨rfl, rfl, fun x hx => by omega⟩
  exact ⟨sv', w, h', hlp, a', n', k'⟩

set_option maxHeartbeats 1000000 in
theorem s41 {v : Value} {g : List Nat} {s t : Nat} {h : H} (hg : GrN g) (hs : SlR h 3 1 v (cellsN g)) (hsn : s < g.length) (htn : t < g.length) (hst : s ≠ t) (hd : doubleP g = true) :
    ∃ v' h' r, rn 41 #[v, iv s, iv t] h = some (v', h') ∧ Exw h h' ∧ Gr g t (2 ^ s) r ∧ SlR h' 3 1 v' (cellsN (s :: r)) := by
  have hlen := hg.len
  have hpos := hg.pos
  have hbi := double_bi hg hd
  have hn : ∀ {T : Type} (K : Int → Option T), len v K = K (g.length : Int) := fun K => by rw [hs.len]; simp
  have hpa := (pop_all hg.len).2 t htn
  have hpB : ∀ B, B < 2 ^ g.length → B.testBit t = false → pop B ≤ g.length - 1 ∧ (pop B = g.length - 1 ↔ lf g B = 2 ^ t) := by
    intro B hB hBt
    have hB10 : B < 1024 := Nat.lt_of_lt_of_le hB hg.pow
    have hsub : ∀ j, B.testBit j = true → (without (2 ^ g.length - 1) (2 ^ t)).testBit j = true := fun j hj => by
      rw [without_bit, Nat.testBit_two_pow_sub_one, Nat.testBit_two_pow, decide_eq_true (bit_lt hB hj), decide_eq_false (fun e => by rw [e, hj] at hBt; cases hBt)]
      rfl
    refine ⟨by rw [← hpa]; exact pop_le_of hsub, fun hp => ?_, fun hl => ?_⟩
    · refine Classical.byContradiction fun hc => ?_
      have : ∃ z, z < g.length ∧ B.testBit z = false ∧ z ≠ t := by
        refine Classical.byContradiction fun hno => hc ?_
        apply Nat.eq_of_testBit_eq
        intro i
        rw [lf_bit, Nat.testBit_two_pow]
        by_cases hit : t = i
        · subst hit; rw [hBt, decide_eq_true htn]; simp
        · rw [decide_eq_false hit]
          by_cases hin : i < g.length
          · cases hb : B.testBit i with
            | true => simp
            | false => exact absurd ⟨i, hin, hb, fun e => hit e.symm⟩ hno
          · simp [hin]
      obtain ⟨z, hz1, hz2, hz3⟩ := this
      have := pop_lt (a := B) (b := without (2 ^ g.length - 1) (2 ^ t)) (i := z) (by exact without_le (n := 10) _ _ (allN_lt10 hg)) hsub (by
        rw [without_bit, Nat.testBit_two_pow_sub_one, Nat.testBit_two_pow, decide_eq_true hz1, decide_eq_false (fun e => hz3 e.symm)]; rfl) hz2
      omega
    · rw [← hpa]
      congr 1
      apply Nat.eq_of_testBit_eq
      intro i
      have this : (lf g B).testBit i = (2 ^ t).testBit i := by rw [hl]
      rw [lf_bit, Nat.testBit_two_pow] at this
      rw [without_bit, Nat.testBit_two_pow_sub_one, Nat.testBit_two_pow]
      by_cases hin : i < g.length
      · rw [decide_eq_true hin, Bool.true_and] at this
        rw [decide_eq_true hin, Bool.true_and, ← this, Bool.not_not]
      · rw [decide_eq_false hin, Bool.false_and, big_bit hB (by omega)]
  have h2s : 2 ^ s < 2 ^ g.length := Nat.pow_lt_pow_right (by omega) hsn
  have hst' : (2 ^ s).testBit t = false := by rw [Nat.testBit_two_pow]; exact decide_eq_false hst
  have hp2s : pop (2 ^ s) = 1 := pop_two s (by omega)
  obtain ⟨h1, hh1⟩ : ∃ h1, h1 = h.new (.row [iv s] 3 true) := ⟨_, rfl⟩
  have hap : AqR h.nx h1 3 1 (.slice (some ⟨h.nx, 0, none⟩) 1 1) (cellsN [s]) := by
    rw [hh1]
    exact AqR.lit (l := [[iv (s : Int)]]) (Nat.le_refl _) rfl (by simp) (by simp)
  have x1 : Ext h h1 := by rw [hh1]; exact Ext.new _ _
  obtain ⟨e, ws', h9, hlp, rfl, B, o, sv, rfl, a9, x9, hBlt, hBt, hfin, hol9, hchain⟩ := lpGo_inv (F := f41_l1 rn 20 v t)
    (fun d ws g' => ∃ (B : Nat) (o : List Nat) (sv : Value), ws = [sv, iv B] ∧ AqR h.nx g' 3 1 sv (cellsN (s :: o)) ∧ Ext h g' ∧ B < 2 ^ g.length ∧ B.testBit t = false ∧ B.testBit s = true ∧ goodQ g t B = true ∧ o.length + 1 = pop B ∧ d + pop B = g.length - 1 ∧ ∀ r, Gr g t B r → Gr g t (2 ^ s) (o ++ r))
    (fun e ws g' => e = .exit 0 ∧ ∃ (B : Nat) (o : List Nat) (sv : Value), ws = [sv, iv B] ∧ AqR h.nx g' 3 1 sv (cellsN (s :: o)) ∧ Ext h g' ∧ B < 2 ^ g.length ∧ B.testBit t = false ∧ lf g B = 2 ^ t ∧ o.length + 1 = pop B ∧ ∀ r, Gr g t B r → Gr g t (2 ^ s) (o ++ r))
    (by
      rintro d ws g' ⟨B, o, sv, rfl, ha, xg, hB, hBt, hBs, hgood, hol, hdp, hch⟩
      have hno : ∀ {T : Type} (K : Int → Option T), len sv K = K ((o.length + 1 : Nat) : Int) := fun K => by rw [ha.slR.len]; simp
      have hsub : AM.sub .i64 (g.length : Int) 1 = ((g.length - 1 : Nat) : Int) := by rw [sub64 (by omega) (by omega)]; omega
      by_cases hd0 : d = 0
      · subst hd0
        refine ⟨.exit 0, [sv, iv B], g', ?_, .inr ⟨by simp, rfl, B, o, sv, rfl, ha, xg, hB, hBt, ((hpB B hB hBt).2).1 (by omega), hol, hch⟩⟩
        unfold f41_l1
        rw [show AM.gv [sv, iv B] 0 = sv from rfl, show AM.gv [sv, iv B] 1 = iv B from rfl, hno, hn, hsub, show AM.lt ((o.length + 1 : Nat) : Int) ((g.length - 1 : Nat) : Int) = false by simp [AM.lt]; omega, ifB_false]
        rfl
      · have hnf : lf g B ≠ 2 ^ t := fun hc => by have := ((hpB B hB hBt).2).2 hc; omega
        have htl : (lf g B).testBit t = true := by rw [lf_bit, hBt, decide_eq_true htn]; rfl
        obtain ⟨z, hz, hzt⟩ : ∃ z, (lf g B).testBit z = true ∧ z ≠ t := by
          refine Classical.byContradiction fun hc => hnf ?_
          apply Nat.eq_of_testBit_eq
          intro i
          rw [Nat.testBit_two_pow]
          by_cases hzt : t = i
          · subst hzt; rw [htl, decide_eq_true rfl]
          · rw [decide_eq_false hzt, Bool.eq_false_iff]
            exact fun hz => hc ⟨i, hz, fun e => hzt e.symm⟩
        obtain ⟨w, hwn, hw1, hw2⟩ := good_next hg hbi htn hBt hBs hsn hgood hz hzt
        obtain ⟨u, hu⟩ : ∃ u, nextV g t B = some u := by
          unfold nextV
          rw [← Option.isSome_iff_exists, List.find?_isSome]
          exact ⟨w, List.mem_range.2 hwn, by rw [hw1, hw2]; rfl⟩
        have hu' := hu
        unfold nextV at hu'
        have hu1 := List.find?_some hu'
        have hun := List.mem_range.1 (List.mem_of_find?_eq_some hu')
        rw [Bool.and_eq_true] at hu1
        obtain ⟨hcq, hgu⟩ := hu1
        have huB : B.testBit u = false ∧ u ≠ t := by
          unfold cq at hcq
          simp only [Bool.and_eq_true, Bool.not_eq_true', decide_eq_true_eq] at hcq
          exact ⟨hcq.1.1.1, hcq.1.1.2⟩
        obtain ⟨sv', w', g2, hl2, a2, n2, k2⟩ := s41_in hg (hs.ext xg) htn hB ha xg.nx (by simp; omega) hu
        have hB10 : B < 1024 := Nat.lt_of_lt_of_le hB hg.pow
        have hpu : pop (B ||| 2 ^ u) = pop B + 1 := by
          have q1 := pop_or hB10 (show u < 10 by omega) huB.1
          have q2 : pop (B ||| 2 ^ u) ≤ pop B + 1 := by
            unfold pop
            have : ∀ L : List Nat, L.Nodup → L.countP (fun i => (B ||| 2 ^ u).testBit i) ≤ L.countP (fun i => B.testBit i) + 1 := by
              intro L
              induction L with
              | nil => intro _; simp
              | cons x L ihL =>
                intro hnd
                rw [List.nodup_cons] at hnd
                rw [List.countP_cons, List.countP_cons, or_bit]
                by_cases hx : u = x
                · have : L.countP (fun i => (B ||| 2 ^ u).testBit i) = L.countP (fun i => B.testBit i) := List.countP_congr fun y hy => by
                    rw [or_bit, decide_eq_false (fun e => hnd.1 (by rw [← hx, e]; exact hy)), Bool.or_false]
                  rw [this]
                  split <;> omega
                · have := ihL hnd.2
                  rw [decide_eq_false hx, Bool.or_false]
                  omega
            exact this _ List.nodup_range
          omega
        have x2 : Ext h g2 := ⟨Nat.le_trans xg.nx n2, fun b hb => by
          rw [k2 b (Nat.lt_of_lt_of_le hb xg.nx) (fun e => by have := (ha.blkOf e).1; omega)]
          exact xg.blk b hb⟩
        refine ⟨.normal, [sv', iv ((B ||| 2 ^ u : Nat) : Int)], g2, ?_, .inl ⟨rfl, d - 1, by omega, B ||| 2 ^ u, o ++ [u], sv', rfl, a2, x2, or_lt hB hun, ?_, ?_, hgu, ?_, ?_, fun r hr => ?_⟩⟩
        · unfold f41_l1
          rw [show AM.gv [sv, iv B] 0 = sv from rfl, show AM.gv [sv, iv B] 1 = iv B from rfl, hno, hn, hsub, lt_t (by omega), ifB_true, hn]
          refine (lp_eq hl2).trans ?_
          rfl
        · rw [or_bit, hBt, decide_eq_false huB.2]; rfl
        · rw [or_bit, hBs]; rfl
        · simp; omega
        · omega
        · have := hch (u :: r) (.step hnf hu hr)
          simpa using this)
    (g.length - 2) 20 (by omega) (ws := [.slice (some ⟨h.nx, 0, none⟩) 1 1, iv ((2 ^ s : Nat) : Int)]) (h := h1) ⟨2 ^ s, [], _, rfl, hap, x1, h2s, hst', by simp, good_start hg hbi htn hst, by simp [hp2s], by
      have : 3 ≤ g.length := by
        unfold doubleP at hd
        simp only [Bool.and_eq_true, decide_eq_true_eq] at hd
        exact hd.1.1
      omega, fun r hr => by simpa using hr⟩
  obtain ⟨v9, h11, e11, a11, n11, k11, _⟩ := a9.push app22 app22 (bls22 (t : Int)) rfl rfl (by
    have := (hpB B hBlt hBt).1
    rw [List.length_map, List.length_cons]; omega) x9.nx
  have x11 : Ext h h11 := ⟨Nat.le_trans x9.nx n11, fun b hb => by
    rw [k11 b (Nat.lt_of_lt_of_le hb x9.nx) (fun e => by have := (a9.blkOf e).1; omega)]
    exact x9.blk b hb⟩
  obtain ⟨h12, e12, m12, w12⟩ := x41 (k := 20) (v0 := v) (n0 := s) (n1 := t) (h := h) (h1 := h11) (v := v9) (by
    unfold f41
    rw [bls_some (bls22 (s : Int) h), ← hh1, nn_ge (show (0 : Int) ≤ (s : Int) by omega), shl1_nat (by omega)]
    refine (lp_eq hlp).trans ?_
    rw [onE_exit, if_pos rfl, show AM.gv [sv, iv B] 0 = sv from rfl]
    exact e11 _) a11.slR.notR
  refine ⟨v9, h12, o ++ [t], e12, w12 x11, hchain [t] (.fin hfin), ?_⟩
  have : cellsN (s :: (o ++ [t])) = cellsN (s :: o) ++ [[iv (t : Int)]] := by simp
  rw [this]
  exact a11.slR.ext m12.ext

end Go.AM
