/- How often a cycle may go round: the document's answer; RoundsTurns. -/
import Derived.Test.YtnhmgokjijlhbaaTc
namespace Go.AM
open Go.Proofs

variable {k : Nat} {R : Type}

attribute [local simp] nx_eq nx_new nx_set blk_new blk_set asI_int asK_int asB_bool asP_ptr al_eq bx_eq len_slice onE_exit onE_ret onR_ret Value.cells d3 d4 d22 d45 d47 d50 d52 d67 d88 d89 cell_new cell_set rd_new rd_set off eq lt le ifB gv out eqF1 eqF2 eqF3 eqF4 eqF5 eqF6 eqF7 eqF8 ext20 ext21

/-- What the search has found ahead of a number. -/
def fndP (A B m : Int) : Value × Value × Bool :=
  if A ≤ B ∧ A < m then (iv A, iv (if B < m - 1 then B else m - 1), true) else (iv 0, iv 0, false)

theorem le_div {p a m : Int} (hp : 0 < p) : (p * m ≤ a ↔ m ≤ a / p) ∧ (a ≤ p * m ↔ -(-a / p) ≤ m) := by
  constructor
  · rw [Int.le_ediv_iff_mul_le hp, Int.mul_comm]
  · have : -m ≤ -a / p ↔ -m * p ≤ -a := Int.le_ediv_iff_mul_le hp
    rw [Int.neg_mul, Int.mul_comm] at this
    omega

set_option maxHeartbeats 1000000 in
theorem s40 {h : H} {p e : Int} {sl cv : Value} {l : List Sp} {c : List Int} (hs : SlR h 89 4 sl (l.map Sp.cells)) (hc : SlR h 3 1 cv (cellsI c)) (hv : tabOk p e l = true) (hcy : cycP l c = true) :
    rn 40 #[.agg #[iv p, iv e, sl], cv] h = some (.tuple #[iv (turnsP p l c).1, iv (turnsP p l c).2.1, iv (turnsP p l c).2.2], h) := by
  have x1 := Ext.new h (.row [iv p, iv e, sl] 47 true)
  have hb1 : (h.new (.row [iv p, iv e, sl] 47 true)).blk h.nx = some (.row [iv p, iv e, sl] 47 true) := blk_new_self _ _
  have hn1 : h.nx < (h.new (.row [iv p, iv e, sl] 47 true)).nx := Nat.lt_succ_self _
  have hs1 := hs.ext x1
  have hc1 := hc.ext x1
  have kbx : ∀ (K : H → Option (Value × H)), bx h 47 (.agg #[iv p, iv e, sl]) K = K (h.new (.row [iv p, iv e, sl] 47 true)) := fun K => rfl
  have hcn : ∀ {T : Type} (K : Int → Option T), len cv K = K (c.length : Int) := fun K => by rw [hc.len]; simp
  generalize h.new (.row [iv p, iv e, sl] 47 true) = h1 at *
  obtain ⟨hl1, hl12, hall, _⟩ := cycP_spec.1 hcy
  obtain ⟨hp1, hp12⟩ := tab_p hv
  obtain ⟨g, xg, hlp⟩ := lp_list (σ := Int × Int) (ρ := Empty) (F := f40_l1 rn 200010 cv h c.length) (k := 200010) (l := c) (h1 := h1) (fun i st => [iv st.1, iv st.2, iv i])
    (fun _ x st => .inl (st.1 + dLo l x, st.2 + dHi l x)) (fun i st => -(22 * i : Int) ≤ st.1 ∧ st.1 ≤ 22 * i ∧ -(22 * i : Int) ≤ st.2 ∧ st.2 ≤ 22 * i) (fun _ => .ret) (fun _ => []) 0 (fun st => [iv st.1, iv st.2, iv c.length]) (ws := [iv 0, iv 0, iv 0]) (s0 := (0, 0)) rfl (by simp) (by omega) (by simp)
    (fun _ h2 _ _ => by simp [f40_l1])
    (by
      intro i x st g hx hI xg
      have hi := (List.getElem?_eq_some_iff.1 hx).1
      have hin := cyc_in hcy hx
      have hok := spW_ok hv hin
      have hd := d_ok hv hin
      have hne := kIn_ne hin
      have hadd : add .i64 (i : Int) 1 = (i : Int) + 1 := add64 (by omega) (by omega)
      refine ⟨fun s' hs' => by cases hs'; simp only; omega, g.fresh 89 [iv 0, iv 0, iv 0, iv 0] (spW l x).cells, (Ext.refl g).fresh _ _ _, ?_⟩
      have hcb := blk_fresh g 89 [iv 0, iv 0, iv 0, iv 0] (spW l x).cells
      have e1 := fun (K : Value → Option (Ex × List Value × H)) => (hc1.ext xg).c0 (i := (i : Int)) (by omega) (x := [iv x]) (by simp [hx]) (y := iv x) rfl K
      have hbg := (xg.blk _ hn1).trans hb1
      unfold f40_l1
      rw [show AM.gv [iv st.1, iv st.2, iv i] 2 = iv i from rfl, asI_int, lt_t (by omega), ifB_true, asK_int]
      simp only [d3]
      rw [e1, asI_int, show sub .i64 (imax x (sub .i64 0 x)) 1 = kI x from rfl, d45, nx_eq, cell_of hbg]
      rw [show [iv p, iv e, sl][AM.off 0 2]? = some sl from rfl, Option.bind_some]
      rw [(hs1.ext xg).ldA ag89 sz89 hin.1 (x := (spW l x).cells) (by simp [spW_get hin]), al_st (zs := [iv 0, iv 0, iv 0, iv 0]) (xs := (spW l x).cells) sz89 rfl rfl]
      generalize g.fresh 89 [iv 0, iv 0, iv 0, iv 0] (spW l x).cells = h7 at *
      simp only [Sp.cells] at hcb
      by_cases hx0 : x < 0
      · have q1 : sub .i64 st.1 (spW l x).hi = st.1 + dLo l x := by unfold dLo; rw [if_pos hx0, sub64 (by omega) (by omega)]; omega
        have q2 : sub .i64 st.2 (spW l x).lo = st.2 + dHi l x := by unfold dHi; rw [if_pos hx0, sub64 (by omega) (by omega)]; omega
        simp [cell_of hcb, show ¬ 0 < x by omega, q1, q2, hadd, rnd]
      · have q1 : add .i64 st.1 (spW l x).lo = st.1 + dLo l x := by unfold dLo; rw [if_neg hx0, add64 (by omega) (by omega)]
        have q2 : add .i64 st.2 (spW l x).hi = st.2 + dHi l x := by unfold dHi; rw [if_neg hx0, add64 (by omega) (by omega)]
        simp [cell_of hcb, show 0 < x by omega, q1, q2, hadd, rnd])
  rw [itL_inl (fun _ x (st : Int × Int) => (st.1 + dLo l x, st.2 + dHi l x))] at hlp
  change lpGo (f40_l1 rn 200010 cv h c.length) 200010 _ h1 = some (.exit 0, [iv (sumsP l c).1, iv (sumsP l c).2, iv c.length], g) ∧ _ at hlp
  obtain ⟨hlp, _⟩ := hlp
  obtain ⟨b1, b2, b3, b4⟩ := sums_ok hv hcy
  have hbg := (xg.blk _ hn1).trans hb1
  have turns_eq : turnsP p l c = if (sumsP l c).2 / p < -(-(sumsP l c).1 / p) then (0, 0, 4) else (-(-(sumsP l c).1 / p), (sumsP l c).2 / p, 0) := rfl
  have hab : (-(-(sumsP l c).1 / p)).natAbs ≤ (sumsP l c).1.natAbs := by
    have := Int.natAbs_ediv_le_natAbs (-(sumsP l c).1) p
    omega
  have hab2 : ((sumsP l c).2 / p).natAbs ≤ ((sumsP l c).2).natAbs := Int.natAbs_ediv_le_natAbs _ _
  have hiff := fun m => le_div (p := p) (a := (sumsP l c).2) (m := m) (by omega)
  have hiff2 := fun m => le_div (p := p) (a := (sumsP l c).1) (m := m) (by omega)
  generalize (sumsP l c).1 = lo at *
  generalize (sumsP l c).2 = hi at *
  generalize -(-lo / p) = A at *
  generalize hi / p = B at *
  obtain ⟨ws', g', hl2, rfl, hw⟩ := lp_for (σ := Unit) (F := f40_l2 rn 200010 h [iv lo, iv hi, iv c.length]) (k := 200010) (l := List.range 601) (fun _ _ _ => ())
    (fun i _ ws g' => g' = g ∧ ws = [(fndP A B (-300 + i)).1, (fndP A B (-300 + i)).2.1, .bool (fndP A B (-300 + i)).2.2, iv (-300 + i)]) 2 (ws := [iv 0, iv 0, .bool false, iv (-300)]) (h := g) (s0 := ())
    ⟨rfl, by rw [show fndP A B (-300 + (0 : Nat)) = (iv 0, iv 0, false) from if_neg (by omega)]; rfl⟩ (by simp)
    (by
      rintro _ ws g' ⟨rfl, rfl⟩
      simp [f40_l2])
    (by
      rintro i x _ ws g' hx ⟨rfl, rfl⟩
      have hi6 := (List.getElem?_eq_some_iff.1 hx).1
      rw [List.length_range] at hi6
      refine ⟨_, g', ?_, rfl, rfl⟩
      have hm1 : -3600 ≤ p * (-300 + (i : Int)) := by
        have := Int.mul_le_mul_of_nonneg_left (show (-300 : Int) ≤ -300 + i by omega) (show 0 ≤ p by omega)
        omega
      have hm2 : p * (-300 + (i : Int)) ≤ 3600 := by
        have := Int.mul_le_mul_of_nonneg_left (show -300 + (i : Int) ≤ 300 by omega) (show 0 ≤ p by omega)
        omega
      have hmul : mul .i64 p (-300 + (i : Int)) = p * (-300 + (i : Int)) := mul64 (by omega) (by omega)
      have hadd : add .i64 (-300 + (i : Int)) 1 = -300 + ((i + 1 : Nat) : Int) := by rw [add64 (by omega) (by omega)]; omega
      have q1 := (hiff (-300 + (i : Int))).1
      have q2 := (hiff2 (-300 + (i : Int))).2
      have hle : -300 + (i : Int) ≤ 300 := by omega
      rw [show -300 + ((i + 1 : Nat) : Int) = -300 + (i : Int) + 1 by omega] at *
      generalize -300 + (i : Int) = m at *
      generalize p * m = pm at *
      by_cases hA : A ≤ m
      · by_cases hB : m ≤ B
        · have c1 : lo ≤ pm := q2.2 hA
          have c2 : pm ≤ hi := q1.2 hB
          have f2 : fndP A B (m + 1) = (iv A, iv m, true) := by
            unfold fndP
            rw [if_pos (by omega), if_neg (by omega)]
            rw [show m + 1 - 1 = m by omega]
          rw [f2]
          by_cases hA2 : A = m
          · have f1 : fndP A B m = (iv 0, iv 0, false) := if_neg (by omega)
            rw [f1]
            simp [f40_l2, hle, cell_of hbg, hmul, c1, c2, hadd, hA2]
          · have f1 : (fndP A B m).2.2 = true ∧ (fndP A B m).1 = iv A := by
              unfold fndP
              rw [if_pos (by omega)]
              exact ⟨rfl, rfl⟩
            simp [f40_l2, hle, cell_of hbg, hmul, c1, c2, hadd, f1.1, f1.2]
        · have c2 : ¬ pm ≤ hi := fun hc => hB (q1.1 hc)
          have f2 : fndP A B (m + 1) = fndP A B m := by
            unfold fndP
            by_cases hAB : A ≤ B
            · rw [if_pos (by omega), if_pos (by omega), if_pos (by omega)]
              by_cases h5 : B < m - 1
              · rw [if_pos h5]
              · rw [if_neg h5, show B = m - 1 by omega]
            · rw [if_neg (by omega), if_neg (by omega)]
          rw [f2]
          simp [f40_l2, hle, cell_of hbg, hmul, c2, hadd]
      · have c1 : ¬ lo ≤ pm := fun hc => hA (q2.1 hc)
        have f2 : fndP A B (m + 1) = fndP A B m := by
          unfold fndP
          rw [if_neg (by omega), if_neg (by omega)]
        rw [f2]
        simp [f40_l2, hle, cell_of hbg, hmul, c1, hadd])
  have hF : f40 rn 200010 (.agg #[iv p, iv e, sl]) cv h = some (.tuple #[iv (turnsP p l c).1, iv (turnsP p l c).2.1, iv (turnsP p l c).2.2], g') := by
    unfold f40
    rw [kbx]
    simp only [hcn]
    refine (lp_eq hlp).trans ?_
    rw [onE_exit, if_pos rfl]
    refine (lp_eq hl2).trans ?_
    rw [hw, turns_eq]
    rw [List.length_range, show (-300 + ((601 : Nat) : Int)) = 301 by omega]
    by_cases hlt : B < A
    · rw [if_pos hlt, show fndP A B 301 = (iv 0, iv 0, false) from if_neg (by omega)]
      simp
    · rw [if_neg hlt]
      have : fndP A B 301 = (iv A, iv B, true) := by
        unfold fndP
        rw [if_pos (by omega)]
        by_cases h5 : B < 301 - 1
        · rw [if_pos h5]
        · omega
      rw [this]
      simp
  have hpl : plainO (.tuple #[iv (turnsP p l c).1, iv (turnsP p l c).2.1, iv (turnsP p l c).2.2]) = true := rfl
  exact p40 hF hpl (x1.trans xg)

theorem cycP_take {l : List Sp} {c : List Int} : cycP l (c.take 14) = cycP l c := by
  by_cases hc : c.length ≤ 12
  · rw [List.take_of_length_le (by omega)]
  · unfold cycP
    rw [decide_eq_false (show ¬ (c.take 14).length ≤ 12 by simp; omega), decide_eq_false hc]
    simp

/-- The law. -/
theorem s10 {h : H} {p e : Int} {sl cv : Value} {l : List Sp} {c : List Int} (hs : SlR h 89 4 sl (l.map Sp.cells)) (hc : SlR h 3 1 cv (cellsI c)) :
    ∃ h', rn 10 #[.agg #[iv p, iv e, sl], cv] h = some (.bool true, h') := by
  have x1 := Ext.new h (.row [iv p, iv e, sl] 47 true)
  have hb1 : (h.new (.row [iv p, iv e, sl] 47 true)).blk h.nx = some (.row [iv p, iv e, sl] 47 true) := blk_new_self _ _
  have hn1 : h.nx < (h.new (.row [iv p, iv e, sl] 47 true)).nx := Nat.lt_succ_self _
  have kbx : ∀ (K : H → Option (Value × H)), bx h 47 (.agg #[iv p, iv e, sl]) K = K (h.new (.row [iv p, iv e, sl] 47 true)) := fun K => rfl
  have hs1 := hs.ext x1
  have hc1 := hc.ext x1
  generalize h.new (.row [iv p, iv e, sl] 47 true) = h1 at *
  obtain ⟨sl2, h2, e37, x2, hs2⟩ := s37 (p := p) (e := e) hs1
  have c37 := fun (K : Value → H → Option (Value × H)) => calls_eq (K := K) (xs := [.agg #[iv p, iv e, sl]]) e37
  obtain ⟨cv2, h3, e18, x3, hc3⟩ := s18 (hc1.ext x2)
  have c18 := fun (K : Value → H → Option (Value × H)) => calls_eq (K := K) (xs := [cv]) e18
  have c36 := fun (K : Value → H → Option (Value × H)) => calls_eq (K := K) (xs := [.agg #[iv p, iv e, sl2], cv2]) (s36 (p := p) (e := e) (hs2.ext x3) hc3)
  have hs3 := (hs1.ext x2).ext x3
  have hb3 := ((x2.trans x3).blk _ hn1).trans hb1
  have c38 := fun (K : Value → H → Option (Value × H)) => calls_eq (K := K) (xs := [.agg #[iv p, iv e, sl]]) (s38 (p := p) (e := e) hs3)
  have hk : ∀ g, ∃ K, calls rn g 19 [] K = K (.bool true) g ∧ K = fun (v : Value) (g : H) => some (v, g) := fun g => ⟨_, calls_eq (s19 g), rfl⟩
  have c19 := fun (g : H) (K : Value → H → Option (Value × H)) => calls_eq (K := K) (xs := []) (s19 g)
  rw [tabOk_take, cycP_take] at c36
  have htk : tabOk p e l = true → l.take 14 = l := fun hv => List.take_of_length_le (by
    simp only [tabOk, Bool.and_eq_true, decide_eq_true_iff] at hv; omega)
  have hck : cycP l c = true → c.take 14 = c := fun hv => List.take_of_length_le (by
    have := (cycP_spec.1 hv).2.1; omega)
  have hstart : ∀ v g, f10 rn 0 (.agg #[iv p, iv e, sl]) cv h = some (v, g) → v = .bool true → ∃ h', rn 10 #[.agg #[iv p, iv e, sl], cv] h = some (.bool true, h') := by
    intro v g hf hv
    subst hv
    exact ⟨_, t10 hf⟩
  by_cases hv : tabOk p e l = true
  · rw [htk hv] at c36
    have c39 := fun (K : Value → H → Option (Value × H)) => calls_eq (K := K) (xs := [.agg #[iv p, iv e, sl], cv]) (s39 hs3 (hc1.ext (x2.trans x3)) hv)
    by_cases hcy : cycP l c = true
    · rw [if_pos ⟨hv, hcy⟩, hck hcy] at c36
      have c40 := fun (K : Value → H → Option (Value × H)) => calls_eq (K := K) (xs := [.agg #[iv p, iv e, sl], cv]) (s40 hs3 (hc1.ext (x2.trans x3)) hv hcy)
      refine hstart (.bool true) h3 ?_ rfl
      unfold f10
      rw [kbx]
      simp [rd_of hb1, rd_of hb3, c37, c18, c36, c38, hv, c39, hcy, c40, c19, ext]
    · rw [if_neg (by simp [hcy])] at c36
      refine hstart (.bool true) h3 ?_ rfl
      unfold f10
      rw [kbx]
      simp [rd_of hb1, rd_of hb3, c37, c18, c36, c38, hv, c39, hcy, c19, ext]
  · rw [if_neg (by simp [hv])] at c36
    refine hstart (.bool true) h3 ?_ rfl
    unfold f10
    rw [kbx]
    simp [rd_of hb1, rd_of hb3, c37, c18, c36, c38, hv, c19, ext]

end Go.AM
