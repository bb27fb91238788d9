/- The longest slice of tasks: the walks, and the statement. -/
import Derived.Test.YtnhmgokjijlhbaaRx
namespace Go.AM
open Go.Proofs Go.Lives

variable {R : Type}

attribute [local simp] nx_eq nx_new nx_set blk_new blk_set asI_int asK_int asB_bool asP_ptr al_eq bx_eq len_slice onE_exit onE_ret onR_ret Value.cells d3 d22 d31 d60 d70 w70 w60 w3 w22 cell_new cell_set rd_new rd_set off eq lt le ifB gv out eqF1 eqF2 eqF3 eqF4 eqF5 eqF6 eqF7 eqF8 ext20 ext21

theorem SlR.blkLt {h : H} {e : TypeId} {s : Nat} {v : Value} {l : List (List Value)} (a : SlR h e s v l) : ∀ b, blkOf v = some b → b < h.nx := fun b hb => by
  cases a with
  | nil => cases hb
  | at_ hb' => cases hb; exact hb'

/-- What Last returns. -/
noncomputable def lastP (ln : List Nat) : List Int := if lifeF ln (beg ln) < 0 then [] else lastL ln (lifeF ln (beg ln)).toNat (beg ln)
noncomputable def lastE (ln : List Nat) : Int := if lifeF ln (beg ln) < 0 then 4 else 0

theorem bls0 (h : H) (K : Value → H → Option R) : bls Try.prog h 22 0 [] K = K (.slice (some ⟨h.nx, 0, none⟩) 0 0) (h.new (.row [] 3 true)) := bls_some (bls22e h)
theorem aq0 (h : H) (lo : Nat) (hlo : lo ≤ h.nx) : AqR lo (h.new (.row [] 3 true)) 3 1 (.slice (some ⟨h.nx, 0, none⟩) 0 0) (cellsI []) := AqR.lit (l := []) hlo rfl (by simp) (by simp)

theorem s24_bad {v0 : Value} {l : List Int} {h : H} (hl : SlR h 3 1 v0 (cellsI l)) (ht : tasksP l = false) : rn 24 #[v0] h = some (.tuple #[.slice none 0 0, iv 2], h) := by
  have c53 := fun (K : Value → H → Option (Value × H)) => calls_eq (K := K) (xs := [_]) (s53 hl)
  refine x24 (k := 0) (h1 := h) ?_ rfl
  simp [f24, c53, ht]

theorem s24 {v0 : Value} {ln : List Nat} {h : H} (hl : SlR h 3 1 v0 (cellsI (nI ln))) (ht : tasksP (nI ln) = true) :
    ∃ v' h', rn 24 #[v0] h = some (.tuple #[v', iv (lastE ln)], h') ∧ Ext h h' ∧ SlR h' 3 1 v' (cellsI (lastP ln)) := by
  have htI := tasks_I ht
  obtain ⟨hok, h5, hl1, hD, hDpos⟩ := taskI_ok htI
  have hok1 : ∀ x ∈ ln, 1 ≤ x := fun x hx => (hok x hx).1
  obtain ⟨hbeg, _⟩ := beg_spec hok1
  have c53 := fun (K : Value → H → Option (Value × H)) => calls_eq (K := K) (xs := [_]) (s53 hl)
  obtain ⟨h2, e54, x2, hM⟩ := s54 hl htI
  obtain ⟨av, v18, bl, vs, hb, hbn, ia, hav, hrows⟩ := hM.get hok1
  have c54 := fun (K : Value → H → Option (Value × H)) => calls_eq (K := K) (xs := [_]) e54
  -- the box of the machine
  have ka : ∀ (K : H → Option (Value × H)), (al h2 70 [.pointer none] fun h3 => st Try.prog h3 70 (AM.nx h2) 0 (pt h.nx 0) K) = K (h2.fresh 70 [.pointer none] [pt h.nx 0]) := fun K => al_st (zs := [.pointer none]) (xs := [pt h.nx 0]) sz70 rfl rfl
  have x4 : Ext h2 (h2.fresh 70 [.pointer none] [pt h.nx 0]) := (Ext.refl _).fresh _ _ _
  have hb4 : (h2.fresh 70 [.pointer none] [pt h.nx 0]).blk h2.nx = some (.row [pt h.nx 0] 70 true) := blk_fresh _ _ _ _
  have hn4 : (h2.fresh 70 [.pointer none] [pt h.nx 0]).nx = h2.nx + 1 := rfl
  generalize h2.fresh 70 [.pointer none] [pt h.nx 0] = h4 at *
  have m4 : MachAt h4 h2.nx h.nx ln v0 av v18 bl vs := by
    refine ⟨by omega, by omega, hb4, (x4.blk _ hbn).trans hb, ia.ext x4, hav.ext x4, fun j hj => ?_⟩
    obtain ⟨w, hw, hs⟩ := hrows j hj
    exact ⟨w, hw, hs.ext x4⟩
  have xx4 := x2.trans x4
  have c59 := fun (K : Value → H → Option (Value × H)) => calls_eq (K := K) (xs := [_]) (s59 (hl.ext xx4) htI)
  -- the box of the state
  have kb : ∀ (K : H → Option (Value × H)), (al h4 3 [iv 0] fun h3 => st Try.prog h3 3 (AM.nx h4) 0 (iv (beg ln)) K) = K (h4.fresh 3 [iv 0] [iv (beg ln)]) := fun K => al_st (zs := [iv 0]) (xs := [iv (beg ln)]) sz3 rfl rfl
  have x7 : Ext h4 (h4.fresh 3 [iv 0] [iv (beg ln)]) := (Ext.refl _).fresh _ _ _
  have hb7 : (h4.fresh 3 [iv 0] [iv (beg ln)]).blk h4.nx = some (.row [iv (beg ln)] 3 true) := blk_fresh _ _ _ _
  have hn7 : (h4.fresh 3 [iv 0] [iv (beg ln)]).nx = h4.nx + 1 := rfl
  generalize h4.fresh 3 [iv 0] [iv (beg ln)] = h7 at *
  have m7 := m4.ext x7
  have e1 : ∀ (K : Value → Option (Value × H)), (h7.cell h2.nx 0).bind K = K (pt h.nx 0) := fun K => by rw [cell_of m7.ptr]; rfl
  have e2 : ∀ (K : Value → Option (Value × H)), (h7.cell h.nx 2).bind K = K v18 := fun K => by rw [cell_of m7.mb]; rfl
  have e3 : ∀ (K : Value → Option (Value × H)), (h7.cell h4.nx 0).bind K = K (iv (beg ln)) := fun K => by rw [cell_of hb7]; rfl
  have e4 := fun (K : Value → Option (Value × H)) => m7.life hbeg K
  have hstart : ∀ (r : Option (Value × H)), (ld Try.prog h7 70 h2.nx 0 fun v4 => AM.nil v4 (asP v4 fun b0 b1 => ld Try.prog h7 22 b0 (AM.off b1 2) fun v5 => ld Try.prog h7 3 h4.nx 0 fun v6 => asI .i64 v6 fun n1 => six v5 n1 1 fun b2 b3 =>
      ld Try.prog h7 3 b2 b3 fun v7 => asI .i64 v7 fun n2 => ifB (AM.lt n2 0) (some ((.tuple #[(.slice none 0 0), (.int .i64 4)]), h7)) (bls Try.prog h7 22 0 [] fun v8 h8 => lp 200010 (f24_l1 rn 200010 h2 h4) [v8] h8 fun e0 ws1 h14 => onE e0 0 (some ((.tuple #[AM.gv ws1 0, (.int .i64 0)]), h14)) (none)))) = r → f24 rn 200010 v0 h = r := by
    intro r hr
    unfold f24
    rw [c53, ht]
    simp only [asB_bool, Bool.not_true, ifB_false]
    rw [c54]
    refine (ka _).trans ?_
    rw [c59]
    simp only [asI_int]
    refine (kb _).trans ?_
    exact hr
  by_cases hneg : lifeF ln (beg ln) < 0
  · refine ⟨.slice none 0 0, h7, ?_, xx4.trans x7, by unfold lastP; rw [if_pos hneg]; exact .nil⟩
    have : lastE ln = 4 := by unfold lastE; rw [if_pos hneg]
    rw [this]
    refine x24 (k := 200010) (hstart _ ?_) rfl
    simp [e1, nilp, e2, e3, e4, hneg]
  · obtain ⟨n, hn⟩ := Int.eq_ofNat_of_zero_le (show 0 ≤ lifeF ln (beg ln) by omega)
    have hlE : lastE ln = 0 := by unfold lastE; rw [if_neg hneg]
    have hlP : lastP ln = lastL ln n (beg ln) := by unfold lastP; rw [if_neg hneg, hn, Int.toNat_natCast]
    have x8 : Ext h7 (h7.new (.row [] 3 true)) := .new _ _
    obtain ⟨e, ws', g', hlp, rfl, out, rfl, xg, haq⟩ := lpGo_inv (F := f24_l1 rn 200010 h2 h4)
      (fun d ws g => ∃ c done out, c < prodN ln ∧ lifeF ln c = (d : Nat) ∧ Ext h4 g ∧ h7.nx ≤ g.nx ∧ g.blk h4.nx = some (.row [iv c] 3 true) ∧ AqR h7.nx g 3 1 out (cellsI done) ∧ done ++ lastL ln d c = lastL ln n (beg ln) ∧ ws = [out] ∧ done.length + d ≤ 20000)
      (fun e ws g => e = .exit 0 ∧ ∃ out, ws = [out] ∧ Ext h4 g ∧ AqR h7.nx g 3 1 out (cellsI (lastL ln n (beg ln))))
      (by
        rintro d ws g ⟨c, done, out, hc, hlc, xg, hng, hB, haq, htot, rfl, hlen⟩
        have mg := m4.ext xg
        have q1 : ∀ (K : Value → Option (Ex × List Value × H)), (g.cell h2.nx 0).bind K = K (pt h.nx 0) := fun K => by rw [cell_of mg.ptr]; rfl
        have q2 : ∀ (K : Value → Option (Ex × List Value × H)), (g.cell h.nx 2).bind K = K v18 := fun K => by rw [cell_of mg.mb]; rfl
        have q3 : ∀ (K : Value → Option (Ex × List Value × H)), (g.cell h4.nx 0).bind K = K (iv c) := fun K => by rw [cell_of hB]; rfl
        have q4 := fun (K : Value → Option (Ex × List Value × H)) => mg.life hc K
        cases d with
        | zero =>
          refine ⟨.exit 0, [out], g, ?_, .inr ⟨by simp, rfl, out, rfl, xg, ?_⟩⟩
          · simp [f24_l1, q1, nilp, q2, q3, q4, hlc]
          · rw [← htot]; simpa [lastL] using haq
        | succ d =>
          have hpos : 0 < lifeF ln c := by omega
          obtain ⟨hany, hpl, t, htD, haft, hlt, _⟩ := pick_ok hok1 hc hpos
          have q5 : ∀ (K : Value → Option (Ex × List Value × H)), (g.cell h.nx 1).bind K = K av := fun K => by rw [cell_of mg.mb]; rfl
          obtain ⟨w, q6, hw⟩ := mg.row hc
          have q7 := fun (K : Value → H → Option (Ex × List Value × H)) => calls_eq (K := K) (xs := [w, .func (.func 61) #[] #[pt h2.nx 0, pt h4.nx 0]])
            (s60 (fn := 61) (xs := []) (ys := [pt h2.nx 0, pt h4.nx 0]) (p := goodL ln c) hw rfl (fun x hx => s61 hok1 mg hB hc (by omega) (row_ok hok1 c x hx)))
          have hidx : idxP (goodL ln c) (rowP ln c) = (pick ln c : Nat) := by unfold idxP pick; rw [if_pos hany]
          rw [hidx] at q7
          obtain ⟨out', g3, e9, a9, n9, k9, b9, hb9, hb9'⟩ := haq.push app22 app22 (bls22 (pick ln c : Int)) rfl rfl (by simp; omega) hng
          have hk : ∀ b, b < h7.nx → g3.blk b = g.blk b := fun b hb => k9 b (by omega) (fun e => by have := (haq.blkOf e).1; omega)
          have x3 : Ext h4 g3 := ⟨by omega, fun b hb => (hk b (by omega)).trans (xg.blk b hb)⟩
          have m3 := m4.ext x3
          have hB3 := (hk h4.nx (by omega)).trans hB
          have r1 : ∀ (K : Value → Option (Ex × List Value × H)), (g3.cell h2.nx 0).bind K = K (pt h.nx 0) := fun K => by rw [cell_of m3.ptr]; rfl
          have r2 : ∀ (K : Value → Option (Ex × List Value × H)), (g3.cell h.nx 1).bind K = K av := fun K => by rw [cell_of m3.mb]; rfl
          have r3 : ∀ (K : Value → Option (Ex × List Value × H)), (g3.cell h4.nx 0).bind K = K (iv c) := fun K => by rw [cell_of hB3]; rfl
          obtain ⟨w3', r4, hw3⟩ := m3.row hc
          have hrow : (rowP ln c)[pick ln c]? = some (t : Int) := by
            unfold rowP
            rw [List.getElem?_map, List.getElem?_range hpl, ← haft]; rfl
          have r5 : ∀ (K : Value → Option (Ex × List Value × H)), (six w3' (pick ln c : Int) 1 fun b o => (g3.cell b o).bind K) = K (iv (t : Int)) := fun K => hw3.c0 (by omega) (x := [iv (t : Int)]) (by rw [Int.toNat_natCast, List.getElem?_map, hrow]; rfl) rfl K
          have r6 : ∀ (K : H → Option (Ex × List Value × H)), (wrc 1 g3 h4.nx 0 (.int .i64 (t : Int))).bind K = K (g3.set h4.nx (.row [iv (t : Int)] 3 true)) := fun K => by rw [wrc_one hB3 rfl rfl (by simp)]; rfl
          have hcons : cellsI (done ++ [(pick ln c : Int)]) = cellsI done ++ [[iv (pick ln c : Int)]] := by simp
          rw [← hcons] at a9
          refine ⟨.normal, [out'], g3.set h4.nx (.row [iv (t : Int)] 3 true), ?_, .inl ⟨rfl, d, by omega, t, done ++ [(pick ln c : Int)], out', htD, by omega, ⟨by show h4.nx ≤ g3.nx; omega, fun b hb => (blk_set_ne _ _ _ (by omega)).trans (x3.blk b hb)⟩, by show h7.nx ≤ g3.nx; omega, blk_set_self _ _ _, ?_, ?_, rfl, by simp; omega⟩⟩
          · have ee : ∀ (K : Value → H → Option (Ex × List Value × H)), (bls Try.prog g 22 1 [(0, iv (pick ln c : Int))] fun y h2 => app Try.prog h2 22 22 out y K) = K out' g3 := fun K => e9 K
            simp [f24_l1, q1, nilp, q2, q3, q4, hpos, q5, q6, q7, ee, r1, r2, r3, r4, r5, r6]
          · exact a9.keep (Nat.le_refl _) fun b hb => blk_set_ne _ _ _ (by have := (a9.blkOf hb).1; omega)
          · rw [← htot]
            simp only [lastL, haft, Int.toNat_natCast, List.append_assoc, List.singleton_append])
      n 200010 (by have := lifeF_lt hok1 hbeg; omega) ⟨beg ln, [], .slice (some ⟨h7.nx, 0, none⟩) 0 0, hbeg, hn, x7.trans x8, Nat.le_succ _, (x8.blk _ (by omega)).trans hb7, aq0 h7 _ (Nat.le_refl _), rfl, rfl, by have := lifeF_lt hok1 hbeg; simp; omega⟩
    refine ⟨out, g', ?_, xx4.trans xg, by rw [hlP]; exact haq.slR⟩
    rw [hlE]
    refine x24 (k := 200010) (hstart _ ?_) haq.slR.notR2
    simp only [d70, e1, nilp, asP_ptr, d22, AM.off, Nat.zero_add, e2, d3, e3, asI_int, e4, AM.lt, decide_eq_false hneg, ifB_false, bls0]
    refine (lp_eq hlp).trans ?_
    rfl

theorem s25 {v0 : Value} {ln : List Nat} {h : H} (hl : SlR h 3 1 v0 (cellsI (nI ln))) (htI : TaskI (nI ln)) :
    ∃ v' h', rn 25 #[v0] h = some (.tuple #[v', iv (lastE ln)], h') ∧ Ext h h' ∧ SlR h' 3 1 v' (cellsI (lastP ln)) := by
  obtain ⟨hok, h5, hl1, hD, hDpos⟩ := taskI_ok htI
  have hok1 : ∀ x ∈ ln, 1 ≤ x := fun x hx => (hok x hx).1
  obtain ⟨hbeg, hbs⟩ := beg_spec hok1
  obtain ⟨v1, h1, bl, e62, x1, ia⟩ := s62 hl htI
  have c62 := fun (K : Value → H → Option (Value × H)) => calls_eq (K := K) (xs := [_]) e62
  have hl' := hl.ext x1
  have hstb := state_ok hok1 (beg ln)
  rw [hbs] at hstb
  have e63 := s63 hl' hl' htI hstb
  have hcb := code_state hok1 hbeg
  rw [hbs] at hcb
  rw [hcb] at e63
  have c63 := fun (K : Value → H → Option (Value × H)) => calls_eq (K := K) (xs := [_, _]) e63
  have e3 : ∀ (K : Value → Option (Value × H)), (six v1 (beg ln : Int) 1 fun b o => (h1.cell b o).bind K) = K (iv (lifeF ln (beg ln))) := fun K => ia.get (by omega) (by rw [Int.toNat_natCast]; exact mapr_get _ hbeg) K
  by_cases hneg : lifeF ln (beg ln) < 0
  · refine ⟨.slice none 0 0, h1, ?_, x1, by unfold lastP; rw [if_pos hneg]; exact .nil⟩
    have : lastE ln = 4 := by unfold lastE; rw [if_pos hneg]
    rw [this]
    refine x25 (k := 200010) ?_ rfl
    simp [f25, c62, c63, e3, hneg]
  · obtain ⟨n, hn⟩ := Int.eq_ofNat_of_zero_le (show 0 ≤ lifeF ln (beg ln) by omega)
    have hlE : lastE ln = 0 := by unfold lastE; rw [if_neg hneg]
    have hlP : lastP ln = lastL ln n (beg ln) := by unfold lastP; rw [if_neg hneg, hn, Int.toNat_natCast]
    have x8 : Ext h1 (h1.new (.row [] 3 true)) := .new _ _
    have hL := lifeF_is hok1
    obtain ⟨e, ws', g', hlp, rfl, w1, out, w2, rfl, xg, haq⟩ := lpGo_inv (F := f25_l1 rn 200010 v0 v1)
      (fun d ws g => ∃ c done sv out, c < prodN ln ∧ lifeF ln c = (d : Nat) ∧ Ext h1 g ∧ SlR g 3 1 sv (cellsI (nI (stateP ln c))) ∧ AqR h1.nx g 3 1 out (cellsI done) ∧ (∀ b, blkOf sv = some b → blkOf out ≠ some b) ∧ done ++ lastL ln d c = lastL ln n (beg ln) ∧ ws = [sv, out, iv (d : Nat)] ∧ done.length + d ≤ 20000)
      (fun e ws g => e = .exit 0 ∧ ∃ w1 out w2, ws = [w1, out, w2] ∧ Ext h1 g ∧ AqR h1.nx g 3 1 out (cellsI (lastL ln n (beg ln))))
      (by
        rintro d ws g ⟨c, done, sv, out, hc, hlc, xg, hsv, haq, hne, htot, rfl, hlen⟩
        cases d with
        | zero =>
          refine ⟨.exit 0, [sv, out, iv 0], g, ?_, .inr ⟨by simp, rfl, sv, out, iv 0, rfl, xg, ?_⟩⟩
          · simp [f25_l1]
          · rw [← htot]; simpa [lastL] using haq
        | succ d =>
          have hpos : 0 < lifeF ln c := by omega
          obtain ⟨hany, hpl, t, htD, haft, hlt, hbefore⟩ := pick_ok hok1 hc hpos
          obtain ⟨_, hlow, _⟩ := (hL c hc).2 (by omega)
          have hst := state_ok hok1 c
          have hn0 : ∀ (K : Int → Option (Ex × List Value × H)), len v0 K = K (ln.length : Int) := fun K => by rw [hl.len]; simp
          have hsubd : sub .i64 ((d : Int) + 1) 1 = (d : Int) := by rw [sub64 (by omega) (by omega)]; omega
          -- over the tasks
          obtain ⟨e, ws', g2, hin, rfl, sv', out', rfl, xg2, hsv', haq', hne'⟩ := lpGo_inv (F := f25_l2 rn 200010 v0 v1 [sv, out, iv ((d : Int) + 1)] ln.length)
            (fun m ws g2 => ∃ i, i ≤ pick ln c ∧ m = pick ln c - i ∧ ws = [sv, out, iv (i : Nat)] ∧ Ext g g2)
            (fun e ws g2 => e = .exit 2 ∧ ∃ sv' out', ws = [sv', out', iv (pick ln c : Nat)] ∧ Ext h1 g2 ∧ SlR g2 3 1 sv' (cellsI (nI (stateP ln t))) ∧ AqR h1.nx g2 3 1 out' (cellsI (done ++ [(pick ln c : Int)])) ∧ ∀ b, blkOf sv' = some b → blkOf out' ≠ some b)
            (by
              rintro m ws g2 ⟨i, hi, rfl, rfl, xg2⟩
              have x12 := xg.trans xg2
              have hadd : add .i64 (i : Int) 1 = (i : Int) + 1 := add64 (by omega) (by omega)
              obtain ⟨v5, q, g3, e64, x3, hN, hfresh⟩ := s64F (task := (i : Int)) (hl'.ext x12) (hsv.ext xg2) htI hst
              have c64 := fun (K : Value → H → Option (Ex × List Value × H)) => calls_eq (K := K) (xs := [_, _, _]) e64
              have hil : i < ln.length := by omega
              have haf : aftP ln c i = match nextP (nI ln) (nI (stateP ln c)) (i : Int) with | none => -1 | some o => codeP (nI ln) o := rfl
              cases ho : nextP (nI ln) (nI (stateP ln c)) (i : Int) with
              | none =>
                rw [ho] at hN haf
                obtain ⟨rfl, rfl⟩ := hN
                have hip : i ≠ pick ln c := fun e => by rw [e, haft] at haf; simp only at haf; omega
                refine ⟨.normal, [sv, out, iv ((i : Int) + 1)], g3, ?_, .inl ⟨rfl, pick ln c - (i + 1), by omega, i + 1, by omega, rfl, rfl, xg2.trans x3⟩⟩
                simp [f25_l2, hil, c64, hadd]
              | some o =>
                rw [ho] at hN haf
                obtain ⟨hso, rfl, hown⟩ := hN
                have hno := next_ok (fun x hx => (htI.rng x hx).1) hst ho
                have x13 := x12.trans x3
                have e63' := s63 (hl'.ext x13) hso htI hno
                obtain ⟨t', ht'D, ht'c, rfl⟩ := st_num hno
                rw [ht'c] at e63'
                simp only [ht'c] at haf
                have c63' := fun (K : Value → H → Option (Ex × List Value × H)) => calls_eq (K := K) (xs := [_, _]) e63'
                have e9 : ∀ (K : Value → Option (Ex × List Value × H)), (six v1 (t' : Int) 1 fun b o => (g3.cell b o).bind K) = K (iv (lifeF ln t')) := fun K => (ia.ext x13).get (by omega) (by rw [Int.toNat_natCast]; exact mapr_get _ ht'D) K
                have hsub : sub .i64 ((d : Int) + 1) 1 = (d : Int) := hsubd
                by_cases hip : i = pick ln c
                · have htt : t' = t := by rw [hip, haft] at haf; omega
                  subst htt
                  have hnl : ¬ lifeF ln t' < (d : Int) := by omega
                  have haq3 : AqR h1.nx g3 3 1 out (cellsI done) := (haq.ext xg2).ext x3
                  obtain ⟨out', g4, e10, a10, n10, k10, b10, hb10, hb10'⟩ := haq3.push app22 app22 (bls22 (i : Int)) rfl rfl (by simp; omega) x13.nx
                  have ee : ∀ (K : Value → H → Option (Ex × List Value × H)), (bls Try.prog g3 22 1 [(0, iv (i : Int))] fun y h2 => app Try.prog h2 22 22 out y K) = K out' g4 := fun K => e10 K
                  have hcons : cellsI (done ++ [(i : Int)]) = cellsI done ++ [[iv (i : Int)]] := by simp
                  rw [← hcons] at a10
                  obtain ⟨b5, hia5⟩ := hown
                  have hb5 : blkOf v5 = some b5 := by obtain ⟨c5, h6, _⟩ := hia5.val; rw [h6]; rfl
                  refine ⟨.exit 2, [v5, out', iv (i : Int)], g4, ?_, .inr ⟨by simp, rfl, v5, out', by rw [hip], ⟨by have := x13.nx; omega, fun b hb => ?_⟩, ?_, by rw [← hip]; exact a10, fun b hb he => ?_⟩⟩
                  · simp [f25_l2, hil, c64, c63', e9, hsub, hnl, ee]
                  · rw [k10 b (by have := x13.nx; omega) (fun e => by have := (haq3.blkOf e).1; omega)]
                    exact x13.blk b hb
                  · refine hso.keepB n10 fun b hb => k10 b (hso.blkLt b hb) (fun e => by
                      have h1 := hfresh b hb
                      have h2 := ((haq.ext xg2).blkOf e).2.1
                      omega)
                  · rw [hb10] at he
                    have he' := Option.some.inj he
                    have := hso.blkLt b hb
                    omega
                · have hgl := hbefore i (by omega)
                  rw [haf] at hgl
                  have hmem : t' ∈ tosP ln c := (mem_tos hok1).2 ⟨i, hil, ht'D, ho⟩
                  have hlow' := hlow t' hmem
                  have hne1 : ¬ ((t' : Int) = -1) := by omega
                  have hneq : ¬ lifeF ln t' = lifeF ln c - 1 := fun e => by
                    unfold goodL at hgl
                    simp [hne1, e] at hgl
                  have hltd : lifeF ln t' < (d : Int) := by omega
                  refine ⟨.normal, [sv, out, iv ((i : Int) + 1)], g3, ?_, .inl ⟨rfl, pick ln c - (i + 1), by omega, i + 1, by omega, rfl, rfl, xg2.trans x3⟩⟩
                  simp [f25_l2, hil, c64, c63', e9, hsub, hltd, hadd])
            (pick ln c) 200010 (by omega) ⟨0, Nat.zero_le _, rfl, rfl, .refl _⟩
          refine ⟨.normal, [sv', out', iv (d : Nat)], g2, ?_, .inl ⟨rfl, d, by omega, t, done ++ [(pick ln c : Int)], sv', out', htD, by omega, xg2, hsv', haq', hne', ?_, rfl, by simp; omega⟩⟩
          · have hlt0 : AM.lt 0 ((d : Int) + 1) = true := by simp
            have hd1 : (((d + 1 : Nat) : Int)) = (d : Int) + 1 := by omega
            unfold f25_l1
            simp only [AM.gv, List.getD_cons_succ, List.getD_cons_zero, asI_int, hd1, hlt0, ifB_true, hn0]
            refine (lp_eq hin).trans ?_
            simp [hsubd]
          · rw [← htot]
            simp only [lastL, haft, Int.toNat_natCast, List.append_assoc, List.singleton_append])
      n 200010 (by have := lifeF_lt hok1 hbeg; omega) ⟨beg ln, [], v0, .slice (some ⟨h1.nx, 0, none⟩) 0 0, hbeg, hn, x8, by rw [hbs]; exact hl'.ext x8, aq0 h1 _ (Nat.le_refl _), fun b hb he => by cases he; have := hl'.blkLt _ hb; omega, rfl, rfl, by have := lifeF_lt hok1 hbeg; simp; omega⟩
    refine ⟨out, g', ?_, x1.trans xg, by rw [hlP]; exact haq.slR⟩
    rw [hlE]
    refine x25 (k := 200010) ?_ haq.slR.notR2
    unfold f25
    rw [c62, c63]
    simp only [asI_int, d3, e3, AM.lt, decide_eq_false hneg, ifB_false, bls0]
    rw [show lifeF ln (beg ln) = ((n : Nat) : Int) from hn]
    refine (lp_eq hlp).trans ?_
    rfl

theorem s6 {v0 : Value} {l : List Int} {h : H} (hl : SlR h 3 1 v0 (cellsI l)) : ∃ h', rn 6 #[v0] h = some (.bool true, h') := by
  suffices hh : ∃ h', f6 rn 0 v0 h = some (.bool true, h') by
    obtain ⟨h', e⟩ := hh
    exact ⟨_, t6 e⟩
  obtain ⟨a1, h1, q1, x1, z1⟩ := s18 hl
  have c1 := fun (K : Value → H → Option (Value × H)) => calls_eq (K := K) (xs := [_]) q1
  cases ht : tasksP l with
  | false =>
    have c2 := fun (K : Value → H → Option (Value × H)) => calls_eq (K := K) (xs := [_]) (s24_bad z1 (by rw [tasks_take]; exact ht))
    have c3 := fun (K : Value → H → Option (Value × H)) => calls_eq (K := K) (xs := [_]) (s21 (hl.ext x1))
    exact ⟨h1, by simp [f6, c1, c2, c3, ht, k19]⟩
  | true =>
    have htI := tasks_I ht
    obtain ⟨ln, rfl, htk⟩ := tasks_ln ht
    rw [htk] at z1
    obtain ⟨v3, h2, q2, x2, z2⟩ := s24 z1 ht
    have x12 := x1.trans x2
    have c2 := fun (K : Value → H → Option (Value × H)) => calls_eq (K := K) (xs := [_]) q2
    have c3 := fun (K : Value → H → Option (Value × H)) => calls_eq (K := K) (xs := [_]) (s21 (hl.ext x12))
    obtain ⟨v8, h5, q3, x3, z3⟩ := s25 (hl.ext x12) htI
    have c4 := fun (K : Value → H → Option (Value × H)) => calls_eq (K := K) (xs := [_]) q3
    have c5 := fun (K : Value → H → Option (Value × H)) => calls_eq (K := K) (xs := [_, _]) (s26 (z2.ext x3) z3)
    exact ⟨h5, by simp [f6, c1, c2, c3, c4, c5, ht, k19]⟩

end Go.AM
