/- CallsFound, on the abstract machine. -/
import Derived.Test.YthmfjfblndophaaCy
namespace Go.AM
open Go.Proofs

variable {R : Type}

attribute [local simp] nx_eq nx_new nx_set blk_new blk_set asI_int asK_int asB_bool asP_ptr al_eq bx_eq len_slice onE_exit onE_ret onR_ret Value.cells d3 d29 d31 d56 d24 d59 d22 d25 d60 w3 w25 w60 cell_new cell_set rd_new rd_set off eq lt le ifB gv out eqF1 eqF2 eqF3 eqF4 eqF5 eqF6 eqF7 eqF8 ext20 ext21 k42 k72 k73 k74 asP_pt

theorem fr_h (h : H) (b : Nat) {n : Nat} (hb : b < n) : freq b n (same h h) = true := by simp [freq, same, hb]


theorem s8 {n s t : Int} {sl v1 : Value} {l : List Cl} {w : List Int} {h : H} (hs : SlR h 59 3 sl (l.map Cl.cells)) (hw : SlR h 3 1 v1 (cellsI w)) : ∃ h', rn 8 #[.agg #[iv n, sl], iv s, iv t, v1] h = some (.bool true, h') := by
  have x1 : Ext h (h.new (.row [iv n, sl] 24 true)) := .new _ _
  have b1 : (h.new (.row [iv n, sl] 24 true)).blk h.nx = some (.row [iv n, sl] 24 true) := blk_new_self _ _
  have n1 : h.nx < (h.new (.row [iv n, sl] 24 true)).nx := Nat.lt_succ_self _
  have start : ∃ h1, f8 rn 4 (.agg #[iv n, sl]) s t v1 h = some (.bool true, h1) := by
    unfold f8
    rw [bx_eq, nx_eq, show (Value.agg #[iv n, sl]).cells.toList = [iv n, sl] from rfl]
    generalize h.new (.row [iv n, sl] 24 true) = h1 at *
    have ld1 : ∀ (g : H), Ext h1 g → ∀ (K : Value → Option (Value × H)), ld Try.prog g 24 h.nx 0 K = K (.agg #[iv n, sl]) := fun g x K => by
      rw [d24, rd_all (n := 2) ((x.blk _ n1).trans b1) rfl]; rfl
    obtain ⟨la, h2, e2, x2, s2⟩ := s18 (n := n) (hs.ext x1)
    rw [ld1 _ (.refl _), calls_eq (xs := [_]) e2]
    cases hp : pairP n l s t with
    | true =>
      obtain ⟨⟨⟨hv, hsn⟩, htn⟩, hst⟩ : ((validP n l = true ∧ (0 ≤ s ∧ s < n)) ∧ (0 ≤ t ∧ t < n)) ∧ s ≠ t := by simpa [pairP] using hp
      obtain ⟨hn1, hn7, hl24, hok⟩ := validP_ok hv
      have hl : l.take 26 = l := List.take_of_length_le (by omega)
      rw [hl] at s2
      obtain ⟨va, ea, h3, e3, x3, ba⟩ := s17 s2 hp
      rw [calls_eq (xs := [_, _, _]) e3, ext20, ext21, asI_int]
      have x13 := x2.trans x3
      rw [ld1 _ x13]
      obtain ⟨lb, h4, e4, x4, s4⟩ := s18 (n := n) (hs.ext (x1.trans x13))
      rw [calls_eq (xs := [_]) e4]
      rw [hl] at s4
      have x14 := x13.trans x4
      obtain ⟨vb, eb, h5, e5, x5, bb⟩ := s19 s4 hp
      rw [calls_eq (xs := [_, _, _]) e5, ext20, ext21, asI_int]
      have x15 := x14.trans x5
      rw [ld1 _ x15]
      obtain ⟨lc, h6, e6, x6, s6⟩ := s18 (n := n) (hs.ext (x1.trans x15))
      rw [calls_eq (xs := [_]) e6]
      rw [hl] at s6
      have x16 := x15.trans x6
      obtain ⟨vc, ec, h7, e7, x7, bc⟩ := s20 s6 hp
      rw [calls_eq (xs := [_, _, _]) e7, ext20, ext21, asI_int]
      have x17 := x16.trans x7
      rw [ld1 _ x17]
      obtain ⟨ld_, h8, e8, x8, s8⟩ := s18 (n := n) (hs.ext (x1.trans x17))
      rw [calls_eq (xs := [_]) e8]
      rw [hl] at s8
      have x18 := x17.trans x8
      obtain ⟨vd, h9, bA, e9, x9, hlo9, ia⟩ := s45 s8 hv hsn
      rw [calls_eq (xs := [_, _]) e9, ext20, ext21, asI_int]
      have x19 := x18.trans x9
      rw [ld1 _ x19]
      obtain ⟨le_, h10, e10, x10, s10⟩ := s18 (n := n) (hs.ext (x1.trans x19))
      rw [calls_eq (xs := [_]) e10]
      rw [hl] at s10
      have x110 := x19.trans x10
      obtain ⟨ve, h11, e11, x11, sN⟩ := s37 s10 hv
      rw [calls_eq (xs := [_]) e11, ext20, ext21, asI_int]
      have x111 := x110.trans x11
      rw [ld1 _ x111]
      obtain ⟨lf, h12, e12, x12, s12⟩ := s18 (n := n) (hs.ext (x1.trans x111))
      rw [calls_eq (xs := [_]) e12]
      rw [hl] at s12
      have x112 := x111.trans x12
      obtain ⟨vw, h13, e13, x13', sw⟩ := s28 (hw.ext (x1.trans x112))
      rw [calls_eq (xs := [_]) e13]
      have x113 := x112.trans x13'
      rw [show (cellsI w).take 26 = cellsI (w.take 26) from List.map_take.symm] at sw
      have e14 := s27 (n := n) (s := s) (t := t) (s12.ext x13') sw
      rw [calls_eq (xs := [_, _, _, _]) e14, ext20, asB_bool, ext21, asI_int, hp]
      -- what holds of the ways
      have hN := newsP_len n.toNat l
      have hA : (arriveP n.toNat l s).length = n.toNat := by rw [arrive_K, arrK_len]
      have ia' := ia.ext (x10.trans (x11.trans (x12.trans x13')))
      have sN' := sN.ext (x12.trans x13')
      have hb' : h13.blk h.nx = some (.row [iv n, sl] 24 true) := (x113.blk _ n1).trans b1
      have hs' := hs.ext (x1.trans x113)
      have hw' := hw.ext (x1.trans x113)
      have ba' := ba.slR.1.ext (x4.trans (x5.trans (x6.trans (x7.trans (x8.trans (x9.trans (x10.trans (x11.trans (x12.trans x13')))))))))
      have bb' := bb.slR.1.ext (x6.trans (x7.trans (x8.trans (x9.trans (x10.trans (x11.trans (x12.trans x13')))))))
      have bc' := bc.slR.1.ext (x8.trans (x9.trans (x10.trans (x11.trans (x12.trans x13')))))
      have hlen20 : ∀ (K : Int → Option (Value × H)), len vd K = K n := fun K => by rw [ia.len, hA]; congr 1; omega
      have hlen25 : ∀ (K : Int → Option (Value × H)), len ve K = K n := fun K => by rw [sN.len]; congr 1; simp [hN]; omega
      have ld0 : ∀ (K : Value → Option (Value × H)), ld Try.prog h13 3 h.nx 0 K = K (iv n) := fun K => by rw [d3, cell_of hb']; rfl
      have iN : (newsP n.toNat l)[t.toNat]? = some ((newsP n.toNat l).getD t.toNat 0) := by
        have h0 := List.getElem?_eq_getElem (show t.toNat < (newsP n.toNat l).length by omega)
        rw [List.getD_eq_getElem?_getD, h0]
        rfl
      have iA : (arriveP n.toNat l s)[t.toNat]? = some (atT n l s t) := by
        unfold atT atP
        have h0 := List.getElem?_eq_getElem (show t.toNat < (arriveP n.toNat l s).length by omega)
        rw [List.getD_eq_getElem?_getD, h0]
        rfl
      have e20 : ∀ (K : Value → Option (Value × H)), (six vd t 1 fun b o => ld Try.prog h13 3 b o K) = K (iv (atT n l s t)) := fun K => by
        simp only [d3]; exact ia'.get htn.1 iA K
      have e25 : ∀ (K : Value → Option (Value × H)), (six ve t 1 fun b o => ld Try.prog h13 3 b o K) = K (iv ((newsP n.toNat l).getD t.toNat 0)) := fun K => by
        simp only [d3]; exact sN'.c0 htn.1 (x := [_]) (by rw [List.getElem?_map, iN]; rfl) rfl K
      have hbit := news_bit hv hsn htn
      have hnn := at_nonneg hv hsn htn
      have hiff := at_iff hv hsn htn hst
      rw [if_pos rfl, Bool.true_and, eq_t rfl, Bool.not_true, ifB_false, hlen20, ld0, asI_int, eq_t rfl, Bool.not_true, ifB_false, hlen25, ld0, asI_int, eq_t rfl, Bool.not_true, ifB_false, ifB_false, ifB_false]
      by_cases hAll : allWays l s t = []
      · have hno : ∀ k, bestP (ofK l k) l s t = none := fun k => by unfold bestP; rw [hAll]; rfl
        have hatn : ¬ 0 ≤ atT n l s t := fun q => hiff.1 (hnn.1 q) hAll
        have hbit' := hbit.trans (if_neg (fun q => hiff.1 q hAll))
        have ee := ba.slR.2; rw [hno, if_pos rfl] at ee
        have ef := bb.slR.2; rw [hno, if_pos rfl] at ef
        have eg := bc.slR.2; rw [hno, if_pos rfl] at eg
        subst ee ef eg
        have hck : checkP l s t (w.take 26) = false := by
          cases hc : checkP l s t (w.take 26) with
          | false => rfl
          | true =>
            have := (mem_all (n := n) hv hst _).2 hc
            rw [hAll] at this
            cases this
        refine ⟨h13, ?_⟩
        rw [eq_t rfl, Bool.not_true, ifB_false, ifB_false, e20, asI_int, keqv4]
        have c1 : (eq 4 0 == le 0 (atT n l s t)) = true := by simp [eq, le, hatn]
        rw [c1, Bool.not_true, ifB_false, e20, asI_int, e25, asI_int, nn_ge hsn.1, keqv4]
        have c2 : (le 0 (atT n l s t) == eq (and .i64 (shr .i64 ((newsP n.toNat l).getD t.toNat 0) s) 1) 1) = true := by
          rw [hbit']; simp [eq, le, hatn]
        rw [c2, Bool.not_true, ifB_false, hck]
        simp [k22]
      · have hso : ∀ k, ∃ b, bestP (ofK l k) l s t = some b := fun k => by
          cases hb : bestP (ofK l k) l s t with
          | none => exact absurd (best_none hb) hAll
          | some b => exact ⟨b, rfl⟩
        obtain ⟨w0, hw0⟩ := hso 0
        obtain ⟨w1, hw1⟩ := hso 1
        obtain ⟨w2, hw2⟩ := hso 2
        have hat : 0 ≤ atT n l s t := hnn.2 (hiff.2 hAll)
        have hbit' := hbit.trans (if_pos (hiff.2 hAll))
        have hab := at_best hv hsn htn hst hw0
        obtain ⟨m0, q0⟩ := best_some hw0
        obtain ⟨m1, q1⟩ := best_some hw1
        obtain ⟨m2, q2⟩ := best_some hw2
        have o0 := allWays_ok w0 m0
        have o1 := allWays_ok w1 m1
        have o2 := allWays_ok w2 m2
        have ee := ba.slR.2; rw [hw0, if_neg (by simp)] at ee
        have ef := bb.slR.2; rw [hw1, if_neg (by simp)] at ef
        have eg := bc.slR.2; rw [hw2, if_neg (by simp)] at eg
        subst ee ef eg
        rw [hw0] at ba'
        rw [hw1] at bb'
        rw [hw2] at bc'
        simp only [Option.getD_some] at ba' bb' bc'
        rw [eq_t rfl, Bool.not_true, ifB_false, ifB_false, e20, asI_int, keqv4]
        have c1 : (true == le 0 (atT n l s t)) = true := by simp [le, hat]
        rw [c1, Bool.not_true, ifB_false, e20, asI_int, e25, asI_int, nn_ge hsn.1, keqv4]
        have c2 : (le 0 (atT n l s t) == eq (and .i64 (shr .i64 ((newsP n.toNat l).getD t.toNat 0) s) 1) 1) = true := by
          rw [hbit']; simp [eq, le, hat]
        rw [c2, Bool.not_true, ifB_false, ifB_false]
        -- the three ways are checked
        obtain ⟨p0, r0, k0, z0, hva⟩ := someSl ba' o0.1
        obtain ⟨p1, r1, k1, z1, hvb⟩ := someSl bb' o1.1
        obtain ⟨p2, r2, k2, z2, hvc⟩ := someSl bc' o2.1
        have x19' : Ext h13 (h13.new (.row [va, vb, vc] 25 true)) := .new _ _
        have bn : (h13.new (.row [va, vb, vc] 25 true)).blk h13.nx = some (.row [va, vb, vc] 25 true) := blk_new_self _ _
        have nn13 : (h13.new (.row [va, vb, vc] 25 true)).nx = h13.nx + 1 := rfl
        have kb : ∀ (K : Value → H → Option (Value × H)), bls Try.prog h13 58 3 [(0, va), (1, vb), (2, vc)] K = K (.slice (some ⟨h13.nx, 0, none⟩) 3 3) (h13.new (.row [va, vb, vc] 25 true)) := fun K => by
          rw [hva, hvb, hvc]; exact bls_some (bls583 _ _ _ _ _ _ _ _ _ _ _ _ _)
        rw [kb, len_slice]
        generalize h13.new (.row [va, vb, vc] 25 true) = h19 at *
        have hlt : h.nx < h13.nx := Nat.lt_of_lt_of_le n1 x113.nx
        have hvs : SlR h19 25 1 (.slice (some ⟨h13.nx, 0, none⟩) 3 3) (cellsV [va, vb, vc]) :=
          SlR.at_ (l := cellsV [va, vb, vc]) (by omega) bn (show 3 ≤ capK 3 by decide) (by decide) (show 0 + 3 * 1 ≤ 3 by decide) (fun i x hx => by
            rcases i with _ | _ | _ | i
            · simp at hx; subst hx; exact ⟨rfl, fun j hj => by rw [show j = 0 by omega]; rfl⟩
            · simp at hx; subst hx; exact ⟨rfl, fun j hj => by rw [show j = 0 by omega]; rfl⟩
            · simp at hx; subst hx; exact ⟨rfl, fun j hj => by rw [show j = 0 by omega]; rfl⟩
            · simp at hx)
        have hss : SsR h19 [va, vb, vc] [w0, w1, w2] := ⟨rfl, fun j v x hj hx => by
            rcases j with _ | _ | _ | j
            · simp at hj hx; subst hj hx; exact ba'.ext x19'
            · simp at hj hx; subst hj hx; exact bb'.ext x19'
            · simp at hj hx; subst hj hx; exact bc'.ext x19'
            · simp at hj⟩
        obtain ⟨h23, x23, el⟩ := loop8 (h := h) (n := n) (s := s) (t := t) (by omega) ((x19'.blk _ hlt).trans hb') (hs'.ext x19') hp hvs rfl hss (by simp [m0, m1, m2])
        rw [show ((3 : Nat) : Int) = 3 from rfl, lp_eq el, onE_exit, if_pos rfl]
        have X := x19'.trans x23
        have hn23 : h.nx < h23.nx := Nat.lt_of_lt_of_le hlt X.nx
        have g0 := ba'.ext X
        have g1 := bb'.ext X
        have g2 := bc'.ext X
        have gw := hw'.ext X
        have gs := hs'.ext X
        have gb := (X.blk _ hlt).trans hb'
        have gi := ia'.ext X
        have x25 : Ext h23 (h23.fresh 60 [.nilFunc] [tfun h.nx]) := (Ext.refl _).fresh _ _ _
        have b25 : (h23.fresh 60 [.nilFunc] [tfun h.nx]).blk h23.nx = some (.row [tfun h.nx] 60 true) := blk_fresh _ _ _ _
        have n25 : (h23.fresh 60 [.nilFunc] [tfun h.nx]).nx = h23.nx + 1 := rfl
        rw [show Value.func (.func 46) #[] #[pt h.nx 0] = tfun h.nx from rfl, al_st1 sz60 rfl rfl, nx_eq, nx_eq]
        generalize h23.fresh 60 [.nilFunc] [tfun h.nx] = h25 at *
        have gb' := (x25.blk _ hn23).trans gb
        have gs' := gs.ext x25
        have L : ∀ {v : Value} {u : List Int}, SlR h23 3 1 v (cellsI u) → okW l u → ∀ (K : Value → H → Option (Value × H)), calls rn h25 47 [v, pt h23.nx 0] K = K (iv (arrP l u)) h25 := fun a o K =>
          calls_eq (xs := [_, _]) (s47 gb' b25 gs' (a.ext x25) o)
        have E : ∀ {v : Value} {u : List Int}, SlR h23 3 1 v (cellsI u) → okW l u → ∀ (K : Value → H → Option (Value × H)), callsV rn h25 (tfun h.nx) [v, .int .i64 0] K = K (iv (leaveP l u)) h25 := fun a o K => by
          unfold tfun
          rw [callsV_eq]
          exact calls_eq (xs := [_, _, _]) (s46h gb' gs' (a.ext x25) o)
        have l60 : ∀ (K : Value → Option (Value × H)), ld Try.prog h25 60 h23.nx 0 K = K (tfun h.nx) := fun K => by rw [d60, cell_of b25]; rfl
        have gA := gi.ext x25
        rw [L g0 o0, asI_int]
        rw [gA.put htn.1 (by omega), d3, cell_of gA.row, List.getElem?_map, iA, Option.map_some, Option.bind_some, asI_int, fr_h _ _ gA.lt, ck_true, hab, eq_t rfl, Bool.not_true, ifB_false]
        cases hck : checkP l s t (w.take 26) with
        | false => exact ⟨h25, by simp [k22]⟩
        | true =>
          have mw := cut_whole hv hsn hst hck
          have ow := allWays_ok w mw
          have r0 := q0 w mw
          have r1 := q1 w mw
          have r2 := q2 w mw
          simp only [ofK] at r0 r1 r2
          have lb1 : ∀ (K : Int → Option (Value × H)), len vb K = K w1.length := fun K => by rw [g1.len]; simp
          have lw1 : ∀ (K : Int → Option (Value × H)), len v1 K = K w.length := fun K => by rw [gw.len]; simp
          rw [Bool.not_true, ifB_false, L g0 o0, asI_int, L gw ow, asI_int]
          refine ⟨h25, ?_⟩
          have hnn25 : h23.nx < h25.nx := by omega
          simp [lb1, lw1, L g2 o2, L gw ow, E g2 o2, E gw ow, l60, fr_h, hnn25, ck_true, k22, r0, r1, r2, -d60, -al_eq]
    | false =>
      have hp' : pairP n (l.take 26) s t = false := by rw [pairP_take]; exact hp
      obtain ⟨h3, e3, x3⟩ := s17_bad s2 hp'
      rw [calls_eq (xs := [_, _, _]) e3, ext20, ext21, asI_int]
      have x13 := x2.trans x3
      rw [ld1 _ x13]
      obtain ⟨lb, h4, e4, x4, s4⟩ := s18 (n := n) (hs.ext (x1.trans x13))
      rw [calls_eq (xs := [_]) e4]
      have x14 := x13.trans x4
      obtain ⟨h5, e5, x5⟩ := s19_bad s4 hp'
      rw [calls_eq (xs := [_, _, _]) e5, ext20, ext21, asI_int]
      have x15 := x14.trans x5
      rw [ld1 _ x15]
      obtain ⟨lc, h6, e6, x6, s6⟩ := s18 (n := n) (hs.ext (x1.trans x15))
      rw [calls_eq (xs := [_]) e6]
      have x16 := x15.trans x6
      obtain ⟨h7, e7, x7⟩ := s20_bad s6 hp'
      rw [calls_eq (xs := [_, _, _]) e7, ext20, ext21, asI_int]
      have x17 := x16.trans x7
      rw [ld1 _ x17]
      obtain ⟨ld_, h8, e8, x8, s8⟩ := s18 (n := n) (hs.ext (x1.trans x17))
      rw [calls_eq (xs := [_]) e8]
      have x18 := x17.trans x8
      have f45 : ∃ (v : Value) (e : Int) (h' : H), rn 45 #[.agg #[iv n, ld_], iv s] h8 = some (.tuple #[v, iv e], h') ∧ Ext h8 h' := by
        cases hc : (validP n (l.take 26) && decide (0 ≤ s ∧ s < n)) with
        | false =>
          obtain ⟨h', e, x⟩ := s45_bad s8 hc
          exact ⟨_, _, h', e, x⟩
        | true =>
          simp only [Bool.and_eq_true, decide_eq_true_eq] at hc
          obtain ⟨v, h', b, e, x, _⟩ := s45 s8 hc.1 hc.2
          exact ⟨_, _, h', e, x⟩
      obtain ⟨vd, ed, h9, e9, x9⟩ := f45
      rw [calls_eq (xs := [_, _]) e9, ext20, ext21, asI_int]
      have x19 := x18.trans x9
      rw [ld1 _ x19]
      obtain ⟨le_, h10, e10, x10, s10⟩ := s18 (n := n) (hs.ext (x1.trans x19))
      rw [calls_eq (xs := [_]) e10]
      have x110 := x19.trans x10
      have f37 : ∃ (v : Value) (e : Int) (h' : H), rn 37 #[.agg #[iv n, le_]] h10 = some (.tuple #[v, iv e], h') ∧ Ext h10 h' := by
        cases hc : validP n (l.take 26) with
        | false =>
          obtain ⟨h', e, x⟩ := s37_bad s10 hc
          exact ⟨_, _, h', e, x⟩
        | true =>
          obtain ⟨v, h', e, x, _⟩ := s37 s10 hc
          exact ⟨_, _, h', e, x⟩
      obtain ⟨ve, ev, h11, e11, x11⟩ := f37
      rw [calls_eq (xs := [_]) e11, ext20, ext21, asI_int]
      have x111 := x110.trans x11
      rw [ld1 _ x111]
      obtain ⟨lf, h12, e12, x12, s12⟩ := s18 (n := n) (hs.ext (x1.trans x111))
      rw [calls_eq (xs := [_]) e12]
      have x112 := x111.trans x12
      obtain ⟨vw, h13, e13, x13', sw⟩ := s28 (hw.ext (x1.trans x112))
      rw [calls_eq (xs := [_]) e13]
      rw [show (cellsI w).take 26 = cellsI (w.take 26) from List.map_take.symm] at sw
      have e14 := s27 (n := n) (s := s) (t := t) (s12.ext x13') sw
      rw [calls_eq (xs := [_, _, _, _]) e14, ext20, asB_bool, ext21, asI_int, hp']
      exact ⟨h13, by simp [k22]⟩
  obtain ⟨h1, e⟩ := start
  exact ⟨_, t8 e⟩

end Go.AM
