/- CallsWays, on the abstract machine. -/
import Derived.Test.YthmfjfblndophaaCr
namespace Go.AM
open Go.Proofs

variable {R : Type}

attribute [local simp] nx_eq nx_new nx_set blk_new blk_set asI_int asK_int asB_bool asP_ptr al_eq bx_eq len_slice onE_exit onE_ret onR_ret Value.cells d3 d29 d31 d56 d24 d59 d22 d25 d121 d89 d61 w3 w25 w121 cell_new cell_set rd_new rd_set off eq lt le ifB gv out eqF1 eqF2 eqF3 eqF4 eqF5 eqF6 eqF7 eqF8 ext20 ext21 k42 k72 k73 k74

theorem refOk {n t : Int} {l : List Cl} (hv : validP n l = true) : ∀ (f : Nat) (tm : Int), 31 - tm ≤ f → RefOk n t l (f + 1) tm := by
  intro f
  induction f with
  | zero => intro tm htm; exact ref_body hv 0 tm (fun tm' h1 h2 => by omega)
  | succ f ih => intro tm htm; exact ref_body hv (f + 1) tm (fun tm' h1 h2 => ih tm' (by omega))

theorem s98 {n s t : Int} {sl : Value} {l : List Cl} {h : H} (hs : SlR h 59 3 sl (l.map Cl.cells)) (hp : pairP n l s t = true) :
    ∃ v vs h', rn 98 #[.agg #[iv n, sl], iv s, iv t] h = some (v, h') ∧ Ext h h' ∧ SlR h' 25 1 v (cellsV vs) ∧ SsR h' vs (allWays l s t) := by
  obtain ⟨⟨⟨hv, hsn⟩, htn⟩, hst⟩ : ((validP n l = true ∧ (0 ≤ s ∧ s < n)) ∧ (0 ≤ t ∧ t < n)) ∧ s ≠ t := by simpa [pairP] using hp
  have x1 : Ext h (h.new (.row [iv n, sl] 24 true)) := .new _ _
  obtain ⟨v, vs, h', e, x, a, b⟩ := refOk hv 31 0 (by omega) s (shl .i64 1 s) [] sl (.slice none 0 0) _ hsn (by simp) hst (hs.ext x1) .nil
  have hc := fun (K : Value → H → Option (Value × H)) => calls_eq (K := K) (xs := [_, _, _, _, _, _]) e
  refine ⟨v, vs, h', x98 (k := 0) ?_ a.notR, x1.trans x, a, by simpa [allWays] using b⟩
  simp [f98, nn_ge hsn.1, hc]

theorem kbld108 (a b c : Int) (K : Value → Option R) : bld Try.prog 108 [(0, .int .i64 a), (1, .int .i64 b), (2, .int .i64 c)] K = K (.agg #[.int .i64 a, .int .i64 b, .int .i64 c]) := bld_some (by kernel_rfl)
theorem inx108 (a b c : Int) (k : Nat) (hk : k < 3) : index Try.prog 108 (.agg #[.int .i64 a, .int .i64 b, .int .i64 c]) (.int .i64 k) = some (.int .i64 ([a, b, c].getD k 0)) := by
  rcases (show k = 0 ∨ k = 1 ∨ k = 2 by omega) with rfl | rfl | rfl <;> kernel_rfl
theorem kinx108 (a b c : Int) {k : Nat} (hk : k < 3) (K : Value → Option R) : inx Try.prog 108 (.agg #[.int .i64 a, .int .i64 b, .int .i64 c]) k K = K (.int .i64 ([a, b, c].getD k 0)) := by
  unfold inx
  rw [inx108 a b c k hk]
  rfl

theorem ofK_eq (l : List Cl) (w : List Int) {k : Nat} (hk : k < 3) : [arrP l w, (w.length : Int), sub .i64 (arrP l w) (leaveP l w)].getD k 0 = ofK l k w := by
  rcases (show k = 0 ∨ k = 1 ∨ k = 2 by omega) with rfl | rfl | rfl <;> rfl

theorem time_ok {n : Int} {l : List Cl} (hv : validP n l = true) {i : Nat} {c : Cl} (hc : l[i]? = some c) : 1 ≤ c.t ∧ c.t ≤ 30 := by
  have := okC_iff.1 ((validP_ok hv).2.2.2 i c hc)
  exact this.2.2.2

theorem ofK_lt {n : Int} {l : List Cl} {w : List Int} {k : Nat} (hv : validP n l = true) (hw : okW l w) (hl : w.length ≤ 32) (hk : k < 3) : ofK l k w < 99 := by
  obtain ⟨x, c, h1, h2, h3, h4, h5⟩ := okW_last hw
  obtain ⟨y, d, g1, g2, g3, g4⟩ := okW_head hw
  have hc := time_ok hv h3
  have hd := time_ok hv g3
  rcases (show k = 0 ∨ k = 1 ∨ k = 2 by omega) with rfl | rfl | rfl
  · simp only [ofK]; omega
  · simp only [ofK]; omega
  · simp only [ofK, h4, g4]
    rw [sub64 (by omega) (by omega)]
    omega

theorem BestR.slR {o : Option (List Int)} {v : Value} {e : Int} {h : H} (b : BestR o v e h) : SlR h 3 1 v (cellsI (o.getD [])) ∧ e = (if o = none then 4 else 0) := by
  cases o with
  | none => obtain ⟨rfl, rfl⟩ := b; exact ⟨.nil, rfl⟩
  | some w => exact ⟨b.1, b.2.1⟩

theorem s70 {n s t : Int} {sl : Value} {l : List Cl} {h : H} {k : Nat} (hk : k < 3) (hs : SlR h 59 3 sl (l.map Cl.cells)) (hp : pairP n l s t = true) :
    ∃ v e h', rn 70 #[.agg #[iv n, sl], iv s, iv t, iv k] h = some (.tuple #[v, iv e], h') ∧ Ext h h' ∧ BestR (bestP (ofK l k) l s t) v e h' := by
  have hv : validP n l = true := by
    simp only [pairP, Bool.and_eq_true] at hp
    exact hp.1.1.1
  have x1 : Ext h (h.new (.row [iv n, sl] 24 true)) := .new _ _
  obtain ⟨v2, vs, h2, e, x2, a, b⟩ := s98 (n := n) (s := s) (t := t) (hs.ext x1) hp
  have hb2 : h2.blk h.nx = some (.row [iv n, sl] 24 true) := (x2.blk _ (Nat.lt_succ_self _)).trans (blk_new_self _ _)
  have hsl2 := hs.ext (x1.trans x2)
  have hall := fun w hw => allWays_ok (l := l) (s := s) (t := t) w hw
  have hlen32 : ∀ w ∈ allWays l s t, w.length ≤ 32 := fun w hw => (waysF_ok (n := 0) 32 _ _ _ w hw).2.1
  have hcnt : (allWays l s t).length ≤ 2 ^ 24 := by
    have := (ways_few (t := t) hv 32 s 0 (shl .i64 1 s) 0 (by omega) (fun _ _ _ _ => Nat.zero_le _)).1
    exact Nat.le_trans this (Nat.pow_le_pow_right (by omega) (by have := (validP_ok hv).2.2.1; omega))
  unfold bestP
  generalize allWays l s t = W at *
  have hvl := b.1
  obtain ⟨ws', h', hl, rfl, bv, few, hbv, hm⟩ := lp_for (F := f70_l1 rn (W.length + 1) k h v2 W.length) (k := W.length + 1) (l := W) (fun _ w (o : Option (List Int)) => betterP (ofK l k) o w)
    (fun i o ws g => g = h2 ∧ ∃ bv few, ws = [bv, iv few, iv i] ∧ match o with
      | none => bv = .slice none 0 0 ∧ few = 99
      | some w => SlR h2 3 1 bv (cellsI w) ∧ few = ofK l k w ∧ w ≠ []) 0 (ws := [.slice none 0 0, iv 99, iv 0]) (h := h2) (s0 := none)
    ⟨rfl, _, _, rfl, rfl, rfl⟩ (by omega)
    (by
      rintro o ws g ⟨rfl, bv, few, rfl, _⟩
      simp [f70_l1])
    (by
      rintro i w o ws g hw ⟨rfl, bv, few, rfl, hm⟩
      have hi := (List.getElem?_eq_some_iff.1 hw).1
      have hwm := List.mem_of_getElem? hw
      have hok := hall w hwm
      have hl32 := hlen32 w hwm
      obtain ⟨x, c, h1, h2', h3, h4, h5⟩ := okW_last hok
      obtain ⟨y, d, g1, g2, g3, g4⟩ := okW_head hok
      have hvi : vs[i]? = some (vs[i]'(by omega)) := List.getElem?_eq_getElem (by omega)
      have hsi := b.2 i _ w hvi hw
      generalize vs[i]'(by omega) = vi at *
      have e1 : ∀ (K : Value → Option (Ex × List Value × H)), (six v2 (i : Int) 1 fun b o => (g.cell b o).bind K) = K vi := fun K => a.c0 (by omega) (x := [vi]) (by simp [hvi]) rfl K
      have e2 : ∀ (K : Value → Option (Ex × List Value × H)), (six vi 0 1 fun b o => (g.cell b o).bind K) = K (iv y) := fun K => hsi.c0 (by omega) (x := [iv y]) (by simp [g1]) rfl K
      have e3 : ∀ (K : Value → Option (Ex × List Value × H)), (six vi (sub .i64 (w.length : Int) 1) 1 fun b o => (g.cell b o).bind K) = K (iv x) := fun K => by
        rw [sub64 (by omega) (by omega)]
        exact hsi.c0 (by omega) (x := [iv x]) (by rw [show ((w.length : Int) - 1).toNat = w.length - 1 by omega]; simp [h1]) rfl K
      have e4 : ∀ (K : Value → Option (Ex × List Value × H)), (six sl x 3 fun b o => (g.cell b (o + 2)).bind K) = K (iv c.t) := fun K => hsl2.cF h2' (x := c.cells) (by simp [h3]) rfl K
      have e5 : ∀ (K : Value → Option (Ex × List Value × H)), (six sl y 3 fun b o => (g.cell b (o + 2)).bind K) = K (iv d.t) := fun K => hsl2.cF g2 (x := d.cells) (by simp [g3]) rfl K
      have e6 : ∀ (K : Int → Option (Ex × List Value × H)), len vi K = K w.length := fun K => by rw [hsi.len]; simp
      have hadd : add .i64 (i : Int) 1 = (i : Int) + 1 := add64 (by omega) (by omega)
      have hK := ofK_eq l w hk
      rw [h4, g4] at hK
      have e7 : ∀ (K : Value → Option (Ex × List Value × H)), inx Try.prog 108 (.agg #[.int .i64 c.t, .int .i64 w.length, .int .i64 (sub .i64 c.t d.t)]) k K = K (iv (ofK l k w)) := fun K => by rw [kinx108 _ _ _ hk, hK]
      have hF : f70_l1 rn (W.length + 1) k h v2 W.length [bv, iv few, iv i] g = if ofK l k w < few then some (.normal, [vi, iv (ofK l k w), iv ((i : Int) + 1)], g) else some (.normal, [bv, iv few, iv ((i : Int) + 1)], g) := by
        simp [f70_l1, hi, e1, e2, e3, e4, e5, e6, e7, cell_of hb2, kbld108, hadd]
      rw [hF]
      cases o with
      | none =>
        obtain ⟨rfl, rfl⟩ := hm
        have := ofK_lt hv hok hl32 hk
        rw [if_pos this]
        exact ⟨_, _, rfl, rfl, vi, _, rfl, hsi, rfl, hok.1⟩
      | some w0 =>
        obtain ⟨q1, rfl, q3⟩ := hm
        by_cases hlt : ofK l k w < ofK l k w0
        · rw [if_pos hlt]
          have hb : betterP (ofK l k) (some w0) w = some w := by simp only [betterP, hlt, if_true]
          rw [hb]
          exact ⟨[vi, iv (ofK l k w), iv ((i : Int) + 1)], g, rfl, rfl, vi, ofK l k w, rfl, hsi, rfl, hok.1⟩
        · rw [if_neg hlt]
          have hb : betterP (ofK l k) (some w0) w = some w0 := by simp only [betterP, hlt, if_false]
          rw [hb]
          exact ⟨[bv, iv (ofK l k w0), iv ((i : Int) + 1)], g, rfl, rfl, bv, ofK l k w0, rfl, q1, rfl, q3⟩)
  rw [foldI_foldl] at hm
  subst hbv
  have c1 := fun (K : Value → H → Option (Value × H)) => calls_eq (K := K) (xs := [_, _, _]) e
  have hlv : ∀ (K : Int → Option (Value × H)), len v2 K = K W.length := fun K => by rw [a.len, List.length_map, hvl]
  generalize W.foldl (fun o w => betterP (ofK l k) o w) none = o at *
  cases o with
  | none =>
    obtain ⟨rfl, _⟩ := hm
    refine ⟨.slice none 0 0, 4, h', x70 (k := W.length + 1) ?_ rfl, x1.trans x2, rfl, rfl⟩
    simp [f70, c1, hlv, lp_eq hl, eqv, nil25]
  | some w =>
    obtain ⟨q1, _, q3⟩ := hm
    have hnb : ∃ b o n c, bv = .slice (some ⟨b, o, none⟩) n c := by
      generalize hL : cellsI w = L at q1
      cases q1 with
      | nil => simp at hL; exact absurd hL q3
      | at_ => exact ⟨_, _, _, _, rfl⟩
    obtain ⟨b0, o0, n0, c0, hbv⟩ := hnb
    refine ⟨bv, 0, h', x70 (k := W.length + 1) ?_ q1.notR2, x1.trans x2, q1, rfl, q3⟩
    simp [f70, c1, hlv, lp_eq hl, eqv, hbv, some25]

theorem s23 {n s t : Int} {sl : Value} {l : List Cl} {h : H} (hs : SlR h 59 3 sl (l.map Cl.cells)) (hp : pairP n l s t = true) :
    ∃ v e h', rn 23 #[.agg #[iv n, sl], iv s, iv t] h = some (.tuple #[v, iv e], h') ∧ Ext h h' ∧ BestR (bestP (ofK l 0) l s t) v e h' := by
  have x1 : Ext h (h.new (.row [iv n, sl] 24 true)) := .new _ _
  obtain ⟨v, e, h', e1, x, b⟩ := s70 (k := 0) (by omega) (hs.ext x1) hp
  have hc := fun (K : Value → H → Option (Value × H)) => calls_eq (K := K) (xs := [_, _, _, iv 0]) e1
  exact ⟨v, e, h', x23 (k := 0) (by simp [f23, hc]) b.plain, x1.trans x, b⟩
theorem s24 {n s t : Int} {sl : Value} {l : List Cl} {h : H} (hs : SlR h 59 3 sl (l.map Cl.cells)) (hp : pairP n l s t = true) :
    ∃ v e h', rn 24 #[.agg #[iv n, sl], iv s, iv t] h = some (.tuple #[v, iv e], h') ∧ Ext h h' ∧ BestR (bestP (ofK l 1) l s t) v e h' := by
  have x1 : Ext h (h.new (.row [iv n, sl] 24 true)) := .new _ _
  obtain ⟨v, e, h', e1, x, b⟩ := s70 (k := 1) (by omega) (hs.ext x1) hp
  have hc := fun (K : Value → H → Option (Value × H)) => calls_eq (K := K) (xs := [_, _, _, iv 1]) e1
  exact ⟨v, e, h', x24 (k := 0) (by simp [f24, hc]) b.plain, x1.trans x, b⟩
theorem s25 {n s t : Int} {sl : Value} {l : List Cl} {h : H} (hs : SlR h 59 3 sl (l.map Cl.cells)) (hp : pairP n l s t = true) :
    ∃ v e h', rn 25 #[.agg #[iv n, sl], iv s, iv t] h = some (.tuple #[v, iv e], h') ∧ Ext h h' ∧ BestR (bestP (ofK l 2) l s t) v e h' := by
  have x1 : Ext h (h.new (.row [iv n, sl] 24 true)) := .new _ _
  obtain ⟨v, e, h', e1, x, b⟩ := s70 (k := 2) (by omega) (hs.ext x1) hp
  have hc := fun (K : Value → H → Option (Value × H)) => calls_eq (K := K) (xs := [_, _, _, iv 2]) e1
  exact ⟨v, e, h', x25 (k := 0) (by simp [f25, hc]) b.plain, x1.trans x, b⟩

theorem s3 {n s t : Int} {sl : Value} {l : List Cl} {h : H} (hs : SlR h 59 3 sl (l.map Cl.cells)) : ∃ h', rn 3 #[.agg #[iv n, sl], iv s, iv t] h = some (.bool true, h') := by
  have x1 : Ext h (h.new (.row [iv n, sl] 24 true)) := .new _ _
  have b1 : (h.new (.row [iv n, sl] 24 true)).blk h.nx = some (.row [iv n, sl] 24 true) := blk_new_self _ _
  have n1 : h.nx < (h.new (.row [iv n, sl] 24 true)).nx := Nat.lt_succ_self _
  have start : ∃ h1, f3 rn 0 (.agg #[iv n, sl]) s t h = some (.bool true, h1) := by
    unfold f3
    rw [bx_eq, nx_eq, show (Value.agg #[iv n, sl]).cells.toList = [iv n, sl] from rfl]
    generalize h.new (.row [iv n, sl] 24 true) = h1 at *
    have ld1 : ∀ (g : H), Ext h1 g → ∀ (K : Value → Option (Value × H)), ld Try.prog g 24 h.nx 0 K = K (.agg #[iv n, sl]) := fun g x K => by
      rw [d24, rd_all (n := 2) ((x.blk _ n1).trans b1) rfl]; rfl
    obtain ⟨la, h2, e2, x2, s2⟩ := s18 (n := n) (hs.ext x1)
    rw [ld1 _ (.refl _), calls_eq (xs := [_]) e2]
    cases hp : pairP n l s t with
    | true =>
      have hv : validP n l = true := by
        simp only [pairP, Bool.and_eq_true] at hp
        exact hp.1.1.1
      have hl : l.take 26 = l := List.take_of_length_le (by have := (validP_ok hv).2.2.1; omega)
      rw [hl] at s2
      obtain ⟨va, ea, h3, e3, x3, ba⟩ := s17 s2 hp
      rw [calls_eq (xs := [_, _, _]) e3, ext20, ext21, asI_int]
      have x13 := x2.trans x3
      rw [ld1 _ x13]
      obtain ⟨lb, h4, e4, x4, s4⟩ := s18 (n := n) (hs.ext (x1.trans x13))
      rw [calls_eq (xs := [_]) e4]
      rw [hl] at s4
      have x14 := x13.trans x4
      obtain ⟨vb, eb, h5, e5, x5, bb⟩ := s19 s4 hp
      rw [calls_eq (xs := [_, _, _]) e5, ext20, ext21, asI_int]
      have x15 := x14.trans x5
      rw [ld1 _ x15]
      obtain ⟨lc, h6, e6, x6, s6⟩ := s18 (n := n) (hs.ext (x1.trans x15))
      rw [calls_eq (xs := [_]) e6]
      rw [hl] at s6
      have x16 := x15.trans x6
      obtain ⟨vc, ec, h7, e7, x7, bc⟩ := s20 s6 hp
      rw [calls_eq (xs := [_, _, _]) e7, ext20, ext21, asI_int]
      have x17 := x16.trans x7
      rw [ld1 _ x17, calls_eq (xs := [_, _, _]) (s21 (n := n) (s := s) (t := t) (hs.ext (x1.trans x17))), asB_bool, hp, Bool.not_true, ifB_false, ld1 _ x17]
      obtain ⟨vd, ed, h8, e8, x8, bd⟩ := s23 (hs.ext (x1.trans x17)) hp
      rw [calls_eq (xs := [_, _, _]) e8, ext20, ext21, asI_int]
      have x18 := x17.trans x8
      rw [ld1 _ x18]
      obtain ⟨ve, ee, h9, e9, x9, be⟩ := s24 (hs.ext (x1.trans x18)) hp
      rw [calls_eq (xs := [_, _, _]) e9, ext20, ext21, asI_int]
      have x19 := x18.trans x9
      rw [ld1 _ x19]
      obtain ⟨vf, ef, h10, e10, x10, bf⟩ := s25 (hs.ext (x1.trans x19)) hp
      rw [calls_eq (xs := [_, _, _]) e10, ext20, ext21, asI_int]
      rw [k26 (ba.slR.1.ext (x4.trans (x5.trans (x6.trans (x7.trans (x8.trans (x9.trans x10))))))) (bd.slR.1.ext (x9.trans x10)), asB_bool, decide_eq_true rfl, ifB_true]
      rw [k26 (bb.slR.1.ext (x6.trans (x7.trans (x8.trans (x9.trans x10))))) (be.slR.1.ext x10), asB_bool, decide_eq_true rfl, ifB_true]
      rw [k26 (bc.slR.1.ext (x8.trans (x9.trans x10))) bf.slR.1, asB_bool, decide_eq_true rfl, ifB_true]
      rw [eq_t (ba.slR.2.trans bd.slR.2.symm), ifB_true, eq_t (bb.slR.2.trans be.slR.2.symm), ifB_true, eq_t (bc.slR.2.trans bf.slR.2.symm), ifB_true, k22, asB_bool]
      exact ⟨_, rfl⟩
    | false =>
      have hp' : pairP n (l.take 26) s t = false := by rw [pairP_take]; exact hp
      obtain ⟨h3, e3, x3⟩ := s17_bad s2 hp'
      rw [calls_eq (xs := [_, _, _]) e3, ext20, ext21, asI_int]
      have x13 := x2.trans x3
      rw [ld1 _ x13]
      obtain ⟨lb, h4, e4, x4, s4⟩ := s18 (n := n) (hs.ext (x1.trans x13))
      rw [calls_eq (xs := [_]) e4]
      have x14 := x13.trans x4
      obtain ⟨h5, e5, x5⟩ := s19_bad s4 hp'
      rw [calls_eq (xs := [_, _, _]) e5, ext20, ext21, asI_int]
      have x15 := x14.trans x5
      rw [ld1 _ x15]
      obtain ⟨lc, h6, e6, x6, s6⟩ := s18 (n := n) (hs.ext (x1.trans x15))
      rw [calls_eq (xs := [_]) e6]
      have x16 := x15.trans x6
      obtain ⟨h7, e7, x7⟩ := s20_bad s6 hp'
      rw [calls_eq (xs := [_, _, _]) e7, ext20, ext21, asI_int]
      have x17 := x16.trans x7
      rw [ld1 _ x17, calls_eq (xs := [_, _, _]) (s21 (n := n) (s := s) (t := t) (hs.ext (x1.trans x17))), asB_bool, hp]
      refine ⟨h7, ?_⟩
      have h00 : add .i64 (add .i64 0 0) 0 = 0 := by decide
      simp [k22, h00]
  obtain ⟨h1, e⟩ := start
  exact ⟨_, t3 e⟩

end Go.AM
