/- Renaming the nodes: the walk of the law. -/
import Derived.Test.YtakhklelgcfgjaaDoorEt
namespace Go.AM
open Go.Proofs

variable {R : Type}

attribute [local simp] nx_eq nx_new nx_set blk_new blk_set asI_int asK_int asB_bool asP_ptr al_eq bx_eq len_slice onE_exit onE_ret onR_ret Value.cells d3 d22 d23 d32 d78 w3 w32 cell_new cell_set rd_new rd_set off eq lt le ifB gv out ext20 ext21

theorem zero3 : zero? Tryd.prog 3 = some (iv 0) := by kernel_rfl

/-- Each pair renamed is there. -/
theorem pair_find {q1 q2 n b k oj : Nat} {L M : List (Nat × Nat)} {va vb : Value} {h : H} (hn : n ≤ 10) (hb : b < n) (hL : SlR h 32 2 va (cellsP L)) (hM : SlR h 32 2 vb (cellsP M)) (hlL : L.length ≤ 200) (hlM : M.length ≤ 200)
    (hlt : ∀ e ∈ L, e.1 < n ∧ e.2 < n) (hin : ∀ e ∈ L, pairI (rotF n b) e ∈ M) (hq1 : q1 < h.nx) (hq2 : q2 < h.nx) (h1 : h.cell q1 0 = some (iv b)) (h2 : h.cell q2 0 = some (iv n)) (hk : 200 < k)
    {F : List Value → H → Option (Ex × List Value × H)}
    (hF : F = fun ws0 h29 => asI .i64 (gv ws0 1) fun n32 => ifB (lt n32 L.length) (
      asK (gv ws0 1) fun n33 => six va n33 2 fun b4 b5 => ld Tryd.prog h29 32 b4 b5 fun v44 => al h29 32 [(.int .i64 0), (.int .i64 0)] fun h30 => st Tryd.prog h30 32 (nx h29) 0 v44 fun h31 =>
      ld Tryd.prog h31 32 (nx h29) 0 fun v45 => calls rn h31 53 [v45, (pt q1 0), (pt q2 0)] fun v46 h32 => calls rn h32 50 [vb, v46] fun v47 h33 => asB v47 fun q2 =>
      ifB (not q2) (out .ret [(.bool false), gv ws0 1] h33) (asI .i64 (gv ws0 1) fun n34 => out .normal [gv ws0 0, (.int .i64 (add .i64 n34 1))] h33)) (out (.exit oj) [gv ws0 0, gv ws0 1] h29)) :
    ∃ h', lpGo F k [.bool false, iv 0] h = some (.exit oj, [.bool false, iv L.length], h') ∧ Ext h h' := by
  subst hF
  obtain ⟨h', xh, hlp⟩ := lp_allX (F := fun ws0 h29 => asI .i64 (gv ws0 1) fun n32 => ifB (lt n32 L.length) (
      asK (gv ws0 1) fun n33 => six va n33 2 fun b4 b5 => ld Tryd.prog h29 32 b4 b5 fun v44 => al h29 32 [(.int .i64 0), (.int .i64 0)] fun h30 => st Tryd.prog h30 32 (nx h29) 0 v44 fun h31 =>
      ld Tryd.prog h31 32 (nx h29) 0 fun v45 => calls rn h31 53 [v45, (pt q1 0), (pt q2 0)] fun v46 h32 => calls rn h32 50 [vb, v46] fun v47 h33 => asB v47 fun q2 =>
      ifB (not q2) (out .ret [(.bool false), gv ws0 1] h33) (asI .i64 (gv ws0 1) fun n34 => out .normal [gv ws0 0, (.int .i64 (add .i64 n34 1))] h33)) (out (.exit oj) [gv ws0 0, gv ws0 1] h29)) (k := k) (l := L) (h := h) (fun i => [.bool false, iv i])
    (fun _ _ => true) (fun i => []) oj [.bool false, iv L.length] (ws := [.bool false, iv 0]) rfl (by omega)
    (by intro g _; simp)
    (by
      intro i e g hx xg
      have hi := (List.getElem?_eq_some_iff.1 hx).1
      have hem := List.mem_of_getElem? hx
      have hadd : add .i64 (i : Int) 1 = (i : Int) + 1 := add64 (by omega) (by omega)
      obtain ⟨g3, hg3⟩ : ∃ g3, g3 = (g.new (.row [.int .i64 0, .int .i64 0] 32 true)).set g.nx (.row [iv e.1, iv e.2] 32 true) := ⟨_, rfl⟩
      have hb3 : g3.blk g.nx = some (.row [iv e.1, iv e.2] 32 true) := by rw [hg3]; exact blk_set_self _ _ _
      have x3 : Ext g g3 := by rw [hg3]; exact ((Ext.refl g).new' _).set (Nat.le_refl _) _
      have hrd3 : g3.rd g.nx 0 2 = some [iv e.1, iv e.2] := rd_all hb3 rfl
      have w2 : ∀ (K : H → Option (Ex × List Value × H)), (wrc 2 (g.new (.row [.int .i64 0, .int .i64 0] 32 true)) g.nx 0 (.agg #[iv e.1, iv e.2])).bind K = K g3 := fun K => by
        rw [hg3]
        unfold wrc
        rw [blk_new_self]
        rfl
      have e1 : ∀ (K : Value → Option (Ex × List Value × H)), (six va (i : Int) 2 fun b o => ld Tryd.prog g 32 b o K) = K (.agg #[iv e.1, iv e.2]) := fun K => (hL.ext xg).ldA ag32 sz32 (by omega) (x := [iv e.1, iv e.2]) (by simp [hx]) K
      have x0 := xg.trans x3
      have hcell : ∀ q, q < h.nx → g3.cell q 0 = h.cell q 0 := fun q hq => by unfold H.cell; rw [x0.blk q hq]
      have c53 := fun (K : Value → H → Option (Ex × List Value × H)) => calls_eq (K := K) (xs := [.agg #[iv e.1, iv e.2], pt q1 0, pt q2 0]) (s53 (h := g3) (e := e) hn hb (hlt e hem).1 (hlt e hem).2 (by have := x0.nx; omega) (by have := x0.nx; omega) (by rw [hcell q1 hq1]; exact h1) (by rw [hcell q2 hq2]; exact h2))
      have c50 := fun (K : Value → H → Option (Ex × List Value × H)) => calls_eq (K := K) (xs := [vb, .agg #[iv (pairI (rotF n b) e).1, iv (pairI (rotF n b) e).2]]) (s50 (x := pairI (rotF n b) e) (hM.ext x0) (by omega))
      rw [decide_eq_true (hin e hem)] at c50
      refine ⟨g3, x3, ?_⟩
      rw [if_pos rfl]
      simp only [gv, List.getD_cons_succ, List.getD_cons_zero, asI_int, lt_t (show (i : Int) < (L.length : Int) by omega), ifB_true, asK_int, al_eq, w32, nx_eq]
      rw [e1, w2, d32, hrd3, Option.bind_some]
      rw [show Value.agg ([iv (e.1 : Int), iv (e.2 : Int)] : List Value).toArray = .agg #[iv e.1, iv e.2] from rfl, c53, c50, asB_bool]
      simp [hadd])
  refine ⟨h', ?_, xh⟩
  rcases hlp with ⟨i, x, hx, hf, _⟩ | ⟨_, hl⟩
  · cases hf
  · exact hl

set_option maxHeartbeats 2000000 in
/-- The law. -/
theorem s12 (hawake : ∀ h, rn 20 #[] h = some (.bool true, h)) {h : H} {v : Value} {l : List Int} {z : Int} (hs : SlR h 3 1 v (cellsI l)) : ∃ h', rn 12 #[v, iv z] h = some (.bool true, h') := by
  have c20 := fun (g : H) (K : Value → H → Option (Value × H)) => calls_eq (K := K) (xs := []) (hawake g)
  have xa := Ext.new h (.row [iv z] 3 true)
  have c19 := fun (K : Value → H → Option (Value × H)) => calls_eq (K := K) (xs := [v]) (s19 (hs.ext xa))
  by_cases hval : validG l = true
  · obtain ⟨g, rfl, hg⟩ := valid_nat hval
    have hlen := hg.len
    have hpos := hg.pos
    have hpow := hg.pow
    have hal := allN_lt g
    have htk : (g.map Int.ofNat).take 14 = g.map Int.ofNat := List.take_of_length_le (by have := hg.len; simp; omega)
    obtain ⟨hwn, b, hb, hwb⟩ := wr_by z g.length (by omega) hlen
    have hs' := hs
    rw [cellsN_eq] at hs
    -- the two cells
    obtain ⟨ha, hha⟩ : ∃ ha, ha = h.new (.row [iv z] 3 true) := ⟨_, rfl⟩
    obtain ⟨h5, hh5⟩ : ∃ h5, h5 = (ha.new (.row [.int .i64 0] 3 true)).set ha.nx (.row [iv g.length] 3 true) := ⟨_, rfl⟩
    obtain ⟨h6, hh6⟩ : ∃ h6, h6 = h5.set h.nx (.row [iv b] 3 true) := ⟨_, rfl⟩
    have hna : ha.nx = h.nx + 1 := by rw [hha]; rfl
    have hn5 : h5.nx = h.nx + 2 := by rw [hh5, nx_set, nx_new, hna]
    have hn6 : h6.nx = h.nx + 2 := by rw [hh6, nx_set, hn5]
    have b5a : h5.blk h.nx = some (.row [iv z] 3 true) := by rw [hh5, blk_set_ne _ _ _ (by omega), blk_new_ne _ _ (by omega), hha]; exact blk_new_self _ _
    have b5b : h5.blk ha.nx = some (.row [iv g.length] 3 true) := by rw [hh5]; exact blk_set_self _ _ _
    have b6a : h6.blk h.nx = some (.row [iv b] 3 true) := by rw [hh6]; exact blk_set_self _ _ _
    have b6b : h6.blk ha.nx = some (.row [iv g.length] 3 true) := by rw [hh6, blk_set_ne _ _ _ (by omega)]; exact b5b
    have x6 : Ext h h6 := ⟨by omega, fun q hq => by rw [hh6, blk_set_ne _ _ _ (by omega), hh5, blk_set_ne _ _ _ (by omega), blk_new_ne _ _ (by omega), hha, blk_new_ne _ _ (by omega)]⟩
    have w5 : ∀ (K : H → Option (Value × H)), (wrc 1 (ha.new (.row [.int .i64 0] 3 true)) ha.nx 0 (iv g.length)).bind K = K h5 := fun K => by
      rw [wrc_one (blk_new_self _ _) rfl rfl (by simp), hh5]; rfl
    have w6 : ∀ (K : H → Option (Value × H)), (wrc 1 h5 h.nx 0 (iv b)).bind K = K h6 := fun K => by
      rw [wrc_one b5a rfl rfl (by simp), hh6]; rfl
    -- the new graph
    have hmk := mks_ints (P := Tryd.prog) (t := 23) app23 zero3 (n := g.length) (by omega) (h := h6) (R := Value × H)
    obtain ⟨h7, hh7⟩ : ∃ h7, h7 = h6.new (.row ((List.replicate g.length (0 : Int)).map iv) 3 true) := ⟨_, rfl⟩
    have hia7 : IA h7 h6.nx (.slice (some ⟨h6.nx, 0, none⟩) g.length g.length) ((List.replicate g.length (0 : Nat)).map Int.ofNat) := by
      have := ia_new (h := h6) (n := g.length) (by omega) (l := (List.replicate g.length (0 : Nat)).map Int.ofNat) (by simp)
      rw [hh7]
      have he : (List.replicate g.length (0 : Int)) = (List.replicate g.length (0 : Nat)).map Int.ofNat := by simp
      rw [he]
      exact this
    have hn7 : h7.nx = h.nx + 3 := by rw [hh7, nx_new, hn6]
    have x67 : Ext h6 h7 := by rw [hh7]; exact .new _ _
    have x7 := x6.trans x67
    have b7a : h7.blk h.nx = some (.row [iv b] 3 true) := (x67.blk _ (by omega)).trans b6a
    have b7b : h7.blk ha.nx = some (.row [iv g.length] 3 true) := (x67.blk _ (by omega)).trans b6b
    have hn : ∀ {T : Type} (K : Int → Option T), len v K = K (g.length : Int) := fun K => by rw [hs.len]; simp
    obtain ⟨ws', h8, hl1, hh, hiah, hhl, hrot, hk8, hn8, rfl⟩ := lp_for (F := f12_l1 rn 20000 v h ha (.slice (some ⟨h6.nx, 0, none⟩) g.length g.length) g.length) (k := 20000) (l := List.range g.length)
      (fun _ i acc => acc.set (rotF g.length b i) (img g.length (rotB g.length b) (nb g i)))
      (fun i acc ws h' => ∃ hh : List Nat, IA h' h6.nx (.slice (some ⟨h6.nx, 0, none⟩) g.length g.length) (hh.map Int.ofNat) ∧ hh.length = g.length ∧ (∀ i', i' < i → nb hh (rotF g.length b i') = img g.length (rotB g.length b) (nb g i')) ∧
        (∀ q, q ≠ h6.nx → h'.blk q = h7.blk q) ∧ h'.nx = h7.nx ∧ ws = [iv i]) 0 (ws := [iv 0]) (h := h7) (s0 := List.replicate g.length 0)
      ⟨List.replicate g.length 0, hia7, by simp, by intro i' hi'; omega, fun _ _ => rfl, rfl, rfl⟩ (by simp; omega)
      (by
        rintro acc ws h' ⟨hh, _, _, _, _, _, rfl⟩
        rw [List.length_range]
        simp [f12_l1])
      (by
        rintro i x acc ws h8 hx ⟨hh, hia, hhl, hrot, hk8, hn8, rfl⟩
        obtain ⟨hi, rfl⟩ := range_get hx
        have x8 : Ext h h8 := ⟨by omega, fun q hq => by rw [hk8 q (by omega)]; exact x7.blk q hq⟩
        have e2 := fun (K : Value → Option (Ex × List Value × H)) => getN (hs.ext x8) hi K
        have c1 : h8.cell h.nx 0 = some (iv b) := by rw [cell_of ((hk8 _ (by omega)).trans b7a)]; rfl
        have c2 : h8.cell ha.nx 0 = some (iv g.length) := by rw [cell_of ((hk8 _ (by omega)).trans b7b)]; rfl
        have c51 := fun (K : Value → H → Option (Ex × List Value × H)) => calls_eq (K := K) (xs := [iv (nb g x : Nat), pt h.nx 0, pt ha.nx 0]) (s51 hlen hb (hg.nb_lt x) c1 c2)
        have hadd : add .i64 (x : Int) (b : Int) = ((x + b : Nat) : Int) := by rw [add64 (by omega) (by omega)]; omega
        have hadd1 : add .i64 (x : Int) 1 = ((x + 1 : Nat) : Int) := by rw [add64 (by omega) (by omega)]; omega
        have hrem : rem .i64 ((x + b : Nat) : Int) (g.length : Int) = ((rotF g.length b x : Nat) : Int) := rfl
        have hrl : rotF g.length b x < g.length := rotF_lt hb
        have hd1 : decide (h.nx < h8.nx) = true := decide_eq_true (by omega)
        have hd2 : decide (ha.nx < h8.nx) = true := decide_eq_true (by omega)
        have hset := hia.set (rotF g.length b x) ((img g.length (rotB g.length b) (nb g x) : Nat) : Int)
        rw [set_nat] at hset
        refine ⟨[iv ((x + 1 : Nat) : Int)], _, ?_, hh.set (rotF g.length b x) (img g.length (rotB g.length b) (nb g x)), hset, by simpa using hhl, fun i' hi' => ?_, fun q hq => by rw [blk_set_ne _ _ _ hq]; exact hk8 q hq, hn8, rfl⟩
        · unfold f12_l1
          simp only [gv, List.getD_cons_zero, asI_int, lt_t (show (x : Int) < (g.length : Int) by omega), ifB_true, asK_int, d3, e2, nx_eq, c1, c2, Option.bind_some, nz_ne (show (g.length : Int) ≠ 0 by omega), c51, freq, same_self, hd1, hd2, decide_true, Bool.and_true, Bool.and_self, ck_true, hadd, hrem, hadd1, w3]
          rw [hia.put (by omega) (by rw [Int.toNat_natCast, List.length_map]; omega)]
          simp only [Int.toNat_natCast]
          rw [hia.wrc (i := rotF g.length b x) (by rw [List.length_map]; omega), set_nat, Option.bind_some]
          have hck : ∀ {p : Prop} (i : Decidable p) (_ : p) (y : Option (Ex × List Value × H)), ck (@decide p i) y = y := fun i hp y => by rw [@decide_eq_true _ i hp]; rfl
          exact (hck _ (by omega) _).trans (hck _ (by omega) _)
        · rw [nb_set (by omega)]
          by_cases he : rotF g.length b i' = rotF g.length b x
          · have : i' = x := by
              have h1 := rot_inv hb (show i' < g.length by omega)
              rw [he, rot_inv hb hi] at h1
              exact h1.symm
            rw [if_pos he, this]
          · rw [if_neg he]
            exact hrot i' (by have : i' ≠ x := fun e => he (by rw [e]); omega))
    rw [List.length_range] at hrot
    obtain ⟨hiso, hgh⟩ := rot_iso hg hb hhl hrot
    have hvalh := valid_of hgh
    have x8 : Ext h h8 := ⟨by omega, fun q hq => by rw [hk8 q (by omega)]; exact x7.blk q hq⟩
    have hs8 := hs.ext x8
    have hw8 := hiah.slN
    obtain ⟨gv6, hw6e⟩ : ∃ gv6 : Value, gv6 = .slice (some ⟨h6.nx, 0, none⟩) g.length g.length := ⟨_, rfl⟩
    have hml : (cellsN hh).length < 2 ^ 30 := by rw [List.length_map]; omega
    rw [← hw6e] at hw8 hl1
    have few : ∀ h0, Ext h8 h0 → ∃ v' h', rn 18 #[v] h0 = some (v', h') ∧ Exw h0 h' ∧ SlR h' 3 1 v' (cellsN g) := by
      intro h0 x0
      obtain ⟨v', h', e, x, s⟩ := s18 (hs'.ext (x8.trans x0))
      rw [htk, cellsN_eq] at s
      exact ⟨v', h', e, x, s⟩
    have cln : ∀ h0, Ext h8 h0 → ∃ v' h', rn 52 #[gv6] h0 = some (v', h') ∧ Exw h0 h' ∧ SlR h' 3 1 v' (cellsN hh) := by
      intro h0 x0
      obtain ⟨v', h', e, x, s, _⟩ := s52 (hw8.ext x0) hml
      exact ⟨v', h', e, x, s⟩
    obtain ⟨va, ha1, ea, xa1, sa⟩ := few h8 (.refl _)
    obtain ⟨vb, hb1, eb, xb1, sb⟩ := s23 hg hval sa
    obtain ⟨vc, hc1, ec, xc1, sc⟩ := cln hb1 (xa1.tr xb1).toExt
    obtain ⟨vd, hd1, ed, xd1, sd⟩ := s23 hgh hvalh sc
    have y4 := ((xa1.tr xb1).tr xc1).tr xd1
    obtain ⟨ve, he1, ee, xe1, se⟩ := few hd1 y4.toExt
    have s24e := s24 hg hval se
    obtain ⟨vf, hf1, ef, xf1, sf⟩ := cln he1 (y4.tr xe1).toExt
    have s24f := s24 hgh hvalh sf
    have y6 := (y4.tr xe1).tr xf1
    obtain ⟨vg, hg1, eg, xg1, sg⟩ := few hf1 y6.toExt
    obtain ⟨vh, hh1, eh, xh1, sh⟩ := s44 hg hval sg
    obtain ⟨vi, hi1, ei, xi1, si⟩ := cln hh1 ((y6.tr xg1).tr xh1).toExt
    obtain ⟨vj, hj1, ej, xj1, sj⟩ := s44 hgh hvalh si
    have y10 := (((y6.tr xg1).tr xh1).tr xi1).tr xj1
    obtain ⟨vk, hk1, ek, xk1, sk⟩ := few hj1 y10.toExt
    obtain ⟨vl, hl1', el, xl1, sl⟩ := s17 hg hval sk
    obtain ⟨vm, hm1, em, xm1, sm⟩ := cln hl1' ((y10.tr xk1).tr xl1).toExt
    obtain ⟨vn, hn1, en, xn1, sn⟩ := s17 hgh hvalh sm
    have y14 := (((y10.tr xk1).tr xl1).tr xm1).tr xn1
    have cv : ∀ {f : FuncId} {xs : List Value} {h0 h1 : H} {u : Value}, rn f xs.toArray h0 = some (u, h1) → ∀ (K : Value → H → Option (Value × H)), calls rn h0 f xs K = K u h1 := fun e K => calls_eq e
    have ca := cv (xs := [v]) ea
    have cb := cv (xs := [va]) eb
    have cc := cv (xs := [gv6]) ec
    have cd := cv (xs := [vc]) ed
    have ce := cv (xs := [v]) ee
    have ce2 := cv (xs := [ve]) s24e
    have cf := cv (xs := [gv6]) ef
    have cf2 := cv (xs := [vf]) s24f
    have cg := cv (xs := [v]) eg
    have ch := cv (xs := [vg]) eh
    have ci := cv (xs := [gv6]) ei
    have cj := cv (xs := [vi]) ej
    have ck' := cv (xs := [v]) ek
    have cl := cv (xs := [vk]) el
    have cm := cv (xs := [gv6]) em
    have cn := cv (xs := [vm]) en
    have hnx14 := y14.nx
    have q1c : hn1.cell h.nx 0 = some (iv b) := by rw [cell_of ((y14.blk _ (by omega)).trans ((hk8 _ (by omega)).trans b7a))]; rfl
    have q2c : hn1.cell ha.nx 0 = some (iv g.length) := by rw [cell_of ((y14.blk _ (by omega)).trans ((hk8 _ (by omega)).trans b7b))]; rfl
    have hcl := cutsP_ltn hg.toGrB hal
    have c51 := cv (xs := [iv (cutsP g (allN g) : Nat), pt h.nx 0, pt ha.nx 0]) (s51 hlen hb hcl q1c q2c)
    rw [cuts_img hiso hg hgh] at c51
    -- the answers
    have sb' := sb.ext ((((((((((((xc1.tr xd1).tr xe1).tr xf1).tr xg1).tr xh1).tr xi1).tr xj1).tr xk1).tr xl1).tr xm1).tr xn1)).toExt
    have sd' := sd.ext ((((((((((xe1.tr xf1).tr xg1).tr xh1).tr xi1).tr xj1).tr xk1).tr xl1).tr xm1).tr xn1)).toExt
    have sh' := sh.ext (((((xi1.tr xj1).tr xk1).tr xl1).tr xm1).tr xn1).toExt
    have sj' := sj.ext ((((xk1.tr xl1).tr xm1).tr xn1)).toExt
    have sl' := sl.ext (xm1.tr xn1).toExt
    have hinj : ∀ i j, i < g.length → j < g.length → rotF g.length b i = rotF g.length b j → i = j := fun i j hi hj e => by rw [← rot_inv hb hi, ← rot_inv hb hj, e]
    have hinj' : ∀ i j, i < g.length → j < g.length → rotB g.length b i = rotB g.length b j → i = j := fun i j hi hj e => by rw [← rot_inv' hb hi, ← rot_inv' hb hj, e]
    have hq1 : ∀ x y, x < g.length → y < g.length → x ≠ y → bridgeB hh x y = bridgeB hh y x := fun x y hx hy hxy => by
      unfold bridgeB
      rw [hgh.sym x y, round_sym hgh (by rw [hhl]; exact hx) (by rw [hhl]; exact hy) hxy]
    have hq1' : ∀ x y, x < g.length → y < g.length → x ≠ y → bridgeB g x y = bridgeB g y x := fun x y hx hy hxy => by
      unfold bridgeB
      rw [hg.sym x y, round_sym hg hx hy hxy]
    have hbr : ∀ x y, x < g.length → y < g.length → x ≠ y → bridgeB hh (rotF g.length b x) (rotF g.length b y) = bridgeB g x y := fun x y hx hy hxy => by
      unfold bridgeB
      rw [hiso.adj x y hx hy, round_img hiso hg hgh hx hy hxy]
    have hbr' : ∀ x y, x < g.length → y < g.length → x ≠ y → bridgeB g (rotB g.length b x) (rotB g.length b y) = bridgeB hh x y := fun x y hx hy hxy => by
      have := hbr _ _ (rotB_lt (i := x) hb) (rotB_lt (i := y) hb) (fun e => hxy (hinj' _ _ hx hy e))
      rw [rot_inv' hb hx, rot_inv' hb hy] at this
      exact this.symm
    have hbrlen : (bridgesP g).length = (bridgesP hh).length := by
      rw [bridges_pairL, bridges_pairL, hhl]
      exact Nat.le_antisymm (pairL_len (fun i _ => rotF_lt hb) hinj hq1 hbr) (pairL_len (fun i _ => rotB_lt hb) hinj' hq1' hbr')
    have hpr : ∀ x y, x < g.length → y < g.length → x ≠ y → partsP hh (rotF g.length b x) (rotF g.length b y) = partsP g x y := fun x y hx hy _ => parts_img hiso hg hgh hx hy
    have hpr' : ∀ x y, x < g.length → y < g.length → x ≠ y → partsP g (rotB g.length b x) (rotB g.length b y) = partsP hh x y := fun x y hx hy hxy => by
      have := hpr _ _ (rotB_lt (i := x) hb) (rotB_lt (i := y) hb) (fun e => hxy (hinj' _ _ hx hy e))
      rw [rot_inv' hb hx, rot_inv' hb hy] at this
      exact this.symm
    have hprlen : (pairsP g).length = (pairsP hh).length := by
      rw [pairs_pairL, pairs_pairL, hhl]
      exact Nat.le_antisymm (pairL_len (fun i _ => rotF_lt hb) hinj (fun x y _ _ _ => parts_sym hh x y) hpr) (pairL_len (fun i _ => rotB_lt hb) hinj' (fun x y _ _ _ => parts_sym g x y) hpr')
    have hbllen : (blocksP g).length = (blocksP hh).length := by
      refine Nat.le_antisymm (len_le (F := img g.length (rotB g.length b)) (blocks_nodup g) (fun x hx => block_img hiso hg hgh hx) fun x hx y hy e => ?_) (len_le (F := img hh.length (rotF g.length b)) (blocks_nodup hh) (fun x hx => block_img hiso.symm hgh hg hx) fun x hx y hy e => ?_)
      · rw [← img_img hiso (blocks_lt hx), ← img_img hiso (blocks_lt hy), e]
      · rw [← img_img hiso.symm (blocks_lt hx), ← img_img hiso.symm (blocks_lt hy), e]
    have hel := edges_len g hg.toGrB
    have helh := edges_len hh hgh.toGrB
    have hbl1 : (bridgesP g).length ≤ 200 := Nat.le_trans (List.length_filter_le _ _) (by omega)
    have hprl : (pairsP g).length ≤ 200 := by
      have : ∀ k, (foldI (fun _ a acc => pairRow g a acc) (List.range k) 0 []).length ≤ k * g.length := by
        intro k
        induction k with
        | zero => simp [foldI]
        | succ k ih =>
          rw [foldI_foldl (fun a acc => pairRow g a acc)] at ih ⊢
          rw [List.range_succ, List.foldl_append, List.foldl_cons, List.foldl_nil, Nat.succ_mul]
          exact Nat.le_trans row_len (by omega)
      have h1 := this g.length
      have h2 : g.length * g.length ≤ 10 * 10 := Nat.mul_le_mul hlen hlen
      unfold pairsP
      omega
    obtain ⟨hp1, hlp1, xp1⟩ := pair_find (k := 20000) (oj := 2) hlen hb sb' sd' hbl1 (by omega) (fun e he => by rw [bridges_pairL] at he; obtain ⟨h1, h2, _⟩ := mem_pairL.1 he; omega) (fun e he => by
      rw [bridges_pairL] at he ⊢
      rw [hhl]
      exact pairL_img (fun i _ => rotF_lt hb) hinj hq1 hbr he) (by omega) (by omega) q1c q2c (by omega) (F := f12_l2 rn 20000 h ha vb vd (bridgesP g).length) rfl
    have q1d : hp1.cell h.nx 0 = some (iv b) := by unfold H.cell; rw [xp1.blk _ (by omega)]; exact q1c
    have q2d : hp1.cell ha.nx 0 = some (iv g.length) := by unfold H.cell; rw [xp1.blk _ (by omega)]; exact q2c
    have hnp1 := xp1.nx
    obtain ⟨hp2, hlp2, xp2⟩ := pair_find (k := 20000) (oj := 4) hlen hb (sl'.ext xp1) (sn.ext xp1) hprl (by omega) (fun e he => by rw [pairs_pairL] at he; obtain ⟨h1, h2, _⟩ := mem_pairL.1 he; omega) (fun e he => by
      rw [pairs_pairL] at he ⊢
      rw [hhl]
      exact pairL_img (fun i _ => rotF_lt hb) hinj (fun x y _ _ _ => parts_sym hh x y) hpr he) (by omega) (by omega) q1d q2d (by omega) (F := f12_l3 rn 20000 h ha vl vn (pairsP g).length) rfl
    have q1e : hp2.cell h.nx 0 = some (iv b) := by unfold H.cell; rw [xp2.blk _ (by omega)]; exact q1d
    have q2e : hp2.cell ha.nx 0 = some (iv g.length) := by unfold H.cell; rw [xp2.blk _ (by omega)]; exact q2d
    have hbk := blocks_len hg.toGrB
    have hbk' := blocks_len hgh.toGrB
    have sh2 := sh'.ext (xp1.trans xp2)
    have sj2 := sj'.ext (xp1.trans xp2)
    have hlp3 : lpGo (f12_l4 rn 20000 h ha vh vj (blocksP g).length) 20000 [.bool false, iv 0] hp2 = some (.exit 6, [.bool false, iv (blocksP g).length], hp2) := by
      have hlp := lp_all (F := f12_l4 rn 20000 h ha vh vj (blocksP g).length) (k := 20000) (l := blocksP g) (h := hp2) (fun i => [.bool false, iv i])
        (fun _ _ => true) (fun i => []) 6 [.bool false, iv (blocksP g).length] (ws := [.bool false, iv 0]) rfl (by omega)
        (by simp [f12_l4])
        (by
          intro i S hx
          have hi := (List.getElem?_eq_some_iff.1 hx).1
          have hSm := List.mem_of_getElem? hx
          have e1 : ∀ (K : Value → Option (Ex × List Value × H)), (six vh (i : Int) 1 fun b o => (hp2.cell b o).bind K) = K (iv S) := fun K => sh2.c0 (by omega) (x := [iv S]) (by simp [hx]) rfl K
          have c51 := fun (K : Value → H → Option (Ex × List Value × H)) => calls_eq (K := K) (xs := [iv S, pt h.nx 0, pt ha.nx 0]) (s51 hlen hb (blocks_lt hSm) q1e q2e)
          have c49 := fun (K : Value → H → Option (Ex × List Value × H)) => calls_eq (K := K) (xs := [vj, iv (img g.length (rotB g.length b) S : Nat)]) (s49 (x := img g.length (rotB g.length b) S) sj2 (by omega))
          rw [decide_eq_true (block_img hiso hg hgh hSm)] at c49
          have hadd : add .i64 (i : Int) 1 = (i : Int) + 1 := add64 (by omega) (by omega)
          rw [if_pos rfl]
          unfold f12_l4
          simp only [gv, List.getD_cons_succ, List.getD_cons_zero, asI_int, lt_t (show (i : Int) < ((blocksP g).length : Int) by omega), ifB_true, asK_int, d3, e1, nx_eq, c51, c49, asB_bool, hadd]
          rfl)
      rcases hlp with ⟨i, y, hx, hf, _, hl⟩ | ⟨_, hl⟩
      · cases hf
      · exact hl
    have hl13 : ∀ {T : Type} (K : Int → Option T), len vb K = K ((bridgesP g).length : Int) := fun K => by rw [sb.len]; simp
    have hl17 : ∀ {T : Type} (K : Int → Option T), len vd K = K ((bridgesP g).length : Int) := fun K => by rw [sd.len, hbrlen]; simp
    have hl29 : ∀ {T : Type} (K : Int → Option T), len vh K = K ((blocksP g).length : Int) := fun K => by rw [sh.len]; simp
    have hl33 : ∀ {T : Type} (K : Int → Option T), len vj K = K ((blocksP g).length : Int) := fun K => by rw [sj.len, hbllen]; simp
    have hl37 : ∀ {T : Type} (K : Int → Option T), len vl K = K ((pairsP g).length : Int) := fun K => by rw [sl.len]; simp
    have hl41 : ∀ {T : Type} (K : Int → Option T), len vn K = K ((pairsP g).length : Int) := fun K => by rw [sn.len, hprlen]; simp
    have hself : ∀ x : Int, AM.eq x x = true := fun x => by simp
    refine ⟨_, t12 (k := 20000) (v := .bool true) (h1 := hp2) ?_⟩
    have hc5a : h5.cell h.nx 0 = some (iv z) := by rw [cell_of b5a]; rfl
    have hc5b : h5.cell ha.nx 0 = some (iv g.length) := by rw [cell_of b5b]; rfl
    have hc6b : h6.cell ha.nx 0 = some (iv g.length) := by rw [cell_of b6b]; rfl
    unfold f12
    rw [bx_eq, show (Value.int .i64 z).cells.toList = [iv z] from rfl, c19, hval, asB_bool, show (!true) = false from rfl, ifB_false, hn, ← hha]
    simp only [al_eq, w3, nx_eq, w5, d3, hc5a, hc5b, Option.bind_some, asI_int, hwn, nz_ne (show (g.length : Int) ≠ 0 by omega), hwb, w6, hc6b]
    rw [hmk, ← hh7, hn, ← hw6e]
    refine (lp_eq hl1).trans ?_
    simp only [onE_exit, if_true, ca, cb, cc, cd, ce, ce2, cf, cf2, cg, ch, ci, cj, ck', cl, cm, cn, ext20, ext21, asI_int, hself, Bool.not_true, ifB_false, nx_eq, c51, hl13, hl17, hl29, hl33, hl37, hl41]
    refine (lp_eq hlp1).trans ?_
    simp only [onE_exit, if_true, gv, List.getD_cons_zero, hl37]
    refine (lp_eq hlp2).trans ?_
    simp only [onE_exit, if_true, gv, List.getD_cons_zero, hl29]
    refine (lp_eq hlp3).trans ?_
    simp [c20]
  · have hv' : validG l = false := by simpa using hval
    rw [hv'] at c19
    refine ⟨_, t12 (k := 0) (v := .bool true) (h1 := h.new (.row [iv z] 3 true)) ?_⟩
    unfold f12
    rw [bx_eq, show (Value.int .i64 z).cells.toList = [iv z] from rfl, c19, asB_bool, show (!false) = true from rfl, ifB_true, c20, asB_bool]

end Go.AM
