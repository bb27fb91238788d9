/- EarsOrients and EarsStrong. -/
import Derived.Test.YtakhklelgcfgjaaDoorHd
namespace Go.AM
open Go.Proofs

variable {R : Type}

attribute [local simp] nx_eq nx_new nx_set blk_new blk_set asI_int asK_int asB_bool asP_ptr al_eq bx_eq len_slice onE_exit onE_ret onR_ret Value.cells cell_new cell_set rd_new rd_set off eq lt le ifB gv out ext20 ext21

/-! ### From one type of streets to the other -/

theorem s29 {v : Value} {L : List (Int × Int)} {h : H} (hs : SlR h 94 2 v (cellsQ L)) : ∃ v' h', rn 29 #[v] h = some (v', h') ∧ Exw h h' ∧ SlR h' 92 2 v' (cellsQ (L.take 60)) := by
  have hm := hs.lt62
  rw [List.length_map] at hm
  have hn : ∀ {T : Type} (K : Int → Option T), len v K = K (L.length : Int) := fun K => by rw [hs.len]; simp
  obtain ⟨ws', h', hl, xg, hll, sv', hap', rfl⟩ := lp_for (F := f29_l1 rn (L.length + 1) v L.length) (k := L.length + 1) (l := L) (fun i x acc => if i < 60 then acc ++ [x] else acc)
    (fun i acc ws g => Ext h g ∧ acc = L.take (min i 60) ∧ ∃ sv, AqR h.nx g 92 2 sv (cellsQ acc) ∧ ws = [sv, iv i]) 0 (ws := [.slice none 0 0, iv 0]) (h := h) (s0 := [])
    ⟨.refl _, by simp, _, .nil, rfl⟩ (by omega)
    (by
      rintro acc ws g ⟨_, _, sv, _, rfl⟩
      simp [f29_l1])
    (by
      rintro i x acc ws g hx ⟨xg, hal, sv, hap, rfl⟩
      have hi := (List.getElem?_eq_some_iff.1 hx).1
      have hadd : add .i64 (i : Int) 1 = ((i + 1 : Nat) : Int) := by rw [add64 (by omega) (by omega)]; omega
      obtain ⟨g3, hg3⟩ : ∃ g3, g3 = (g.new (.row [.int .i64 0, .int .i64 0] 94 true)).set g.nx (.row [iv x.1, iv x.2] 94 true) := ⟨_, rfl⟩
      have hbg3 : g3.blk g.nx = some (.row [iv x.1, iv x.2] 94 true) := by rw [hg3]; exact blk_set_self _ _ _
      have xg3 : Ext g g3 := by rw [hg3]; exact ((Ext.refl g).new' _).set (Nat.le_refl _) _
      have w2 : ∀ (K : H → Option (Ex × List Value × H)), (wrc 2 (g.new (.row [.int .i64 0, .int .i64 0] 94 true)) g.nx 0 (.agg #[iv x.1, iv x.2])).bind K = K g3 := fun K => by
        rw [hg3]
        unfold wrc
        rw [blk_new_self]
        rfl
      have e1 : ∀ (K : Value → Option (Ex × List Value × H)), (six v (i : Int) 2 fun b o => ld Tryd.prog g 94 b o K) = K (.agg #[iv x.1, iv x.2]) := fun K =>
        (hs.ext xg).ldA ag94 sz94 (by omega) (x := [iv x.1, iv x.2]) (by rw [Int.toNat_natCast, List.getElem?_map, hx]; rfl) K
      have start : f29_l1 rn (L.length + 1) v L.length [sv, iv i] g = if i < 60 then (bls Tryd.prog g3 38 1 [(0, .agg #[.int .i64 x.1, .int .i64 x.2])] fun y h2 => app Tryd.prog h2 38 38 sv y fun v25 h23 => AM.out .normal [v25, iv ((i + 1 : Nat) : Int)] h23) else some (.normal, [sv, iv ((i + 1 : Nat) : Int)], g3) := by
        unfold f29_l1
        rw [show AM.gv [sv, iv i] 1 = iv i from rfl, show AM.gv [sv, iv i] 0 = sv from rfl, asI_int, lt_t (by omega), ifB_true, asK_int, e1, al_eq, w94, nx_eq, w2, asI_int]
        by_cases h60 : i < 60
        · rw [lt_t (by omega), ifB_true, if_pos h60]
          simp only [d3, cell_of hbg3]
          rw [show ([iv x.1, iv x.2] : List Value)[0]? = some (iv x.1) from rfl, show ([iv x.1, iv x.2] : List Value)[AM.off 0 1]? = some (iv x.2) from rfl]
          simp only [Option.bind_some, asI_int, kbld92, hadd]
        · rw [show AM.lt (i : Int) 60 = false by simp [AM.lt]; omega, ifB_false, if_neg h60, asI_int, hadd]
          rfl
      have xg2 := xg.trans xg3
      rw [start]
      by_cases h60 : i < 60
      · rw [if_pos h60]
        obtain ⟨sv', h2, e2, a2, n2, k2, b2, hb2, hb2'⟩ := (hap.ext xg3).push app38 app38 (bls38 x.1 x.2) rfl rfl (by rw [List.length_map, hal, List.length_take]; omega) xg2.nx
        rw [e2]
        refine ⟨_, _, rfl, ⟨by have := xg2.nx; omega, fun b hb => ?_⟩, ?_, sv', ?_, rfl⟩
        · rw [k2 b (by have := xg2.nx; omega) (fun e => by have := ((hap.ext xg3).blkOf e).1; omega)]
          exact xg2.blk b hb
        · simp only [h60, if_true]
          rw [hal, Nat.min_eq_left (by omega), Nat.min_eq_left (by omega), List.take_add_one, hx]; rfl
        · simp only [h60, if_true]
          have : cellsQ (acc ++ [x]) = cellsQ acc ++ [[iv x.1, iv x.2]] := by simp
          rw [this]; exact a2
      · rw [if_neg h60]
        refine ⟨_, _, rfl, xg2, ?_, sv, ?_, rfl⟩
        · simp only [h60, if_false]
          rw [hal, Nat.min_eq_right (by omega), Nat.min_eq_right (by omega)]
        · simp only [h60, if_false]; exact hap.ext xg3)
  have hfin : L.take (min L.length 60) = L.take 60 := by
    rcases Nat.le_total L.length 60 with h1 | h1
    · rw [Nat.min_eq_left h1, List.take_of_length_le (Nat.le_refl _), List.take_of_length_le h1]
    · rw [Nat.min_eq_right h1]
  rw [hll, hfin] at hap'
  obtain ⟨h2, e2, m2, w2⟩ := x29 (k := L.length + 1) (v0 := v) (h := h) (h1 := h') (v := sv') (by
    unfold f29
    rw [hn]
    refine (lp_eq hl).trans ?_
    rfl) hap'.slR.notR
  exact ⟨sv', h2, e2, w2 xg, hap'.slR.ext m2.ext⟩

theorem s32 {v : Value} {L : List (Int × Int)} {h : H} (hs : SlR h 92 2 v (cellsQ L)) (hm : L.length ≤ 100) : ∃ v' h', rn 32 #[v] h = some (v', h') ∧ Exw h h' ∧ SlR h' 94 2 v' (cellsQ L) := by
  have hn : ∀ {T : Type} (K : Int → Option T), len v K = K (L.length : Int) := fun K => by rw [hs.len]; simp
  obtain ⟨ws', h', hl, xg, hll, sv', hap', rfl⟩ := lp_for (F := f32_l1 rn 200 v L.length) (k := 200) (l := L) (fun _ x acc => acc ++ [x])
    (fun i acc ws g => Ext h g ∧ acc = L.take i ∧ ∃ sv, AqR h.nx g 94 2 sv (cellsQ acc) ∧ ws = [sv, iv i]) 0 (ws := [.slice none 0 0, iv 0]) (h := h) (s0 := [])
    ⟨.refl _, by simp, _, .nil, rfl⟩ (by omega)
    (by
      rintro acc ws g ⟨_, _, sv, _, rfl⟩
      simp [f32_l1])
    (by
      rintro i x acc ws g hx ⟨xg, hal, sv, hap, rfl⟩
      have hi := (List.getElem?_eq_some_iff.1 hx).1
      have hadd : add .i64 (i : Int) 1 = ((i + 1 : Nat) : Int) := by rw [add64 (by omega) (by omega)]; omega
      obtain ⟨g3, hg3⟩ : ∃ g3, g3 = (g.new (.row [.int .i64 0, .int .i64 0] 92 true)).set g.nx (.row [iv x.1, iv x.2] 92 true) := ⟨_, rfl⟩
      have hbg3 : g3.blk g.nx = some (.row [iv x.1, iv x.2] 92 true) := by rw [hg3]; exact blk_set_self _ _ _
      have xg3 : Ext g g3 := by rw [hg3]; exact ((Ext.refl g).new' _).set (Nat.le_refl _) _
      have w2 : ∀ (K : H → Option (Ex × List Value × H)), (wrc 2 (g.new (.row [.int .i64 0, .int .i64 0] 92 true)) g.nx 0 (.agg #[iv x.1, iv x.2])).bind K = K g3 := fun K => by
        rw [hg3]
        unfold wrc
        rw [blk_new_self]
        rfl
      have e1 : ∀ (K : Value → Option (Ex × List Value × H)), (six v (i : Int) 2 fun b o => ld Tryd.prog g 92 b o K) = K (.agg #[iv x.1, iv x.2]) := fun K =>
        (hs.ext xg).ldA ag92 sz92 (by omega) (x := [iv x.1, iv x.2]) (by rw [Int.toNat_natCast, List.getElem?_map, hx]; rfl) K
      have start : f32_l1 rn 200 v L.length [sv, iv i] g = (bls Tryd.prog g3 37 1 [(0, .agg #[.int .i64 x.1, .int .i64 x.2])] fun y h2 => app Tryd.prog h2 37 37 sv y fun v25 h23 => AM.out .normal [v25, iv ((i + 1 : Nat) : Int)] h23) := by
        unfold f32_l1
        rw [show AM.gv [sv, iv i] 1 = iv i from rfl, show AM.gv [sv, iv i] 0 = sv from rfl, asI_int, lt_t (by omega), ifB_true, asK_int, e1, al_eq, w92, nx_eq, w2]
        simp only [d3, cell_of hbg3]
        rw [show ([iv x.1, iv x.2] : List Value)[0]? = some (iv x.1) from rfl, show ([iv x.1, iv x.2] : List Value)[AM.off 0 1]? = some (iv x.2) from rfl]
        simp only [Option.bind_some, asI_int, kbld94, hadd]
      have xg2 := xg.trans xg3
      obtain ⟨sv', h2, e2, a2, n2, k2, b2, hb2, hb2'⟩ := (hap.ext xg3).push app37 app37 (bls37 x.1 x.2) rfl rfl (by rw [List.length_map, hal, List.length_take]; omega) xg2.nx
      rw [start, e2]
      refine ⟨_, _, rfl, ⟨by have := xg2.nx; omega, fun b hb => ?_⟩, ?_, sv', ?_, rfl⟩
      · rw [k2 b (by have := xg2.nx; omega) (fun e => by have := ((hap.ext xg3).blkOf e).1; omega)]
        exact xg2.blk b hb
      · rw [hal, List.take_add_one, hx]; rfl
      · have : cellsQ (acc ++ [x]) = cellsQ acc ++ [[iv x.1, iv x.2]] := by simp
        rw [this]; exact a2)
  rw [hll, List.take_length] at hap'
  obtain ⟨h2, e2, m2, w2⟩ := x32 (k := 200) (v0 := v) (h := h) (h1 := h') (v := sv') (by
    unfold f32
    rw [hn]
    refine (lp_eq hl).trans ?_
    rfl) hap'.slR.notR
  exact ⟨sv', h2, e2, w2 xg, hap'.slR.ext m2.ext⟩

/-- The document's Firm. -/
theorem s31 {v : Value} {g : List Nat} {h : H} (hg : GrN g) (hs : SlR h 3 1 v (cellsN g)) : rn 31 #[v] h = some (.bool (firmP g), h) := by
  have c68 := fun (K : Value → H → Option (Value × H)) => calls_eq (K := K) (xs := [v]) (s68 hg.toGrB hs)
  have c67 := fun (K : Value → H → Option (Value × H)) => calls_eq (K := K) (xs := [v, iv (allN g : Nat)]) (s67 hg.toGrB hs (allN_lt g))
  obtain ⟨v3, h3, e25, x3, hs3⟩ := s25 hg.toGrB hs
  have c25 := fun (K : Value → H → Option (Value × H)) => calls_eq (K := K) (xs := [v]) e25
  have hn3 : ∀ {T : Type} (K : Int → Option T), len v3 K = K ((bridgesP g).length : Int) := fun K => by rw [hs3.len]; simp
  rw [decide_eq_true (all_ne hg), Bool.true_and] at c67
  by_cases hc : connS g (allN g) = true
  · refine p31 (k := 0) (h1 := h3) ?_ rfl x3.toExt
    unfold f31 firmP
    rw [c68, asI_int, c67, asB_bool, hc, ifB_true, c25, hn3, Bool.true_and]
    cases hb : bridgesP g with
    | nil => simp
    | cons a l => simp; omega
  · refine p31 (k := 0) (h1 := h) ?_ rfl (.refl _)
    unfold f31 firmP
    rw [c68, asI_int, c67, asB_bool, Bool.eq_false_iff.2 hc, ifB_false, Bool.false_and]

/-! ### Plain -/

theorem edges_60 {g : List Nat} (hg : GrB g) : (edgesP g).length < 60 := by
  have h1 := len_le (F := fun x => x) (l := edgesP g) (l' := pairL 10 fun _ _ => true) (edges_nodup g) (fun x hx => by
    obtain ⟨h1, h2, _⟩ := mem_edges.1 hx
    exact mem_pairL.2 ⟨h1, by have := hg.len; omega, rfl⟩) (fun _ _ _ _ e => e)
  have h2 : (pairL 10 fun _ _ => true).length = 45 := by decide +kernel
  omega

theorem okC_take {g : List Nat} (hg : GrN g) (L : List (Int × Int)) : okC g (L.take 60) = okR g L := by
  have h60 := edges_60 hg.toGrB
  by_cases hl : L.length ≤ 60
  · rw [List.take_of_length_le hl, okC_eq hg]
  · rw [Bool.eq_iff_iff, okC_iff hg, okR_iff hg]
    constructor
    · rintro ⟨h, _⟩; rw [List.length_take] at h; omega
    · rintro ⟨h, _⟩; omega

theorem strong_firmP {g : List Nat} (hg : GrN g) {L : List (Int × Int)} (h : okR g L = true) : firmP g = true := by
  obtain ⟨h1, h2⟩ := strong_firm hg h
  unfold firmP
  rw [(conn_iff hg (allN_lt g)).2 h1, decide_eq_true h2]; rfl

theorem firm_tree {g : List Nat} (hg : GrN g) {T : TL} (ht : Tree g T) (h : firmP g = true) : okR g (streetsP g T) = true := by
  unfold firmP at h
  rw [Bool.and_eq_true, decide_eq_true_iff] at h
  exact ht.strong hg ((conn_iff hg (allN_lt g)).1 h.1) h.2

/-! ### EarsOrients -/

set_option maxHeartbeats 1000000 in
theorem s5 (hawake : ∀ h, rn 20 #[] h = some (.bool true, h)) {h : H} {v w : Value} {l : List Int} {L : List (Int × Int)} (hs : SlR h 3 1 v (cellsI l)) (hL : SlR h 94 2 w (cellsQ L)) : ∃ h', rn 5 #[v, w] h = some (.bool true, h') := by
  have c20 := fun (g : H) (K : Value → H → Option (Value × H)) => calls_eq (K := K) (xs := []) (hawake g)
  obtain ⟨v1, h1, e18, x1, hs1⟩ := s18 hs
  have c18 := fun (K : Value → H → Option (Value × H)) => calls_eq (K := K) (xs := [v]) e18
  by_cases hval : validG l = true
  · obtain ⟨g, rfl, hg⟩ := valid_nat hval
    have htk : (g.map Int.ofNat).take 14 = g.map Int.ofNat := List.take_of_length_le (by have := hg.len; simp; omega)
    rw [htk, cellsN_eq] at hs1
    obtain ⟨v4, n0, h2, e27, x2, hs4⟩ := s27 hg hval hs1
    have c27 := fun (K : Value → H → Option (Value × H)) => calls_eq (K := K) (xs := [v1]) e27
    obtain ⟨v6, h3, e18b, x3, hs6⟩ := s18 (hs.ext (x1.tr x2).toExt)
    rw [htk, cellsN_eq] at hs6
    have c18b := fun (K : Value → H → Option (Value × H)) => calls_eq (K := K) (xs := [v]) e18b
    have x123 := (x1.tr x2).tr x3
    obtain ⟨v7, h4, e29, x4, hs7⟩ := s29 (hL.ext x123.toExt)
    have c29 := fun (K : Value → H → Option (Value × H)) => calls_eq (K := K) (xs := [w]) e29
    have x14 := x123.tr x4
    have c28 := fun (K : Value → H → Option (Value × H)) => calls_eq (K := K) (xs := [v6, v7]) (s28 hg hval (hs6.ext x4.toExt) hs7)
    have hsv := hs.ext x14.toExt
    have c19 := fun (K : Value → H → Option (Value × H)) => calls_eq (K := K) (xs := [v]) (s19 hsv)
    rw [cellsN_eq] at hsv
    have c30 := fun (K : Value → H → Option (Value × H)) => calls_eq (K := K) (xs := [v, w]) (s30 hg hsv (hL.ext x14.toExt))
    have c31 := fun (K : Value → H → Option (Value × H)) => calls_eq (K := K) (xs := [v]) (s31 hg hsv)
    rw [okC_take hg] at c28
    by_cases hf : firmP g = true
    · rw [if_pos hf] at hs4
      obtain ⟨rfl, T, ht, hst⟩ := hs4
      obtain ⟨v16, h5, e32, x5, hs16⟩ := s32 (hst.ext (x3.tr x4).toExt) (by rw [streets_len]; exact edges_len g hg.toGrB)
      have c32 := fun (K : Value → H → Option (Value × H)) => calls_eq (K := K) (xs := [v4]) e32
      have c30b := fun (K : Value → H → Option (Value × H)) => calls_eq (K := K) (xs := [v, v16]) (s30 hg (hsv.ext x5.toExt) hs16)
      rw [firm_tree hg ht hf] at c30b
      refine ⟨_, t5 (k := 0) (v := .bool true) (h1 := h5) ?_⟩
      unfold f5
      rw [c18, c27, ext20, ext21, asI_int, c18b, c29, c28, ext20, asB_bool, ext21, asI_int, c19, asB_bool, hval, show (!true) = false from rfl, ifB_false, c30, asB_bool, keqv4]
      simp only [beq_self_eq_true, Bool.not_true, ifB_false, eq]
      rw [c20, asB_bool, show (!true) = false from rfl, ifB_false, c31, asB_bool, hf, show (!true) = false from rfl, ifB_false, ifB_true, c32, c30b, asB_bool]
    · rw [if_neg hf] at hs4
      obtain ⟨rfl, rfl⟩ := hs4
      refine ⟨_, t5 (k := 0) (v := .bool true) (h1 := h4) ?_⟩
      unfold f5
      rw [c18, c27, ext20, ext21, asI_int, c18b, c29, c28, ext20, asB_bool, ext21, asI_int, c19, asB_bool, hval, show (!true) = false from rfl, ifB_false, c30, asB_bool, keqv4]
      simp only [beq_self_eq_true, Bool.not_true, ifB_false, eq]
      rw [c20, asB_bool, show (!true) = false from rfl, ifB_false, c31, asB_bool, Bool.eq_false_iff.2 hf, show (!false) = true from rfl, ifB_true, len_slice]
      rfl
  · have hv' : validG l = false := by simpa using hval
    have hv14 : validG (l.take 14) = false := by rw [validG_take]; exact hv'
    obtain ⟨h2, e27, x2⟩ := s27_bad hv14 hs1
    have c27 := fun (K : Value → H → Option (Value × H)) => calls_eq (K := K) (xs := [v1]) e27
    obtain ⟨v6, h3, e18b, x3, hs6⟩ := s18 (hs.ext (x1.tr x2).toExt)
    have c18b := fun (K : Value → H → Option (Value × H)) => calls_eq (K := K) (xs := [v]) e18b
    have x123 := (x1.tr x2).tr x3
    obtain ⟨v7, h4, e29, x4, hs7⟩ := s29 (hL.ext x123.toExt)
    have c29 := fun (K : Value → H → Option (Value × H)) => calls_eq (K := K) (xs := [w]) e29
    have x14 := x123.tr x4
    have c28 := fun (K : Value → H → Option (Value × H)) => calls_eq (K := K) (xs := [v6, v7]) (s28_bad (v1 := v7) hv14 (hs6.ext x4.toExt))
    have c19 := fun (K : Value → H → Option (Value × H)) => calls_eq (K := K) (xs := [v]) (s19 (hs.ext x14.toExt))
    refine ⟨_, t5 (k := 0) (v := .bool true) (h1 := h4) ?_⟩
    unfold f5
    rw [c18, c27, ext20, ext21, asI_int, c18b, c29, c28, ext20, asB_bool, ext21, asI_int, c19, asB_bool, hv', show (!false) = true from rfl, ifB_true, len_slice]
    simp [c20]

/-! ### EarsStrong -/

theorem rch_all {g : List Nat} (hg : GrN g) : decide (rch g (allN g) 0 = allN g) = connS g (allN g) := by
  rw [Bool.eq_iff_iff, decide_eq_true_iff, conn_iff hg (allN_lt g), rch_full (allN_lt10 hg) (all_bit0 hg)]
  constructor
  · intro h a b ha hb
    exact ((h a ha).sym hg.sym (all_bit0 hg)).trans (h b hb)
  · exact fun h u hu => h 0 u (all_bit0 hg) hu

set_option maxHeartbeats 1000000 in
theorem s6 (hawake : ∀ h, rn 20 #[] h = some (.bool true, h)) {h : H} {v w : Value} {l : List Int} {L : List (Int × Int)} (hs : SlR h 3 1 v (cellsI l)) (hL : SlR h 94 2 w (cellsQ L)) : ∃ h', rn 6 #[v, w] h = some (.bool true, h') := by
  have c20 := fun (g : H) (K : Value → H → Option (Value × H)) => calls_eq (K := K) (xs := []) (hawake g)
  obtain ⟨v1, h1, e18, x1, hs1⟩ := s18 hs
  have c18 := fun (K : Value → H → Option (Value × H)) => calls_eq (K := K) (xs := [v]) e18
  by_cases hval : validG l = true
  · obtain ⟨g, rfl, hg⟩ := valid_nat hval
    have hlen := hg.len
    have htk : (g.map Int.ofNat).take 14 = g.map Int.ofNat := List.take_of_length_le (by have := hg.len; simp; omega)
    rw [htk, cellsN_eq] at hs1
    obtain ⟨v4, n0, h2, e27, x2, hs4⟩ := s27 hg hval hs1
    have c27 := fun (K : Value → H → Option (Value × H)) => calls_eq (K := K) (xs := [v1]) e27
    obtain ⟨v6, h3, e18b, x3, hs6⟩ := s18 (hs.ext (x1.tr x2).toExt)
    rw [htk, cellsN_eq] at hs6
    have c18b := fun (K : Value → H → Option (Value × H)) => calls_eq (K := K) (xs := [v]) e18b
    obtain ⟨v8, h4, e23, x4, hs8⟩ := s23 hg hval hs6
    have c23 := fun (K : Value → H → Option (Value × H)) => calls_eq (K := K) (xs := [v6]) e23
    have x1234 := ((x1.tr x2).tr x3).tr x4
    obtain ⟨v10, h5, e18c, x5, hs10⟩ := s18 (hs.ext x1234.toExt)
    rw [htk, cellsN_eq] at hs10
    have c18c := fun (K : Value → H → Option (Value × H)) => calls_eq (K := K) (xs := [v]) e18c
    obtain ⟨v11, h6, e29, x6, hs11⟩ := s29 (hL.ext (x1234.tr x5).toExt)
    have c29 := fun (K : Value → H → Option (Value × H)) => calls_eq (K := K) (xs := [w]) e29
    have x16 := (x1234.tr x5).tr x6
    have c28 := fun (K : Value → H → Option (Value × H)) => calls_eq (K := K) (xs := [v10, v11]) (s28 hg hval (hs10.ext x6.toExt) hs11)
    rw [okC_take hg] at c28
    have hsv := hs.ext x16.toExt
    have hnv : ∀ {T : Type} (K : Int → Option T), len v K = K (g.length : Int) := fun K => by rw [hs.len]; simp
    rw [cellsN_eq] at hsv
    have c33 := fun (K : Value → H → Option (Value × H)) => calls_eq (K := K) (xs := [v, iv (allN g : Nat), iv 0]) (s33 (v := 0) hg.toGrB hsv hg.pos (allN_lt g))
    have hn8 : ∀ {T : Type} (K : Int → Option T), len v8 K = K ((bridgesP g).length : Int) := fun K => by rw [hs8.len]; simp
    have hsh : AM.sub .i64 (AM.shl .i64 1 (g.length : Int)) 1 = (allN g : Int) := shl_all hlen
    have heq : AM.eq (rch g (allN g) 0 : Int) (allN g : Int) = connS g (allN g) := by rw [eqN, rch_all hg]
    by_cases hf : firmP g = true
    · rw [if_pos hf] at hs4
      obtain ⟨rfl, T, ht, hst⟩ := hs4
      have hf' := hf
      unfold firmP at hf'
      rw [Bool.and_eq_true, decide_eq_true_iff] at hf'
      obtain ⟨hcon, hbr⟩ := hf'
      obtain ⟨v18, h7, e18d, x7, hs18⟩ := s18 (hs.ext x16.toExt)
      rw [htk, cellsN_eq] at hs18
      have c18d := fun (K : Value → H → Option (Value × H)) => calls_eq (K := K) (xs := [v]) e18d
      have c28d := fun (K : Value → H → Option (Value × H)) => calls_eq (K := K) (xs := [v18, v4]) (s28 hg hval hs18 (hst.ext ((((x3.tr x4).tr x5).tr x6).tr x7).toExt))
      rw [okC_eq hg, firm_tree hg ht hf] at c28d
      refine ⟨_, t6 (k := 0) (v := .bool true) (h1 := h7) ?_⟩
      unfold f6
      rw [c18, c27, ext20, ext21, asI_int, c18b, c23, ext20, ext21, asI_int, c18c, c29, c28, ext20, asB_bool, ext21, asI_int]
      simp only [show AM.eq (0 : Int) 0 = true from rfl, Bool.not_true, ifB_false, hn8, hbr, List.length_nil, show AM.eq ((0 : Nat) : Int) 0 = true from rfl, ifB_true, hnv, nn_ge (show (0 : Int) ≤ (g.length : Int) by omega), hsh, c33, asI_int, heq, hcon, keqv4, beq_self_eq_true, c18d, c28d, ext20, ext21, asB_bool, c20]
      cases okR g L <;> rfl
    · rw [if_neg hf] at hs4
      obtain ⟨rfl, rfl⟩ := hs4
      have hokf : okR g L = false := Bool.eq_false_iff.2 fun h => hf (strong_firmP hg h)
      rw [hokf] at c28
      refine ⟨_, t6 (k := 0) (v := .bool true) (h1 := h6) ?_⟩
      unfold f6
      rw [c18, c27, ext20, ext21, asI_int, c18b, c23, ext20, ext21, asI_int, c18c, c29, c28, ext20, asB_bool, ext21, asI_int]
      by_cases hbr : bridgesP g = []
      · have hcon : connS g (allN g) = false := by
          rw [Bool.eq_false_iff]
          intro hc
          exact hf (by unfold firmP; rw [hc, decide_eq_true hbr]; rfl)
        simp only [show AM.eq (0 : Int) 0 = true from rfl, show AM.eq (4 : Int) 0 = false from rfl, show AM.eq (4 : Int) 4 = true from rfl, Bool.not_true, Bool.not_false, ifB_false, hn8, hbr, List.length_nil, show AM.eq ((0 : Nat) : Int) 0 = true from rfl, ifB_true, hnv, nn_ge (show (0 : Int) ≤ (g.length : Int) by omega), hsh, c33, asI_int, heq, hcon, keqv4, beq_self_eq_true, asB_bool, c20]
      · have h0 : AM.eq ((bridgesP g).length : Int) 0 = false := by
          cases hb : bridgesP g with
          | nil => exact absurd hb hbr
          | cons a l => simp; omega
        simp only [show AM.eq (0 : Int) 0 = true from rfl, show AM.eq (4 : Int) 0 = false from rfl, show AM.eq (4 : Int) 4 = true from rfl, Bool.not_true, Bool.not_false, ifB_false, hn8, h0, ifB_true, keqv4, beq_self_eq_true, asB_bool, c20]
  · have hv' : validG l = false := by simpa using hval
    have hv14 : validG (l.take 14) = false := by rw [validG_take]; exact hv'
    obtain ⟨h2, e27, x2⟩ := s27_bad hv14 hs1
    have c27 := fun (K : Value → H → Option (Value × H)) => calls_eq (K := K) (xs := [v1]) e27
    obtain ⟨v6, h3, e18b, x3, hs6⟩ := s18 (hs.ext (x1.tr x2).toExt)
    have c18b := fun (K : Value → H → Option (Value × H)) => calls_eq (K := K) (xs := [v]) e18b
    have c23 := fun (K : Value → H → Option (Value × H)) => calls_eq (K := K) (xs := [v6]) (s23_bad hv14 hs6)
    have x123 := (x1.tr x2).tr x3
    obtain ⟨v10, h5, e18c, x5, hs10⟩ := s18 (hs.ext x123.toExt)
    have c18c := fun (K : Value → H → Option (Value × H)) => calls_eq (K := K) (xs := [v]) e18c
    obtain ⟨v11, h6, e29, x6, hs11⟩ := s29 (hL.ext (x123.tr x5).toExt)
    have c29 := fun (K : Value → H → Option (Value × H)) => calls_eq (K := K) (xs := [w]) e29
    have c28 := fun (K : Value → H → Option (Value × H)) => calls_eq (K := K) (xs := [v10, v11]) (s28_bad (v1 := v11) hv14 (hs10.ext x6.toExt))
    refine ⟨_, t6 (k := 0) (v := .bool true) (h1 := h6) ?_⟩
    unfold f6
    rw [c18, c27, ext20, ext21, asI_int, c18b, c23, ext20, ext21, asI_int, c18c, c29, c28, ext20, asB_bool, ext21, asI_int]
    simp [c20]

end Go.AM
