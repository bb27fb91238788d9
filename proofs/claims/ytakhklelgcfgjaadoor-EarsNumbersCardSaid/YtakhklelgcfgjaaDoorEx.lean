/- One-way streets: the document's check. -/
import Derived.Test.YtakhklelgcfgjaaDoorEv
namespace Go.AM
open Go.Proofs

variable {R : Type}

attribute [local simp] nx_eq nx_new nx_set blk_new blk_set asI_int asK_int asB_bool asP_ptr al_eq bx_eq len_slice onE_exit onE_ret onR_ret Value.cells cell_new cell_set rd_new rd_set off eq lt le ifB gv out ext20 ext21

set_option maxHeartbeats 1000000 in
theorem s30_loop {v1 v5 v6 : Value} {E : List (Nat × Nat)} {L : List (Int × Int)} {n b6 : Nat} {h1 h : H} (hE : ∀ e ∈ E, e.1 < n ∧ e.2 < n) (hn : n ≤ 10) (hlen : L.length = E.length) (hm : E.length ≤ 100)
    (hs1 : SlR h1 94 2 v1 (cellsQ L)) (hs5 : SlR h1 32 2 v5 (cellsP E)) (x0 : Ext h1 h) (hb6 : h1.nx ≤ b6)
    (i6 : IA h b6 v6 ((List.replicate n 0).map Int.ofNat)) :
    ∃ e w h', lpGo (f30_l1 rn 200 v1 v5 v6 L.length) 200 [.bool false, iv 0] h = some (e, w, h') ∧ Ext h1 h' ∧ AM.gv w 0 = .bool false ∧
      if okZ E L = true then e = .exit 0 ∧ IA h' b6 v6 ((aheadP n L).map Int.ofNat) ∧ GrB (aheadP n L)
      else e = .ret := by
  obtain ⟨e, w, h', hl, hr⟩ := lp_rel (F := f30_l1 rn 200 v1 v5 v6 L.length) (k := 200) (l := E.zip L)
    (fun _ p (s : List Nat) => if mtE p.1 p.2 = true then .inl (addA s p.2.1.toNat p.2.2.toNat) else .inr ())
    (fun i s ws g => ws = [.bool false, iv i] ∧ Ext h1 g ∧ IA g b6 v6 (s.map Int.ofNat) ∧ GrB s ∧ s.length = n)
    (fun _ e ws g => e = .ret ∧ AM.gv ws 0 = .bool false ∧ Ext h1 g) 0 (ws := [.bool false, iv 0]) (h := h) (s0 := List.replicate n 0)
    ⟨rfl, x0, i6, grB_zero hn, by simp⟩ (by simp [hlen]; omega)
    (by
      rintro s ws g ⟨rfl, _⟩
      rw [List.length_zip, hlen, Nat.min_self]
      simp [f30_l1])
    (by
      rintro i ⟨e, x⟩ A ws g hx ⟨rfl, xg, iA, gA, lA⟩
      dsimp only at *
      rw [List.getElem?_zip_eq_some] at hx
      obtain ⟨he, hx⟩ := hx
      have hi := (List.getElem?_eq_some_iff.1 hx).1
      have hEe := hE e (List.mem_of_getElem? he)
      have hadd : add .i64 (i : Int) 1 = ((i + 1 : Nat) : Int) := by rw [add64 (by omega) (by omega)]; omega
      obtain ⟨g3, hg3⟩ : ∃ g3, g3 = (g.new (.row [.int .i64 0, .int .i64 0] 94 true)).set g.nx (.row [iv x.1, iv x.2] 94 true) := ⟨_, rfl⟩
      have hb3 : g3.blk g.nx = some (.row [iv x.1, iv x.2] 94 true) := by rw [hg3]; exact blk_set_self _ _ _
      have x3 : Ext g g3 := by rw [hg3]; exact ((Ext.refl g).new' _).set (Nat.le_refl _) _
      have w2 : ∀ (K : H → Option (Ex × List Value × H)), (wrc 2 (g.new (.row [.int .i64 0, .int .i64 0] 94 true)) g.nx 0 (.agg #[iv x.1, iv x.2])).bind K = K g3 := fun K => by
        rw [hg3]
        unfold wrc
        rw [blk_new_self]
        rfl
      have e1 : ∀ (K : Value → Option (Ex × List Value × H)), (six v1 (i : Int) 2 fun b o => ld Tryd.prog g 94 b o K) = K (.agg #[iv x.1, iv x.2]) := fun K =>
        (hs1.ext xg).ldA ag94 sz94 (by omega) (x := [iv x.1, iv x.2]) (by rw [Int.toNat_natCast, List.getElem?_map, hx]; rfl) K
      have hs53 := hs5.ext (xg.trans x3)
      have hrd : g3.rd g.nx 0 2 = some [iv x.1, iv x.2] := rd_all hb3 rfl
      have start : f30_l1 rn 200 v1 v5 v6 L.length [.bool false, iv i] g = if mtE e x = true then
          (ld Tryd.prog g3 3 g.nx 0 fun v17 => asI .i64 v17 fun n15 => six v6 n15 1 fun b10 b11 => ld Tryd.prog g3 3 b10 b11 fun v18 => asI .i64 v18 fun n16 => ld Tryd.prog g3 3 g.nx (AM.off 0 1) fun v19 => asI .i64 v19 fun n17 =>
            nn n17 (six v6 n15 1 fun b12 b13 => st Tryd.prog g3 3 b12 b13 (.int .i64 (AM.or .i64 n16 (AM.shl .i64 1 n17))) fun h9 => some (.normal, [.bool false, iv ((i + 1 : Nat) : Int)], h9)))
          else some (.ret, [.bool false, iv i], g3) := by
        unfold f30_l1
        rw [show AM.gv [.bool false, iv i] 1 = iv i from rfl, show AM.gv [.bool false, iv i] 0 = .bool false from rfl, asI_int, lt_t (by omega), ifB_true, asK_int]
        rw [e1, al_eq, w94, nx_eq, w2]
        simp only [nx_eq, d94, hrd, Option.bind_some, asK_int, getE0 hs53 he, getE1 hs53 he, asI_int, kbld94, hadd]
        rw [show ([iv x.1, iv x.2] : List Value).toArray = #[.int .i64 x.1, .int .i64 x.2] from rfl, keqv94, keqv94]
        unfold mtE
        cases h4 : (x.1 == (e.1 : Int) && x.2 == (e.2 : Int)) with
        | true =>
          rw [Bool.true_or, if_pos rfl, show (!true) = false from rfl, ifB_false]
          simp only [AM.out]
        | false =>
          rw [Bool.false_or, show (!false) = true from rfl, ifB_true]
          cases h5 : (x.1 == (e.2 : Int) && x.2 == (e.1 : Int)) with
          | true =>
            rw [if_pos rfl, show (!true) = false from rfl, ifB_false]
            simp only [AM.out]
          | false =>
            rw [if_neg (by simp), show (!false) = true from rfl, ifB_true]
            simp only [AM.out]
      rw [start]
      by_cases hmt : mtE e x = true
      · rw [if_pos hmt, if_pos hmt]
        obtain ⟨a, c, rfl, hac⟩ := mtE_nat hmt
        dsimp only at *
        have ha : a < A.length := by rcases hac with ⟨h1, h2⟩ | ⟨h1, h2⟩ <;> omega
        have hc : c < A.length := by rcases hac with ⟨h1, h2⟩ | ⟨h1, h2⟩ <;> omega
        have hq6 : g.nx ≠ b6 := by have := iA.lt; omega
        have iA3 := iA.ext x3
        rw [half gA ha hc iA3 (by rw [cell_of hb3]; rfl) (by rw [cell_of hb3]; rfl)]
        have iA4 := half_ia (a := a) (c := c) iA3
        refine ⟨_, _, _, rfl, rfl, rfl, (xg.trans x3).set hb6 _, iA4, gA.addA (by rw [Int.toNat_natCast]; omega), by rw [addA_len]; exact lA⟩
      · rw [if_neg hmt, if_neg hmt]
        exact ⟨_, _, _, rfl, by simp, rfl, rfl, xg.trans x3⟩)
  rw [itL_ok (p := fun (p : (Nat × Nat) × (Int × Int)) => mtE p.1 p.2) (g := fun p (s : List Nat) => addA s p.2.1.toNat p.2.2.toNat), one_fold hlen] at hr
  refine ⟨e, w, h', hl, ?_⟩
  unfold okZ
  by_cases hok : ((E.zip L).all fun p => mtE p.1 p.2) = true
  · rw [if_pos hok] at hr ⊢
    obtain ⟨he, rfl, xg, a1, a2, _⟩ := hr
    exact ⟨xg, rfl, he, a1, a2⟩
  · rw [if_neg hok] at hr ⊢
    obtain ⟨_, he, a1, xg⟩ := hr
    exact ⟨xg, a1, he⟩

noncomputable def okR (g : List Nat) (L : List (Int × Int)) : Bool :=
  decide (L.length = (edgesP g).length) && okZ (edgesP g) L && (List.range g.length).all fun v => decide (rch (aheadP g.length L) (allN g) v = allN g)

theorem s30 {v v1 : Value} {g : List Nat} {L : List (Int × Int)} {h : H} (hg : GrN g) (hs : SlR h 3 1 v (cellsN g)) (hs1 : SlR h 94 2 v1 (cellsQ L)) :
    rn 30 #[v, v1] h = some (.bool (okR g L), h) := by
  have hlen := hg.len
  have hpos := hg.pos
  obtain ⟨ev, h1, e71, x1, hev⟩ := s71 hg.toGrB hs
  have hel := edges_len g hg.toGrB
  have c71 := fun (K : Value → H → Option (Value × H)) => calls_eq (K := K) (xs := [v]) e71
  have hn1 : ∀ {T : Type} (K : Int → Option T), len v1 K = K (L.length : Int) := fun K => by rw [hs1.len]; simp
  have hne : ∀ {T : Type} (K : Int → Option T), len ev K = K ((edgesP g).length : Int) := fun K => by rw [hev.len]; simp
  have hnv : ∀ {T : Type} (K : Int → Option T), len v K = K (g.length : Int) := fun K => by rw [hs.len]; simp
  unfold okR
  by_cases hlL : L.length = (edgesP g).length
  · rw [decide_eq_true hlL, Bool.true_and]
    have i6 := ia_new (h := h1) (n := g.length) (by omega) (l := List.replicate g.length 0) (by simp)
    have hz : (List.replicate g.length 0).map Int.ofNat = List.replicate g.length 0 := by simp
    have jz : ∀ {h b v}, IA h b v (List.replicate g.length 0) → IA h b v ((List.replicate g.length 0).map Int.ofNat) := fun a => by rw [hz]; exact a
    obtain ⟨e, w, h2, hl, x2, hw, hr⟩ := s30_loop (L := L) (n := g.length) (E := edgesP g) (v1 := v1) (v5 := ev) (h1 := h1) (fun e he => by obtain ⟨h1, h2, _⟩ := mem_edges.1 he; omega) hlen hlL hel
      (hs1.ext x1.toExt) hev (Ext.new _ _) (Nat.le_refl _) (jz i6)
    have mk := fun (h : H) (K : Value → H → Option (Value × H)) => mks_ints (P := Tryd.prog) (t := 22) (e := 3) app22 zero3 (n := g.length) (by omega) (h := h) K
    have start : ∀ (r : Option (Value × H)), (onE e 0 (
        lp 200 (f30_l2 rn 200 v (.slice (some ⟨h1.nx, 0, none⟩) g.length g.length) g.length) [AM.gv w 0, (.int .i64 0)] h2 fun e1 ws3 h13 =>
        onE e1 2 (
          some ((.bool true), h13)) (
          onR e1 (
            some (AM.gv ws3 0, h13)))) (
        onR e (
          some (AM.gv w 0, h2)))) = r → f30 rn 200 v v1 h = r := by
      intro r hr
      unfold f30
      rw [c71, hn1, hne, eqN, decide_eq_true hlL, show (!true) = false from rfl, ifB_false, hnv, mk, hn1]
      simp only [hnv]
      exact (lp_eq hl).trans hr
    have hsv := hs.ext (x1.toExt.trans x2)
    by_cases hok : okZ (edgesP g) L = true
    · rw [if_pos hok] at hr
      obtain ⟨rfl, a6, gA⟩ := hr
      have lA := ahead_len g.length L
      generalize aheadP g.length L = A at *
      have hW : allN g < 2 ^ A.length := by rw [lA]; exact allN_lt g
      have c68 := fun (K : Value → H → Option (Ex × List Value × H)) => calls_eq (K := K) (xs := [v]) (s68 hg.toGrB hsv)
      have c33 := fun (u : Nat) (hu : u < g.length) (K : Value → H → Option (Ex × List Value × H)) => calls_eq (K := K) (xs := [.slice (some ⟨h1.nx, 0, none⟩) g.length g.length, iv (allN g : Nat), iv u]) (s33 (v := u) gA a6.slN (by omega) hW)
      rw [hok, Bool.true_and]
      have hl2 := lp_all (F := f30_l2 rn 200 v (.slice (some ⟨h1.nx, 0, none⟩) g.length g.length) g.length) (k := 200) (l := List.range g.length) (h := h2) (fun i => [.bool false, iv i])
        (fun _ u => decide (rch A (allN g) u = allN g)) (fun i => [.bool false, iv i]) 2 [.bool false, iv g.length] (ws := [.bool false, iv 0]) rfl (by simp; omega)
        (by rw [List.length_range]; simp [f30_l2])
        (by
          intro i u hx
          obtain ⟨hi, rfl⟩ := range_get hx
          have hadd : add .i64 (u : Int) 1 = ((u + 1 : Nat) : Int) := by rw [add64 (by omega) (by omega)]; omega
          unfold f30_l2
          rw [show AM.gv [.bool false, iv u] 1 = iv u from rfl, show AM.gv [.bool false, iv u] 0 = .bool false from rfl, asI_int, lt_t (by omega), ifB_true, c68, asI_int, c33 u hi, asI_int, c68, asI_int, eqN]
          by_cases hu : rch A (allN g) u = allN g
          · rw [decide_eq_true hu]
            simp [hadd]
          · rw [decide_eq_false hu]
            simp)
      refine p30 (k := 200) (h1 := h2) (start _ ?_) rfl (x1.toExt.trans x2)
      rw [onE_exit, if_pos rfl, hw]
      rcases hl2 with ⟨i, u, hx, hf, _, hl2⟩ | ⟨hall, hl2⟩
      · refine (lp_eq hl2).trans ?_
        rw [show ((List.range g.length).all fun v => decide (rch A (allN g) v = allN g)) = false by
          rw [Bool.eq_false_iff]
          intro hc
          rw [List.all_eq_true] at hc
          have := hc u (List.mem_of_getElem? hx)
          rw [hf] at this; cases this]
        simp
      · refine (lp_eq hl2).trans ?_
        rw [show ((List.range g.length).all fun v => decide (rch A (allN g) v = allN g)) = true by
          rw [List.all_eq_true]
          intro u hu
          obtain ⟨i, hi, rfl⟩ := List.getElem_of_mem hu
          exact hall i _ (List.getElem?_eq_getElem hi)]
        simp
    · rw [if_neg hok] at hr
      subst hr
      rw [Bool.eq_false_iff.2 hok, Bool.false_and]
      refine p30 (k := 200) (h1 := h2) (start _ ?_) rfl (x1.toExt.trans x2)
      rw [onE_ret, onR_ret, hw]
  · rw [decide_eq_false hlL, Bool.false_and, Bool.false_and]
    refine p30 (k := 0) (h1 := h1) ?_ rfl x1.toExt
    unfold f30
    rw [c71, hn1, hne, eqN, decide_eq_false hlL, show (!false) = true from rfl, ifB_true]

end Go.AM
