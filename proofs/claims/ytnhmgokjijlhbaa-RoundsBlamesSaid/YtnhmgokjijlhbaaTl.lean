/- The table of some spans; the document's Blame; RoundsBlames. -/
import Derived.Test.YtnhmgokjijlhbaaTk
import Derived.Test.YtnhmgokjijlhbaaTi
namespace Go.AM
open Go.Proofs

variable {R : Type}

attribute [local simp] nx_eq nx_new nx_set blk_new blk_set asI_int asK_int asB_bool asP_ptr al_eq bx_eq len_slice onE_exit onE_ret onR_ret Value.cells d3 d4 d22 d27 d45 d47 d50 d52 d67 d88 d89 w3 w22 w27 w45 w47 cell_new cell_set rd_new rd_set off eq lt le ifB gv out eqF1 eqF2 eqF3 eqF4 eqF5 eqF6 eqF7 eqF8 ext20 ext21 kbld47 kbld89

set_option maxHeartbeats 1000000 in
theorem s86 {p e : Int} {sl : Value} {l : List Sp} {set : Nat} {h : H} (hv : tabOk p e l = true) (hset : set < 2 ^ 62) (hs : SlR h 89 4 sl (l.map Sp.cells)) :
    ∃ (sl' : Value) (h' : H) (o : List Nat) (pl : List Int), rn 86 #[.agg #[iv p, iv e, sl], iv set] h = some (.agg #[iv p, iv e, sl'], h') ∧ Ext h h' ∧ SlR h' 89 4 sl' ((partL pl set l 0).map Sp.cells) ∧
      (o.length : Int) = e ∧ (pl.length : Int) = e ∧ (∀ x ∈ o, (x : Int) < e) ∧ (∀ (i x : Nat), o[i]? = some x → pl[x]? = some (i : Int)) ∧ o.Nodup := by
  have he6 : 1 ≤ e ∧ e ≤ 6 := by simp only [tabOk, Bool.and_eq_true, decide_eq_true_iff] at hv; omega
  have hl12 : l.length ≤ 12 := by simp [tabOk] at hv; omega
  have hsn : ∀ {T : Type} (K : Int → Option T), len sl K = K (l.length : Int) := fun K => by rw [hs.len]; simp
  have hee : e = ((e.toNat : Nat) : Int) := by omega
  let h1 := h.new (.row [iv p, iv e, sl] 47 true)
  let h2 := h1.new (.row [iv 0, iv 0, .slice none 0 0] 47 true)
  let h3 := h2.new (.row ((List.replicate e.toNat 0).map iv) 3 true)
  have n1 : h1.nx = h.nx + 1 := rfl
  have n2 : h2.nx = h.nx + 2 := rfl
  have n3 : h3.nx = h.nx + 3 := rfl
  have x3 : Ext h h3 := (((Ext.refl h).new' _).new' _).new' _
  have kmk : ∀ (K : Value → H → Option (Value × H)), mks Try.prog h2 22 e e K = K (.slice (some ⟨h2.nx, 0, none⟩) e.toNat e.toNat) h3 := fun K => by
    have := mks_ints (P := Try.prog) (t := 22) (e := 3) app22 (show zero? Try.prog 3 = some (iv 0) from by kernel_rfl) (n := e.toNat) (by omega) (h := h2) K
    rw [← hee] at this
    exact this
  have t3 : h3.blk h.nx = some (.row [iv p, iv e, sl] 47 true) := by simp [h3, h2, h1]
  have r3 : h3.blk (h.nx + 1) = some (.row [iv 0, iv 0, .slice none 0 0] 47 true) := by simp [h3, h2, h1]
  have hI : OrdI h (h.nx + 3) h.nx (h.nx + 1) (h.nx + 2) p e sl (.slice (some ⟨h2.nx, 0, none⟩) e.toNat e.toNat) [] 0 (List.replicate e.toNat 0) (.slice none 0 0) h3 := by
    refine ⟨by simp, by decide, by simp, by simp, by simp; omega, by simp, x3, by omega, ⟨by omega, t3⟩, ⟨by omega, by omega, r3⟩, ?_, ⟨by omega, by omega, by omega, by omega⟩, .nil⟩
    exact ia_new (h := h2) (n := e.toNat) (by omega) (l := List.replicate e.toNat 0) (by simp)
  obtain ⟨g, o, met, pl, ov, hl1, hI', hoe⟩ := ord_loop (h0 := h) hv hset rfl hs h3 _ hI
  have hstart : ∀ v gg, (AM.ld Try.prog g 3 h.nx 0 fun v23 => asI .i64 v23 fun n64 => AM.ld Try.prog g 3 h.nx (AM.off 0 1) fun v24 => asI .i64 v24 fun n65 => bld Try.prog 47 [(0, (.int .i64 n64)), (1, (.int .i64 n65))] fun v25 =>
      AM.al g 47 [(.int .i64 0), (.int .i64 0), (.slice none 0 0)] fun h19 => AM.st Try.prog h19 47 (AM.nx g) 0 v25 fun h20 => AM.ld Try.prog h20 45 h.nx (AM.off 0 2) fun v26 => len v26 fun n66 =>
      lp 200010 (f86_l5 rn 200010 set (.slice (some ⟨h2.nx, 0, none⟩) e.toNat e.toNat) g v26 n66) [(.int .i64 0)] h20 fun e4 ws9 h27 =>
      onE e4 6 (AM.ld Try.prog h27 47 (AM.nx g) 0 fun v38 => AM.st Try.prog h27 47 (h.nx + 1) 0 v38 fun h28 => AM.ld Try.prog h28 47 (h.nx + 1) 0 fun v39 => some (v39, h28)) none) = some (v, gg) → f86 rn 200010 (.agg #[iv p, iv e, sl]) set h = some (v, gg) := by
    intro v gg hv
    have : f86 rn 200010 (.agg #[iv p, iv e, sl]) set h = (AM.ld Try.prog h2 3 h.nx (AM.off 0 1) fun v1 => asI .i64 v1 fun n1 => mks Try.prog h2 22 n1 n1 fun v2 h3 => lp 200010 (f86_l1 rn 200010 set h v2) [(.slice none 0 0), (.int .i64 0)] h3 fun e3 ws7 h18 =>
      onE e3 0 (AM.ld Try.prog h18 3 h.nx 0 fun v23 => asI .i64 v23 fun n64 => AM.ld Try.prog h18 3 h.nx (AM.off 0 1) fun v24 => asI .i64 v24 fun n65 => bld Try.prog 47 [(0, (.int .i64 n64)), (1, (.int .i64 n65))] fun v25 =>
      AM.al h18 47 [(.int .i64 0), (.int .i64 0), (.slice none 0 0)] fun h19 => AM.st Try.prog h19 47 (AM.nx h18) 0 v25 fun h20 => AM.ld Try.prog h20 45 h.nx (AM.off 0 2) fun v26 => len v26 fun n66 =>
      lp 200010 (f86_l5 rn 200010 set v2 h18 v26 n66) [(.int .i64 0)] h20 fun e4 ws9 h27 =>
      onE e4 6 (AM.ld Try.prog h27 47 (AM.nx h18) 0 fun v38 => AM.st Try.prog h27 47 (h.nx + 1) 0 v38 fun h28 => AM.ld Try.prog h28 47 (h.nx + 1) 0 fun v39 => some (v39, h28)) none) none) := rfl
    rw [this]
    have b2 : h2.blk h.nx = some (.row [iv p, iv e, sl] 47 true) := by simp [h2, h1]
    have kld : ∀ (K : Value → Option (Value × H)), AM.ld Try.prog h2 3 h.nx (AM.off 0 1) K = K (iv e) := fun K => by rw [d3, cell_of b2]; rfl
    rw [kld, asI_int, kmk]
    exact (lp_eq hl1).trans hv
  have hbt := hI'.ht.2
  have hng := hI'.nx
  simp only [d3, cell_of hbt, AM.off, List.getElem?_cons_succ, List.getElem?_cons_zero, Option.bind_some, asI_int, kbld47] at hstart
  simp only [al_st (P := Try.prog) (h := g) (t := 47) (zs := [.int .i64 0, .int .i64 0, .slice none 0 0]) (xs := [iv p, iv e, .slice none 0 0]) sz47 rfl rfl] at hstart
  have x4 := (Ext.refl g).fresh 47 [iv 0, iv 0, .slice none 0 0] [iv p, iv e, .slice none 0 0]
  have b4 := blk_fresh g 47 [iv 0, iv 0, .slice none 0 0] [iv p, iv e, .slice none 0 0]
  have n4 : (g.fresh 47 [iv 0, iv 0, .slice none 0 0] [iv p, iv e, .slice none 0 0]).nx = g.nx + 1 := rfl
  generalize g.fresh 47 [iv 0, iv 0, .slice none 0 0] [iv p, iv e, .slice none 0 0] = h4 at *
  have t4 := (x4.blk _ (by omega)).trans hbt
  have r4 := (x4.blk _ (by omega)).trans hI'.hr.2.2
  have ia4 := hI'.ia.ext x4
  have hs4 := hs.ext (hI'.ext.trans x4)
  obtain ⟨ws', h', hl, hx, hgn, sv, hg2, hap, rfl⟩ := lp_for (F := f86_l5 rn 200010 set (.slice (some ⟨h2.nx, 0, none⟩) e.toNat e.toNat) g sl l.length) (k := 200010) (l := l) (fun _ _ (_ : Unit) => ())
    (fun i _ ws g' => Ext g g' ∧ g.nx + 1 ≤ g'.nx ∧ ∃ sv, g'.blk g.nx = some (.row [iv p, iv e, sv] 47 true) ∧ AqR (g.nx + 1) g' 89 4 sv ((partL pl set (l.take i) 0).map Sp.cells) ∧ ws = [iv i]) 6 (ws := [iv 0]) (h := h4) (s0 := ())
    ⟨x4, by omega, _, b4, .nil, rfl⟩ (by omega)
    (by
      rintro _ ws g' ⟨_, _, sv, _, _, rfl⟩
      simp [f86_l5])
    (by
      rintro i c _ ws g1 hc ⟨x1, hgn, sv, hg2, hap, rfl⟩
      have hi := (List.getElem?_eq_some_iff.1 hc).1
      have hadd : add .i64 (i : Int) 1 = (i : Int) + 1 := add64 (by omega) (by omega)
      have hbit : AM.and .i64 (shr .i64 (set : Int) (i : Int)) 1 = if set.testBit i then 1 else 0 := bit_nat (by omega) (by omega)
      have y7 := (Ext.refl g1).fresh 89 [iv 0, iv 0, iv 0, iv 0] c.cells
      have hcb := blk_fresh g1 89 [iv 0, iv 0, iv 0, iv 0] c.cells
      have n7 : (g1.fresh 89 [iv 0, iv 0, iv 0, iv 0] c.cells).nx = g1.nx + 1 := rfl
      unfold f86_l5
      rw [show AM.gv [iv i] 0 = iv i from rfl, asI_int, lt_t (by omega), ifB_true, asK_int, (hs.ext (hI'.ext.trans x1)).ldA ag89 sz89 (by omega) (x := c.cells) (by simp [hc]),
        al_st (zs := [iv 0, iv 0, iv 0, iv 0]) (xs := c.cells) sz89 rfl rfl]
      generalize g1.fresh 89 [iv 0, iv 0, iv 0, iv 0] c.cells = h7 at *
      have x7 := x1.trans y7
      have g7 := (y7.blk g.nx (by omega)).trans hg2
      have a7 := hap.ext y7
      have ia7 := hI'.ia.ext x7
      simp only [Sp.cells] at hcb
      have hok := sp_of hv (List.mem_of_getElem? hc)
      have hpl := hI'.len
      have ga : ∀ (K : Value → Option (Ex × List Value × H)), (six (.slice (some ⟨h2.nx, 0, none⟩) e.toNat e.toNat) c.a 1 fun b o => (h7.cell b o).bind K) = K (iv (atI pl c.a)) := fun K => getS ia7.slR (by omega) (by omega) K
      have gb : ∀ (K : Value → Option (Ex × List Value × H)), (six (.slice (some ⟨h2.nx, 0, none⟩) e.toNat e.toNat) c.b 1 fun b o => (h7.cell b o).bind K) = K (iv (atI pl c.b)) := fun K => getS ia7.slR (by omega) (by omega) K
      by_cases hb : set.testBit i = true
      · have htake := partL_take (pl := pl) (set := set) hc
        rw [if_pos hb] at htake
        have hlen2 := partL_len (pl := pl) (set := set) (l.take i) 0
        rw [List.length_take] at hlen2
        obtain ⟨v', h9, e9, a9, n9, k9, b9, hb9, hb9'⟩ := a7.push_ck app45 app45 (bls45 (ren pl c)) rfl rfl (by rw [List.length_map]; omega) (by omega)
        have k9' : ∀ b, b < g.nx + 1 → h9.blk b = h7.blk b := fun b hb => k9 b (by omega) (fun h => by have := (a7.blkOf h).1; omega)
        have g9 := (k9' g.nx (by omega)).trans g7
        have hst : wrc 1 h9 g.nx 2 v' = some (h9.set g.nx (.row [iv p, iv e, v'] 47 true)) := by rw [wrc_one g9 a9.cells.1 a9.cells.2 (by simp)]; rfl
        have ee := fun (K : Value → H → Option (Ex × List Value × H)) => e9 g.nx K (by omega)
        simp only [ren] at ee
        refine ⟨[iv ((i : Int) + 1)], h9.set g.nx (.row [iv p, iv e, v'] 47 true), ?_, ⟨by rw [nx_set]; omega, fun b hb => ?_⟩, by rw [nx_set]; omega, v', blk_set_self _ _ _, ?_, rfl⟩
        · simp [cell_of hcb, cell_of g7, nn_ge (show (0 : Int) ≤ (i : Int) by omega), hbit, hb, ga, gb, ee, w45, hst, hadd]
        · rw [blk_set_ne _ _ _ (by omega), k9' b (by omega)]
          exact x7.blk b hb
        · rw [htake, List.map_append]
          refine a9.keep (by rw [nx_set]; omega) fun b hb => blk_set_ne _ _ _ ?_
          rw [hb9] at hb; cases hb; omega
      · have htake := partL_take (pl := pl) (set := set) hc
        rw [if_neg hb, List.append_nil] at htake
        refine ⟨[iv ((i : Int) + 1)], h7, ?_, x7, by omega, sv, g7, by rw [htake]; exact a7, rfl⟩
        simp [nn_ge (show (0 : Int) ≤ (i : Int) by omega), hbit, hb, hadd])
  rw [List.take_length] at hap
  have r5 := (hx.blk _ (by omega)).trans hI'.hr.2.2
  have hst : wrc 3 h' (h.nx + 1) 0 (.agg #[iv p, iv e, sv]) = some (h'.set (h.nx + 1) (.row [iv p, iv e, sv] 47 true)) := by
    simp only [wrc, r5]
    rw [if_pos ⟨rfl, by simp, by simp [Value.cells, hap.cells.2]; exact ⟨rfl, rfl⟩⟩]
    rfl
  refine ⟨sv, h'.set (h.nx + 1) (.row [iv p, iv e, sv] 47 true), o, pl, x86 (k := 200010) (hstart _ _ ?_) (by obtain ⟨x, y, z, hz⟩ := hap.isSl; rw [hz]; rfl), ?_, ?_, hoe, hI'.len, hI'.lt, hI'.pos, hI'.nd⟩
  · simp only [nx_eq, d45, cell_of t4, List.getElem?_cons_succ, List.getElem?_cons_zero, Option.bind_some, hsn]
    refine (lp_eq hl).trans ?_
    simp [rd_of hg2, hst]
  · refine ⟨by have := hI'.ext.nx; have := hx.nx; rw [nx_set]; omega, fun b hb => ?_⟩
    rw [blk_set_ne _ _ _ (by omega), hx.blk b (by omega)]
    exact hI'.ext.blk b hb
  · refine (hap.keep (by rw [nx_set]; omega) fun b hb => blk_set_ne _ _ _ ?_).slR
    have := (hap.blkOf hb).1
    omega

/-- Does no timetable keep the spans of a set? -/
def infeas (p e : Int) (l : List Sp) (set : Nat) : Prop := firstP p l set e.toNat [] = none

theorem infeas_iff {p e : Int} {l : List Sp} {set : Nat} (hv : tabOk p e l = true) : infeas p e l set ↔ ¬ ∃ r : List Int, (r.length : Int) = e ∧ goodT p l set 0 r := by
  have he6 : 1 ≤ e ∧ e ≤ 6 := by simp only [tabOk, Bool.and_eq_true, decide_eq_true_iff] at hv; omega
  constructor
  · rintro h ⟨r, hr, hg⟩
    exact first_none hv e.toNat [] r (by simp; omega) h List.nil_prefix hr hg
  · intro h
    unfold infeas
    cases hf : firstP p l set e.toNat [] with
    | none => rfl
    | some r =>
      have := firstP_len _ _ _ hf
      exact absurd ⟨r, by simp at this; omega, (first_some hv e.toNat [] r (by simp; omega) (by simp) hf).2⟩ h

theorem keep_imax {a b : Int} (ha : 0 ≤ a) : 0 ≤ imax a b := by have := imax_or a b; omega

theorem mem_partL {pl : List Int} {set : Nat} {c' : Sp} : ∀ (l : List Sp) (i : Nat), c' ∈ partL pl set l i ↔ ∃ j c, l[j]? = some c ∧ set.testBit (i + j) = true ∧ c' = ren pl c := by
  intro l
  induction l with
  | nil => intro i; simp [partL]
  | cons c l ih =>
    intro i
    have h2 : (∃ j c0, (c :: l)[j]? = some c0 ∧ set.testBit (i + j) = true ∧ c' = ren pl c0) ↔ (set.testBit i = true ∧ c' = ren pl c) ∨ ∃ j c0, l[j]? = some c0 ∧ set.testBit (i + 1 + j) = true ∧ c' = ren pl c0 := by
      constructor
      · rintro ⟨j, c0, h1, h2, h3⟩
        cases j with
        | zero => simp at h1; subst h1; exact .inl ⟨h2, h3⟩
        | succ j => exact .inr ⟨j, c0, by simpa using h1, by rw [show i + 1 + j = i + (j + 1) by omega]; exact h2, h3⟩
      · rintro (⟨h1, h2⟩ | ⟨j, c0, h1, h2, h3⟩)
        · exact ⟨0, c, rfl, h1, h2⟩
        · exact ⟨j + 1, c0, by simpa using h1, by rw [show i + (j + 1) = i + 1 + j by omega]; exact h2, h3⟩
    rw [h2]
    simp only [partL]
    split
    · rename_i hb
      rw [List.mem_cons, ih]
      simp [hb]
    · rename_i hb
      rw [ih]
      simp [hb]

theorem at_some {b : List Int} {i : Int} (h0 : 0 ≤ i) (h1 : i < b.length) : b[i.toNat]? = some (atI b i) := by
  unfold atI
  rw [List.getElem?_eq_getElem (by omega)]
  rfl

/-- An order, and the places in it. -/
structure Perm (e : Int) (o : List Nat) (pl : List Int) : Prop where
  ol : (o.length : Int) = e
  pll : (pl.length : Int) = e
  lt : ∀ x ∈ o, (x : Int) < e
  pos : ∀ (i x : Nat), o[i]? = some x → pl[x]? = some (i : Int)
  nd : o.Nodup

theorem Perm.all {e : Int} {o : List Nat} {pl : List Int} (q : Perm e o pl) {v : Int} (h0 : 0 ≤ v) (h1 : v < e) : ∃ i : Nat, o[i]? = some v.toNat ∧ atI pl v = i ∧ (i : Int) < e := by
  have hmem : v.toNat ∈ o := by
    refine Classical.byContradiction fun hno => ?_
    have h2 : (v.toNat :: o).Nodup := List.nodup_cons.2 ⟨hno, q.nd⟩
    have := h2.length_le_of_subset (l₂ := List.range e.toNat) fun x hx => by
      rcases List.mem_cons.1 hx with rfl | hx
      · exact List.mem_range.2 (by omega)
      · exact List.mem_range.2 (by have := q.lt x hx; omega)
    rw [List.length_range, List.length_cons] at this
    have := q.ol
    omega
  obtain ⟨i, hi, hio⟩ := List.getElem_of_mem hmem
  have h3 : o[i]? = some v.toNat := by rw [List.getElem?_eq_getElem hi, hio]
  refine ⟨i, h3, ?_, by have := q.ol; omega⟩
  unfold atI
  rw [q.pos i _ h3]
  rfl

theorem Perm.inj {e : Int} {o : List Nat} {pl : List Int} (q : Perm e o pl) {a b : Int} (ha : 0 ≤ a ∧ a < e) (hb : 0 ≤ b ∧ b < e) (h : atI pl a = atI pl b) : a = b := by
  obtain ⟨i, h1, h2, _⟩ := q.all ha.1 ha.2
  obtain ⟨j, h3, h4, _⟩ := q.all hb.1 hb.2
  have : i = j := by omega
  subst this
  rw [h1] at h3
  simp at h3
  omega

theorem part_ok {p e : Int} {l : List Sp} {set : Nat} {o : List Nat} {pl : List Int} (hv : tabOk p e l = true) (q : Perm e o pl) : tabOk p e (partL pl set l 0) = true := by
  have hlen := partL_len (pl := pl) (set := set) l 0
  have hv' := hv
  simp only [tabOk, Bool.and_eq_true, decide_eq_true_iff, List.all_eq_true] at hv' ⊢
  refine ⟨⟨hv'.1.1, by omega⟩, fun c' hc' => ?_⟩
  obtain ⟨j, c, hc, _, rfl⟩ := (mem_partL l 0).1 hc'
  have hok := hv'.2 c (List.mem_of_getElem? hc)
  simp only [spOk, Bool.and_eq_true, decide_eq_true_iff] at hok ⊢
  obtain ⟨i1, _, h2, h3⟩ := q.all hok.1.1.1.1.1.1.1.1 hok.1.1.1.1.1.1.1.2
  obtain ⟨i2, _, h5, h6⟩ := q.all hok.1.1.1.1.1.1.2 hok.1.1.1.1.1.2
  have hne : atI pl c.a ≠ atI pl c.b := fun h => hok.1.1.1.1.2 (q.inj ⟨hok.1.1.1.1.1.1.1.1, hok.1.1.1.1.1.1.1.2⟩ ⟨hok.1.1.1.1.1.1.2, hok.1.1.1.1.1.2⟩ h)
  simp only [ren]
  refine ⟨⟨⟨⟨⟨⟨⟨⟨by omega, by omega⟩, by omega⟩, by omega⟩, hne⟩, hok.1.1.1.2⟩, hok.1.1.2⟩, hok.1.2⟩, hok.2⟩

theorem at_map {α : Type} {f : α → Int} {l : List α} {i : Int} {x : α} (h : l[i.toNat]? = some x) : atI (l.map f) i = f x := by
  unfold atI
  rw [List.getElem?_map, h]
  rfl

theorem keep_iff {p : Int} {c : Sp} {x y : Int} : keepP p c x y = true ↔ c.lo + (y - x - c.lo) % p ≤ c.hi := by unfold keepP; exact decide_eq_true_iff

/-- The events may be numbered anew. -/
theorem part_infeas {p e : Int} {l : List Sp} {set : Nat} {o : List Nat} {pl : List Int} (hv : tabOk p e l = true) (q : Perm e o pl) : tableP p e (partL pl set l 0) = none ↔ infeas p e l set := by
  have hv' := part_ok (set := set) hv q
  have e1 : tableP p e (partL pl set l 0) = none ↔ infeas p e (partL pl set l 0) (fullS (partL pl set l 0)) := Iff.rfl
  rw [e1, infeas_iff hv', infeas_iff hv]
  refine not_congr ⟨?_, ?_⟩
  · rintro ⟨r', hr, hg1, hg2⟩
    refine ⟨pl.map (atI r'), by rw [List.length_map]; exact q.pll, fun x hx => ?_, fun j c hj hs _ => ?_⟩
    · obtain ⟨y, hy, rfl⟩ := List.mem_map.1 hx
      obtain ⟨v, hv1, rfl⟩ := List.getElem_of_mem hy
      obtain ⟨i, _, h2, h3⟩ := q.all (v := (v : Int)) (by omega) (by have := q.pll; omega)
      have h4 : atI pl (v : Int) = pl[v] := by unfold atI; rw [Int.toNat_natCast, List.getElem?_eq_getElem hv1]; rfl
      rw [← h4, h2]
      exact hg1 _ (List.mem_of_getElem? (at_some (by omega) (by omega)))
    · have hok := sp_of hv (List.mem_of_getElem? hj)
      obtain ⟨i1, _, h2, h3⟩ := q.all hok.1 hok.2.1
      obtain ⟨i2, _, h5, h6⟩ := q.all hok.2.2.1 hok.2.2.2.1
      have hm : ren pl c ∈ partL pl set l 0 := (mem_partL l 0).2 ⟨j, c, hj, by rw [Nat.zero_add]; exact hs, rfl⟩
      obtain ⟨k, hk, hke⟩ := List.getElem_of_mem hm
      have hkk := List.getElem?_eq_getElem hk
      have := hg2 k _ hkk (full_bit hkk) (by rw [hke]; exact keep_imax (by simp only [ren]; omega))
      rw [hke] at this
      rw [keep_iff] at this
      simp only [ren] at this
      have hpl := q.pll
      rw [keep_iff, at_map (at_some hok.1 (by omega)), at_map (at_some hok.2.2.1 (by omega))]
      exact this
  · rintro ⟨r, hr, hg1, hg2⟩
    refine ⟨o.map fun (v : Nat) => atI r (v : Int), by rw [List.length_map]; exact q.ol, fun x hx => ?_, fun j c' hj _ _ => ?_⟩
    · obtain ⟨y, hy, rfl⟩ := List.mem_map.1 hx
      have := q.lt y hy
      exact hg1 _ (List.mem_of_getElem? (at_some (by omega) (by omega)))
    · obtain ⟨k, c, hk, hs, rfl⟩ := (mem_partL l 0).1 (List.mem_of_getElem? hj)
      rw [Nat.zero_add] at hs
      have hok := sp_of hv (List.mem_of_getElem? hk)
      obtain ⟨i1, h1, h2, h3⟩ := q.all hok.1 hok.2.1
      obtain ⟨i2, h4, h5, h6⟩ := q.all hok.2.2.1 hok.2.2.2.1
      have := hg2 k c hk hs (keep_imax hok.1)
      rw [keep_iff] at this ⊢
      simp only [ren]
      rw [h2, h5, at_map (by rw [Int.toNat_natCast]; exact h4), at_map (by rw [Int.toNat_natCast]; exact h1)]
      rw [show ((c.a.toNat : Nat) : Int) = c.a by omega, show ((c.b.toNat : Nat) : Int) = c.b by omega]
      exact this

/-! ### The least of the smallest -/

theorem range_find {β : Type} {F : Nat → Option β} : ∀ (n : Nat), ((List.range n).findSome? F = none ↔ ∀ i, i < n → F i = none) ∧ ∀ r, (List.range n).findSome? F = some r → ∃ i, i < n ∧ F i = some r ∧ ∀ j, j < i → F j = none := by
  intro n
  induction n with
  | zero => exact ⟨by simp, by simp⟩
  | succ n ih =>
    rw [List.range_succ, List.findSome?_append]
    refine ⟨?_, fun r hr => ?_⟩
    · constructor
      · intro h i hi
        have h1 : (List.range n).findSome? F = none := by
          cases hh : (List.range n).findSome? F with
          | none => rfl
          | some r => rw [hh] at h; simp at h
        by_cases hin : i < n
        · exact ih.1.1 h1 i hin
        · have : i = n := by omega
          subst this
          rw [h1] at h
          simpa using h
      · intro h
        rw [ih.1.2 fun i hi => h i (by omega)]
        simp [h n (by omega)]
    · cases hh : (List.range n).findSome? F with
      | some r' =>
        rw [hh] at hr
        simp at hr
        subst hr
        obtain ⟨i, h1, h2, h3⟩ := ih.2 r' hh
        exact ⟨i, by omega, h2, h3⟩
      | none =>
        rw [hh] at hr
        have hn := ih.1.1 hh
        refine ⟨n, by omega, ?_, hn⟩
        simpa using hr

/-- The least of the smallest sets that no timetable keeps. -/
def IsB (p e : Int) (l : List Sp) (n s : Nat) : Prop := s < n ∧ infeas p e l s ∧ ∀ t, t < n → infeas p e l t → pop s < pop t ∨ pop s = pop t ∧ s ≤ t

theorem isB_eq {p e : Int} {l : List Sp} {n s t : Nat} (hs : IsB p e l n s) (ht : IsB p e l n t) : s = t := by
  have h1 := hs.2.2 t ht.1 ht.2.1
  have h2 := ht.2.2 s hs.1 hs.2.1
  omega

theorem feas_zero {p e : Int} {l : List Sp} (hv : tabOk p e l = true) : ¬ infeas p e l 0 := by
  rw [infeas_iff hv]
  intro h
  have he6 : 1 ≤ e ∧ e ≤ 6 := by simp only [tabOk, Bool.and_eq_true, decide_eq_true_iff] at hv; omega
  obtain ⟨hp1, hp12⟩ := tab_p hv
  exact h ⟨List.replicate e.toNat 0, by simp; omega, fun x hx => by rw [List.mem_replicate] at hx; omega, fun j c _ hs => by simp at hs⟩

theorem pop_full {n s : Nat} (hn : n ≤ 12) (hs : s < 2 ^ n) : pop s ≤ n := by
  unfold pop
  rw [show 12 = n + (12 - n) by omega, List.range_add, List.countP_append]
  have h1 : ((List.range n).countP fun i => s.testBit i) ≤ n := Nat.le_trans List.countP_le_length (by simp)
  have h2 : (((List.range (12 - n)).map (n + ·)).countP fun i => s.testBit i) = 0 := by
    rw [List.countP_eq_zero]
    intro x hx
    obtain ⟨y, _, rfl⟩ := List.mem_map.1 hx
    rw [testBit_big hs (by omega)]
    simp
  omega

theorem blame_spec {p e : Int} {l : List Sp} (hv : tabOk p e l = true) : (∀ s, blameP p e l = some s → IsB p e l (2 ^ l.length) s) ∧ (blameP p e l = none → ∀ t, t < 2 ^ l.length → ¬ infeas p e l t) := by
  have hl12 : l.length ≤ 12 := by simp [tabOk] at hv; omega
  have h4096 : 2 ^ l.length ≤ 4096 := Nat.pow_le_pow_right (n := 2) (by omega) hl12
  have hpos : ∀ t, t < 2 ^ l.length → infeas p e l t → ∃ s, s < l.length ∧ pop t = s + 1 := by
    intro t ht hi
    have h0 : 0 < t := Nat.pos_of_ne_zero fun h => by subst h; exact feas_zero hv hi
    have h1 := pop_pos h0 (by omega)
    have h2 := pop_full hl12 ht
    exact ⟨pop t - 1, by omega, by omega⟩
  have hnone : ∀ s, blameIn p e l s = none ↔ ∀ t, t < 2 ^ l.length → ¬ (pop t = s + 1 ∧ infeas p e l t) := by
    intro s
    unfold blameIn
    rw [(range_find _).1]
    refine forall_congr' fun t => forall_congr' fun ht => ?_
    show (if pop t = s + 1 ∧ firstP p l t e.toNat [] = none then some t else none) = none ↔ ¬ (pop t = s + 1 ∧ firstP p l t e.toNat [] = none)
    by_cases h : pop t = s + 1 ∧ firstP p l t e.toNat [] = none
    · rw [if_pos h]; simp [h]
    · rw [if_neg h]; simp [h]
  refine ⟨fun s hs => ?_, fun hs t ht hi => ?_⟩
  · obtain ⟨i, hi, h1, h2⟩ := (range_find _).2 s hs
    obtain ⟨j, hj, h3, h4⟩ := (range_find _).2 s h1
    split at h3
    · rename_i hc
      cases h3
      refine ⟨hj, hc.2, fun t ht hti => ?_⟩
      obtain ⟨s', hs', hps⟩ := hpos t ht hti
      rw [hc.1, hps]
      rcases Nat.lt_trichotomy i s' with h | h | h
      · left; omega
      · subst h
        right
        refine ⟨rfl, ?_⟩
        refine Classical.byContradiction fun hc' => ?_
        have := h4 t (by omega)
        rw [if_pos (show pop t = i + 1 ∧ firstP p l t e.toNat [] = none from ⟨hps, hti⟩)] at this
        cases this
      · exact absurd ⟨hps, hti⟩ ((hnone s').1 (h2 s' h) t ht)
    · cases h3
  · obtain ⟨s', hs', hps⟩ := hpos t ht hi
    have := (range_find l.length).1.1 hs s' hs'
    exact (hnone s').1 this t ht ⟨hps, hi⟩

/-- One set more. -/
noncomputable def blameG (p e : Int) (l : List Sp) (set : Nat) (st : Nat × Nat) : Nat × Nat :=
  open Classical in if st.2 ≤ pop set then st else if infeas p e l set then (set, pop set) else st

def BI (p e : Int) (l : List Sp) (i : Nat) (st : Nat × Nat) : Prop :=
  (st.2 = 99 ∧ ∀ t, t < i → ¬ infeas p e l t) ∨ (st.2 = pop st.1 ∧ IsB p e l i st.1)

theorem blameG_ok {p e : Int} {l : List Sp} {i : Nat} {st : Nat × Nat} (h : BI p e l i st) : BI p e l (i + 1) (blameG p e l i st) := by
  have hp := pop_le i
  unfold blameG
  rcases h with ⟨h1, h2⟩ | ⟨h1, h2, h3, h4⟩
  · rw [if_neg (by omega)]
    by_cases hi : infeas p e l i
    · rw [if_pos hi]
      refine .inr ⟨rfl, by simp only; omega, hi, fun t ht hti => ?_⟩
      by_cases hte : t = i
      · subst hte; exact .inr ⟨rfl, Nat.le_refl _⟩
      · exact absurd hti (h2 t (by omega))
    · rw [if_neg hi]
      refine .inl ⟨h1, fun t ht => ?_⟩
      by_cases hte : t = i
      · subst hte; exact hi
      · exact h2 t (by omega)
  · have same : (infeas p e l i → pop st.1 < pop i ∨ pop st.1 = pop i) → BI p e l (i + 1) st := by
      intro hh
      refine .inr ⟨h1, by omega, h3, fun t ht hti => ?_⟩
      by_cases hte : t = i
      · subst hte
        rcases hh hti with h | h
        · exact .inl h
        · exact .inr ⟨h, by omega⟩
      · exact h4 t (by omega) hti
    by_cases hle : st.2 ≤ pop i
    · rw [if_pos hle]
      exact same fun _ => by omega
    · rw [if_neg hle]
      by_cases hi : infeas p e l i
      · rw [if_pos hi]
        refine .inr ⟨rfl, by simp only; omega, hi, fun t ht hti => ?_⟩
        by_cases hte : t = i
        · subst hte; exact .inr ⟨rfl, Nat.le_refl _⟩
        · have := h4 t (by omega) hti
          left
          simp only
          omega
      · rw [if_neg hi]
        exact same fun h => absurd h hi

theorem BI_foldl {p e : Int} {l : List Sp} : ∀ (n i : Nat) (st : Nat × Nat), BI p e l i st → BI p e l (i + n) (foldI (fun _ s st => blameG p e l s st) (List.range' i n) i st) := by
  intro n
  induction n with
  | zero => intro i st h; exact h
  | succ n ih =>
    intro i st h
    rw [List.range'_succ]
    simp only [foldI]
    have := ih (i + 1) _ (blameG_ok h)
    rw [show i + 1 + n = i + (n + 1) by omega] at this
    exact this

set_option maxHeartbeats 1000000 in
/-- The document's Blame. -/
theorem s52 {p e : Int} {sl : Value} {l : List Sp} {h : H} (hs : SlR h 89 4 sl (l.map Sp.cells)) (hv : tabOk p e l = true) :
    rn 52 #[.agg #[iv p, iv e, sl]] h = some (match blameP p e l with | some s => .tuple #[iv (s : Nat), iv 0] | none => .tuple #[iv 0, iv 4], h) := by
  have hl12 : l.length ≤ 12 := by simp [tabOk] at hv; omega
  have h4096 : 2 ^ l.length ≤ 4096 := Nat.pow_le_pow_right (n := 2) (by omega) hl12
  have hshl : AM.shl .i64 1 (l.length : Int) = ((2 ^ l.length : Nat) : Int) := shl1_nat (by omega)
  have x1 := Ext.new h (.row [iv p, iv e, sl] 47 true)
  have hb1 : (h.new (.row [iv p, iv e, sl] 47 true)).blk h.nx = some (.row [iv p, iv e, sl] 47 true) := blk_new_self _ _
  have hn1 : h.nx < (h.new (.row [iv p, iv e, sl] 47 true)).nx := Nat.lt_succ_self _
  have kbx : ∀ (K : H → Option (Value × H)), bx h 47 (.agg #[iv p, iv e, sl]) K = K (h.new (.row [iv p, iv e, sl] 47 true)) := fun K => rfl
  have hs1 := hs.ext x1
  generalize h.new (.row [iv p, iv e, sl] 47 true) = h1 at *
  have hsn : ∀ {T : Type} (K : Int → Option T), len sl K = K (l.length : Int) := fun K => by rw [hs.len]; simp
  have count : ∀ (set : Nat) (g : H), set < 4096 → lpGo (f52_l2 rn 200010) 200010 [iv 0, iv set] g = some (.exit 2, [iv (pop set), iv 0], g) := by
    intro set g hset
    obtain ⟨e, ws', g', hlp, rfl, rfl, rfl⟩ := lpGo_inv (F := f52_l2 rn 200010)
      (fun d ws g' => g' = g ∧ ∃ c x : Nat, ws = [iv c, iv x] ∧ d = x ∧ x < 4096 ∧ c + pop x = pop set)
      (fun e ws g' => e = .exit 2 ∧ g' = g ∧ ws = [iv (pop set), iv 0])
      (by
        rintro d ws g' ⟨rfl, c, x, rfl, rfl, hx, hc⟩
        by_cases hx0 : d = 0
        · subst hx0
          rw [pop_zero, Nat.add_zero] at hc
          subst hc
          refine ⟨.exit 2, [iv (pop set), iv 0], g', ?_, .inr ⟨by simp, rfl, rfl, rfl⟩⟩
          simp [f52_l2]
        · obtain ⟨h1, h2⟩ := pop_next (Nat.pos_of_ne_zero hx0) hx
          have hple := pop_le set
          have hsub : sub .i64 (d : Int) 1 = ((d - 1 : Nat) : Int) := by rw [sub64 (by omega) (by omega)]; omega
          have hand : AM.and .i64 (d : Int) ((d - 1 : Nat) : Int) = ((d &&& (d - 1) : Nat) : Int) := and_nat (by omega) (by omega)
          have hadd : add .i64 (c : Int) 1 = ((c + 1 : Nat) : Int) := by rw [add64 (by omega) (by omega)]; omega
          refine ⟨.normal, [iv (c + 1 : Nat), iv (d &&& (d - 1) : Nat)], g', ?_, .inl ⟨rfl, d &&& (d - 1), h2, rfl, c + 1, d &&& (d - 1), rfl, rfl, by omega, by omega⟩⟩
          have hd0 : 0 < d := Nat.pos_of_ne_zero hx0
          unfold f52_l2
          rw [show AM.gv [iv c, iv d] 1 = iv d from rfl, show AM.gv [iv c, iv d] 0 = iv c from rfl, asI_int, lt_t (by omega), ifB_true, asI_int, asI_int, asI_int, hsub, hand, hadd]
          rfl)
      set 200010 (by omega) ⟨rfl, 0, set, rfl, rfl, hset, by omega⟩
    exact hlp
  obtain ⟨ws', g', hlp, xg, rfl⟩ := lp_for (F := f52_l1 rn 200010 h l.length) (k := 200010) (l := List.range (2 ^ l.length)) (fun _ s st => blameG p e l s st)
    (fun i st ws g' => Ext h1 g' ∧ ws = [iv st.1, iv st.2, iv i]) 0 (ws := [iv 0, iv 99, iv 0]) (h := h1) (s0 := ((0, 99) : Nat × Nat))
    ⟨.refl _, rfl⟩ (by simp; omega)
    (by
      rintro st ws g' ⟨_, rfl⟩
      rw [List.length_range]
      unfold f52_l1
      rw [show AM.gv [iv st.1, iv st.2, iv (2 ^ l.length : Nat)] 2 = iv (2 ^ l.length : Nat) from rfl, asI_int, hshl]
      rw [show AM.lt ((2 ^ l.length : Nat) : Int) ((2 ^ l.length : Nat) : Int) = false by simp, ifB_false]
      rfl)
    (by
      rintro i set st ws g2 hx ⟨x2, rfl⟩
      have hi := (List.getElem?_eq_some_iff.1 hx).1
      rw [List.length_range] at hi
      rw [List.getElem?_range hi] at hx
      cases hx
      have hadd : add .i64 (i : Int) 1 = (i : Int) + 1 := add64 (by omega) (by omega)
      have hlt : AM.lt (i : Int) ((2 ^ l.length : Nat) : Int) = true := by rw [AM.lt, decide_eq_true_iff]; omega
      have hbg := (x2.blk _ hn1).trans hb1
      have start : f52_l1 rn 200010 h l.length [iv st.1, iv st.2, iv i] g2 = (if st.2 ≤ pop i then some (.normal, [iv st.1, iv st.2, iv ((i : Int) + 1)], g2) else
          (calls rn g2 86 [.agg #[iv p, iv e, sl], iv i] fun v3 h5 => calls rn h5 49 [v3] fun v4 h6 => ext v4 0 fun _ => ext v4 1 fun v6 => asI .i64 v6 fun n9 =>
            ifB (!(AM.eq n9 0)) (AM.out .normal [iv i, iv (pop i), iv ((i : Int) + 1)] h6) (AM.out .normal [iv st.1, iv st.2, iv ((i : Int) + 1)] h6))) := by
        unfold f52_l1
        rw [show AM.gv [iv st.1, iv st.2, iv i] 2 = iv i from rfl, show AM.gv [iv st.1, iv st.2, iv i] 1 = iv st.2 from rfl, show AM.gv [iv st.1, iv st.2, iv i] 0 = iv st.1 from rfl, asI_int, hshl, hlt, ifB_true]
        refine (lp_eq (count i g2 (by omega))).trans ?_
        rw [onE_exit, if_pos rfl, show AM.gv [iv (pop i), iv 0] 0 = iv (pop i) from rfl, asI_int, asI_int]
        by_cases hle : st.2 ≤ pop i
        · rw [if_pos hle, show AM.le (st.2 : Int) (pop i : Int) = true by rw [AM.le, decide_eq_true_iff]; omega, ifB_true, asI_int, hadd]
          rfl
        · rw [if_neg hle, show AM.le (st.2 : Int) (pop i : Int) = false by rw [AM.le, decide_eq_false_iff_not]; omega, ifB_false, nx_eq, d47, rd_of hbg]
          rw [if_pos (by simp)]
          simp [hadd]
      rw [start]
      by_cases hle : st.2 ≤ pop i
      · rw [if_pos hle]
        refine ⟨_, _, rfl, x2, ?_⟩
        unfold blameG
        rw [if_pos hle]
        rfl
      · rw [if_neg hle]
        obtain ⟨sl5, h5, o, pl, e86, x5, hs5, q1, q2, q3, q4, q5⟩ := s86 (set := i) hv (by omega) (hs1.ext x2)
        have q : Perm e o pl := ⟨q1, q2, q3, q4, q5⟩
        obtain ⟨v7, h7, c7, e49, x7, hres2⟩ := s49 hs5 (part_ok hv q)
        have c86 := fun (K : Value → H → Option (Ex × List Value × H)) => calls_eq (K := K) (xs := [.agg #[iv p, iv e, sl], iv i]) e86
        have c49 := fun (K : Value → H → Option (Ex × List Value × H)) => calls_eq (K := K) (xs := [.agg #[iv p, iv e, sl5]]) e49
        rw [c86, c49, ext20, ext21, asI_int]
        have hiff := part_infeas (set := i) hv q
        rcases hres2 with ⟨hno, rfl, rfl⟩ | ⟨rfl, r, hyes, hsr⟩
        · refine ⟨_, _, rfl, (x2.trans x5).trans x7, ?_⟩
          unfold blameG
          rw [if_neg hle, if_pos (hiff.1 hno)]
          rfl
        · refine ⟨_, _, rfl, (x2.trans x5).trans x7, ?_⟩
          unfold blameG
          rw [if_neg hle, if_neg (fun h => by have := hiff.2 h; rw [this] at hyes; cases hyes)]
          rfl)
  have hbi : BI p e l (2 ^ l.length) (foldI (fun _ s st => blameG p e l s st) (List.range (2 ^ l.length)) 0 (0, 99)) := by
    have := BI_foldl (p := p) (e := e) (l := l) (2 ^ l.length) 0 (0, 99) (.inl ⟨rfl, by simp⟩)
    rw [Nat.zero_add, ← List.range_eq_range'] at this
    exact this
  generalize foldI (fun _ s st => blameG p e l s st) (List.range (2 ^ l.length)) 0 ((0, 99) : Nat × Nat) = st at *
  have hF : f52 rn 200010 (.agg #[iv p, iv e, sl]) h = ifB (AM.eq (st.2 : Int) 99) (some ((.tuple #[(.int .i64 0), (.int .i64 4)]), g')) (some ((.tuple #[iv st.1, (.int .i64 0)]), g')) := by
    unfold f52
    rw [kbx]
    have kld : ∀ (K : Value → Option (Value × H)), AM.ld Try.prog h1 45 (AM.nx h) (AM.off 0 2) K = K sl := fun K => by rw [d45, nx_eq, cell_of hb1]; rfl
    rw [kld, hsn, nn_ge (by omega)]
    refine (lp_eq hlp).trans ?_
    rfl
  obtain ⟨hsome, hnone⟩ := blame_spec hv
  rcases hbi with ⟨h99, hno⟩ | ⟨hp, hB⟩
  · have hb : blameP p e l = none := by
      cases hbb : blameP p e l with
      | none => rfl
      | some s => exact absurd (hsome s hbb).2.1 (hno s (hsome s hbb).1)
    rw [hb]
    refine p52 (k := 200010) (h1 := g') ?_ rfl (x1.trans xg)
    rw [hF, h99]
    rfl
  · have hb : blameP p e l = some st.1 := by
      cases hbb : blameP p e l with
      | none => exact absurd hB.2.1 (hnone hbb _ hB.1)
      | some s => rw [isB_eq (hsome s hbb) hB]
    rw [hb]
    refine p52 (k := 200010) (h1 := g') ?_ rfl (x1.trans xg)
    have := pop_le st.1
    rw [hF, show AM.eq (st.2 : Int) 99 = false by simp; omega, ifB_false]

/-- The law. -/
theorem s15 {h : H} {p e : Int} {sl : Value} {l : List Sp} (hs : SlR h 89 4 sl (l.map Sp.cells)) :
    ∃ h', rn 15 #[.agg #[iv p, iv e, sl]] h = some (.bool true, h') := by
  have x1 := Ext.new h (.row [iv p, iv e, sl] 47 true)
  have hb1 : (h.new (.row [iv p, iv e, sl] 47 true)).blk h.nx = some (.row [iv p, iv e, sl] 47 true) := blk_new_self _ _
  have hn1 : h.nx < (h.new (.row [iv p, iv e, sl] 47 true)).nx := Nat.lt_succ_self _
  have kbx : ∀ (K : H → Option (Value × H)), bx h 47 (.agg #[iv p, iv e, sl]) K = K (h.new (.row [iv p, iv e, sl] 47 true)) := fun K => rfl
  have hs1 := hs.ext x1
  generalize h.new (.row [iv p, iv e, sl] 47 true) = h1 at *
  obtain ⟨sl2, h2, e37, x2, hs2⟩ := s37 (p := p) (e := e) hs1
  have c37 := fun (K : Value → H → Option (Value × H)) => calls_eq (K := K) (xs := [.agg #[iv p, iv e, sl]]) e37
  have c51 := fun (K : Value → H → Option (Value × H)) => calls_eq (K := K) (xs := [.agg #[iv p, iv e, sl2]]) (s51 (p := p) (e := e) hs2)
  have hs3 := hs1.ext x2
  have hb3 := (x2.blk _ hn1).trans hb1
  have c38 := fun (K : Value → H → Option (Value × H)) => calls_eq (K := K) (xs := [.agg #[iv p, iv e, sl]]) (s38 (p := p) (e := e) hs3)
  have c19 := fun (g : H) (K : Value → H → Option (Value × H)) => calls_eq (K := K) (xs := []) (s19 g)
  have hstart : ∀ g, f15 rn 0 (.agg #[iv p, iv e, sl]) h = some (.bool true, g) → ∃ h', rn 15 #[.agg #[iv p, iv e, sl]] h = some (.bool true, h') := fun g hf => ⟨_, t15 hf⟩
  rw [tabOk_take] at c51
  by_cases hv : tabOk p e l = true
  · rw [if_pos hv, show l.take 14 = l from List.take_of_length_le (by simp only [tabOk, Bool.and_eq_true, decide_eq_true_iff] at hv; omega)] at c51
    have c52 := fun (K : Value → H → Option (Value × H)) => calls_eq (K := K) (xs := [.agg #[iv p, iv e, sl]]) (s52 (p := p) (e := e) hs3 hv)
    cases hb : blameP p e l with
    | none =>
      simp only [hb] at c51 c52
      refine hstart h2 ?_
      unfold f15
      rw [kbx]
      simp [rd_of hb1, rd_of hb3, c37, c51, c38, hv, c52, c19, ext]
    | some s =>
      simp only [hb] at c51 c52
      refine hstart h2 ?_
      unfold f15
      rw [kbx]
      simp [rd_of hb1, rd_of hb3, c37, c51, c38, hv, c52, c19, ext]
  · rw [if_neg hv] at c51
    refine hstart h2 ?_
    unfold f15
    rw [kbx]
    simp [rd_of hb1, rd_of hb3, c37, c51, c38, hv, c19, ext]

end Go.AM
