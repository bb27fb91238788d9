/- The table of some spans, with its events numbered anew. -/
import Derived.Test.YtnhmgokjijlhbaaTj
namespace Go.AM
open Go.Proofs

variable {R : Type}

attribute [local simp] nx_eq nx_new nx_set blk_new blk_set asI_int asK_int asB_bool asP_ptr al_eq bx_eq len_slice onE_exit onE_ret onR_ret Value.cells d3 d4 d22 d27 d45 d47 d50 d52 d67 d88 d89 w3 w22 w27 w45 w47 cell_new cell_set rd_new rd_set off eq lt le ifB gv out eqF1 eqF2 eqF3 eqF4 eqF5 eqF6 eqF7 eqF8 ext20 ext21

section
variable {p e : Int} {sl : Value} {l : List Sp} {set met : Nat} {g : H}

theorem loop3 (hv : tabOk p e l = true) (hs : SlR g 89 4 sl (l.map Sp.cells)) (hset : set < 2 ^ 62) (hmet : met < 2 ^ 62) (v : Int) (ws0 ws1 : List Value) (h0 : AM.gv ws0 1 = iv met) (h1 : AM.gv ws1 1 = iv v) :
    ∃ g' w, lpGo (f86_l3 rn 200010 set ws0 ws1 sl l.length) 200010 [iv v, iv 0] g = some (.exit 4, [iv v, w], g') ∧ Ext g g' := by
  have hl12 : l.length ≤ 12 := by simp [tabOk] at hv; omega
  have he6 : 1 ≤ e ∧ e ≤ 6 := by simp only [tabOk, Bool.and_eq_true, decide_eq_true_iff] at hv; omega
  obtain ⟨ws', g', hl, xg, rfl⟩ := lp_for (σ := Unit) (F := f86_l3 rn 200010 set ws0 ws1 sl l.length) (k := 200010) (l := l) (fun _ _ _ => ())
    (fun i _ ws g' => Ext g g' ∧ ws = [iv v, iv i]) 4 (ws := [iv v, iv 0]) (h := g) (s0 := ())
    ⟨.refl _, rfl⟩ (by omega)
    (by
      rintro _ ws g' ⟨_, rfl⟩
      simp [f86_l3])
    (by
      rintro i c _ ws g1 hc ⟨x1, rfl⟩
      have hi := (List.getElem?_eq_some_iff.1 hc).1
      have hadd : add .i64 (i : Int) 1 = (i : Int) + 1 := add64 (by omega) (by omega)
      have x2 := (Ext.refl g1).fresh 89 [iv 0, iv 0, iv 0, iv 0] c.cells
      have hcb := blk_fresh g1 89 [iv 0, iv 0, iv 0, iv 0] c.cells
      refine ⟨[iv v, iv ((i : Int) + 1)], g1.fresh 89 [iv 0, iv 0, iv 0, iv 0] c.cells, ?_, x1.trans x2, rfl⟩
      unfold f86_l3
      rw [show AM.gv [iv v, iv i] 1 = iv i from rfl, show AM.gv [iv v, iv i] 0 = iv v from rfl, asI_int, lt_t (by omega), ifB_true, asK_int, (hs.ext x1).ldA ag89 sz89 (by omega) (x := c.cells) (by simp [hc]),
        al_st (zs := [iv 0, iv 0, iv 0, iv 0]) (xs := c.cells) sz89 rfl rfl]
      generalize g1.fresh 89 [iv 0, iv 0, iv 0, iv 0] c.cells = h7 at *
      simp only [Sp.cells] at hcb
      have hok := sp_of hv (List.mem_of_getElem? hc)
      simp only [h0, h1]
      simp [cell_of hcb, hadd, nn_ge (show (0 : Int) ≤ i by omega), nn_ge hok.1, nn_ge hok.2.2.1])
  exact ⟨g', _, hl, xg⟩

theorem loop4 (hv : tabOk p e l = true) (hs : SlR g 89 4 sl (l.map Sp.cells)) (hset : set < 2 ^ 62) (hmet : met < 2 ^ 62) (at_ v : Int) (ws0 ws1 : List Value) (h0 : AM.gv ws0 1 = iv met) (h1 : AM.gv ws1 1 = iv v) :
    ∃ g' w a, lpGo (f86_l4 rn 200010 set ws0 ws1 sl l.length) 200010 [iv at_, iv 0] g = some (.exit 4, [iv a, w], g') ∧ Ext g g' ∧ (a = at_ ∨ a = v) := by
  have hl12 : l.length ≤ 12 := by simp [tabOk] at hv; omega
  have he6 : 1 ≤ e ∧ e ≤ 6 := by simp only [tabOk, Bool.and_eq_true, decide_eq_true_iff] at hv; omega
  obtain ⟨ws', g', hl, xg, a, ha, rfl⟩ := lp_for (σ := Unit) (F := f86_l4 rn 200010 set ws0 ws1 sl l.length) (k := 200010) (l := l) (fun _ _ _ => ())
    (fun i _ ws g' => Ext g g' ∧ ∃ a, (a = at_ ∨ a = v) ∧ ws = [iv a, iv i]) 4 (ws := [iv at_, iv 0]) (h := g) (s0 := ())
    ⟨.refl _, at_, .inl rfl, rfl⟩ (by omega)
    (by
      rintro _ ws g' ⟨_, a, _, rfl⟩
      simp [f86_l4])
    (by
      rintro i c _ ws g1 hc ⟨x1, a, ha, rfl⟩
      have hi := (List.getElem?_eq_some_iff.1 hc).1
      have hadd : add .i64 (i : Int) 1 = (i : Int) + 1 := add64 (by omega) (by omega)
      have x2 := (Ext.refl g1).fresh 89 [iv 0, iv 0, iv 0, iv 0] c.cells
      have hcb := blk_fresh g1 89 [iv 0, iv 0, iv 0, iv 0] c.cells
      suffices hsuf : ∃ a', (a' = at_ ∨ a' = v) ∧ f86_l4 rn 200010 set ws0 ws1 sl l.length [iv a, iv i] g1 = some (.normal, [iv a', iv ((i : Int) + 1)], g1.fresh 89 [iv 0, iv 0, iv 0, iv 0] c.cells) by
        obtain ⟨a', h2, h3⟩ := hsuf
        exact ⟨_, _, h3, x1.trans x2, a', h2, rfl⟩
      unfold f86_l4
      rw [show AM.gv [iv a, iv i] 1 = iv i from rfl, show AM.gv [iv a, iv i] 0 = iv a from rfl, asI_int, lt_t (by omega), ifB_true, asK_int, (hs.ext x1).ldA ag89 sz89 (by omega) (x := c.cells) (by simp [hc]),
        al_st (zs := [iv 0, iv 0, iv 0, iv 0]) (xs := c.cells) sz89 rfl rfl]
      generalize g1.fresh 89 [iv 0, iv 0, iv 0, iv 0] c.cells = h7 at *
      simp only [Sp.cells] at hcb
      have hok := sp_of hv (List.mem_of_getElem? hc)
      simp only [h0, h1]
      simp only [asK_int, nn_ge (show (0 : Int) ≤ i by omega), nx_eq, d3, cell_of hcb, AM.off, List.getElem?_cons_zero, List.getElem?_cons_succ, Option.bind_some, asI_int, nn_ge hok.1, nn_ge hok.2.2.1, hadd, AM.out, Nat.zero_add]
      have hyes : ∃ a', (a' = at_ ∨ a' = v) ∧ (some (Ex.normal, [iv v, iv ((i : Int) + 1)], h7) : Option (Ex × List Value × H)) = some (.normal, [iv a', iv ((i : Int) + 1)], h7) := ⟨v, .inr rfl, rfl⟩
      have hno : ∃ a', (a' = at_ ∨ a' = v) ∧ (some (Ex.normal, [iv a, iv ((i : Int) + 1)], h7) : Option (Ex × List Value × H)) = some (.normal, [iv a', iv ((i : Int) + 1)], h7) := ⟨a, ha, rfl⟩
      simp only [AM.ifB]
      repeat' split
      all_goals first | exact hyes | exact hno)
  exact ⟨g', _, a, hl, xg, ha⟩

/-- Which event comes next: one that has not come. -/
theorem loop2 {h : H} (hv : tabOk p e l = true) (hs : SlR g 89 4 sl (l.map Sp.cells)) (hset : set < 2 ^ 62) (hmet : met < 2 ^ 62) (hn : h.nx < g.nx) (hbg : g.blk h.nx = some (.row [iv p, iv e, sl] 47 true)) (ws0 : List Value) (h0 : AM.gv ws0 1 = iv met)
    (hfree : ∃ j : Nat, (j : Int) < e ∧ met.testBit j = false) :
    ∃ g' w, ∃ a : Nat, lpGo (f86_l2 rn 200010 set h ws0 e) 200010 [iv (-1), iv 0] g = some (.exit 2, [iv a, w], g') ∧ Ext g g' ∧ (a : Int) < e ∧ met.testBit a = false := by
  have he6 : 1 ≤ e ∧ e ≤ 6 := by simp only [tabOk, Bool.and_eq_true, decide_eq_true_iff] at hv; omega
  have hsn : ∀ {T : Type} (K : Int → Option T), len sl K = K (l.length : Int) := fun K => by rw [hs.len]; simp
  have h0' : ws0[1]?.getD undef = iv met := by simpa using h0
  obtain ⟨ws', g', hl, xg, a, hw, ha⟩ := lp_for (σ := Unit) (F := f86_l2 rn 200010 set h ws0 e) (k := 200010) (l := List.range e.toNat) (fun _ _ _ => ())
    (fun i _ ws g' => Ext g g' ∧ ∃ a : Int, ws = [iv a, iv i] ∧ ((a = -1 ∧ ∀ j : Nat, j < i → met.testBit j = true) ∨ (0 ≤ a ∧ a < e ∧ met.testBit a.toNat = false))) 2 (ws := [iv (-1), iv 0]) (h := g) (s0 := ())
    ⟨.refl _, -1, rfl, .inl ⟨rfl, by simp⟩⟩ (by simp; omega)
    (by
      rintro _ ws g' ⟨_, a, rfl, _⟩
      rw [List.length_range, show ((e.toNat : Nat) : Int) = e by omega]
      simp [f86_l2])
    (by
      rintro i v _ ws g1 hx ⟨x1, a, rfl, ha⟩
      have hi := (List.getElem?_eq_some_iff.1 hx).1
      rw [List.length_range] at hi
      rw [List.getElem?_range hi] at hx
      cases hx
      have hlt : (i : Int) < e := by omega
      have hadd : add .i64 (i : Int) 1 = (i : Int) + 1 := add64 (by omega) (by omega)
      have hbit : AM.and .i64 (shr .i64 (met : Int) (i : Int)) 1 = if met.testBit i then 1 else 0 := bit_nat (by omega) (by omega)
      have hb1 := (x1.blk _ hn).trans hbg
      cases hm : met.testBit i with
      | true =>
        refine ⟨[iv a, iv ((i : Int) + 1)], g1, ?_, x1, a, rfl, ?_⟩
        · simp [f86_l2, hlt, h0', nn_ge (show (0 : Int) ≤ i by omega), hbit, hm, hadd]
        · rcases ha with ⟨rfl, hall⟩ | ha
          · left
            refine ⟨rfl, fun j hj => ?_⟩
            by_cases hji : j = i
            · rw [hji]; exact hm
            · exact hall j (by omega)
          · exact .inr ha
      | false =>
        by_cases ha0 : a < 0
        · obtain ⟨g2, w, hl2, x2⟩ := loop3 hv (hs.ext x1) hset hmet (i : Int) ws0 [iv a, iv i] h0 rfl
          refine ⟨[iv (i : Int), iv ((i : Int) + 1)], g2, ?_, x1.trans x2, i, rfl, .inr ⟨by omega, hlt, by simpa using hm⟩⟩
          have hl2' := fun (K : Ex → List Value → H → Option (Ex × List Value × H)) => lp_eq (K := K) hl2
          simp [f86_l2, hlt, h0', nn_ge (show (0 : Int) ≤ i by omega), hbit, hm, hadd, ha0, cell_of hb1, hsn, hl2']
        · obtain ⟨g2, w, a', hl2, x2, ha'⟩ := loop4 hv (hs.ext x1) hset hmet a (i : Int) ws0 [iv a, iv i] h0 rfl
          refine ⟨[iv a', iv ((i : Int) + 1)], g2, ?_, x1.trans x2, a', rfl, .inr ?_⟩
          · have hl2' := fun (K : Ex → List Value → H → Option (Ex × List Value × H)) => lp_eq (K := K) hl2
            simp [f86_l2, hlt, h0', nn_ge (show (0 : Int) ≤ i by omega), hbit, hm, hadd, ha0, cell_of hb1, hsn, hl2']
          · rcases ha' with rfl | rfl
            · rcases ha with ⟨h, _⟩ | h
              · omega
              · exact h
            · exact ⟨by omega, hlt, by simpa using hm⟩)
  rw [List.length_range] at ha
  rcases ha with ⟨_, hall⟩ | ⟨h1, h2, h3⟩
  · obtain ⟨j, hj, hjm⟩ := hfree
    rw [hall j (by omega)] at hjm
    cases hjm
  · exact ⟨g', _, a.toNat, by rw [hl, hw, show ((a.toNat : Nat) : Int) = a by omega], xg, by omega, h3⟩

end

theorem nodup_free {o : List Nat} {n : Nat} (hlt : o.length < n) : ∃ j : Nat, j < n ∧ j ∉ o := by
  refine Classical.byContradiction fun hc => ?_
  have : ∀ j ∈ List.range n, j ∈ o := fun j hj => Classical.byContradiction fun h => hc ⟨j, List.mem_range.1 hj, h⟩
  have := (List.nodup_range (n := n)).length_le_of_subset this
  rw [List.length_range] at this
  omega

/-- What is held while the events are put in order. -/
structure OrdI (h : H) (lo tb rb pb : Nat) (p e : Int) (sl pv : Value) (o : List Nat) (met : Nat) (pl : List Int) (ov : Value) (g : H) : Prop where
  bits : ∀ j : Nat, met.testBit j = o.contains j
  small : met < 2 ^ 6
  nd : o.Nodup
  lt : ∀ x ∈ o, (x : Int) < e
  len : (pl.length : Int) = e
  pos : ∀ (i x : Nat), o[i]? = some x → pl[x]? = some (i : Int)
  ext : Ext h g
  nx : lo ≤ g.nx
  ht : tb < lo ∧ g.blk tb = some (.row [iv p, iv e, sl] 47 true)
  hr : rb < lo ∧ h.nx ≤ rb ∧ g.blk rb = some (.row [iv 0, iv 0, .slice none 0 0] 47 true)
  ia : IA g pb pv pl
  hp : pb < lo ∧ h.nx ≤ pb ∧ pb ≠ tb ∧ pb ≠ rb
  ord : AqR lo g 3 1 ov (cellsI (o.map Int.ofNat))

theorem ord_loop {h h0 : H} {lo tb rb pb : Nat} {p e : Int} {sl pv : Value} {l : List Sp} {set : Nat} (hv : tabOk p e l = true) (hset : set < 2 ^ 62) (htb : tb = h0.nx) (hs : SlR h 89 4 sl (l.map Sp.cells)) :
    ∀ (g : H) (pl : List Int), OrdI h lo tb rb pb p e sl pv [] 0 pl (.slice none 0 0) g →
      ∃ (g' : H) (o : List Nat) (met : Nat) (pl' : List Int) (ov : Value), lpGo (f86_l1 rn 200010 set h0 pv) 200010 [.slice none 0 0, iv 0] g = some (.exit 0, [ov, iv met], g') ∧ OrdI h lo tb rb pb p e sl pv o met pl' ov g' ∧ (o.length : Int) = e := by
  have he6 : 1 ≤ e ∧ e ≤ 6 := by simp only [tabOk, Bool.and_eq_true, decide_eq_true_iff] at hv; omega
  subst htb
  intro g pl hI
  obtain ⟨ee, ws', g', hlp, rfl, o, met, pl', ov, rfl, hI', hlen⟩ := lpGo_inv (F := f86_l1 rn 200010 set h0 pv)
    (fun d ws g => ∃ (o : List Nat) (met : Nat) (pl : List Int) (ov : Value), ws = [ov, iv met] ∧ (o.length + d : Int) = e ∧ OrdI h lo h0.nx rb pb p e sl pv o met pl ov g)
    (fun ee ws g => ee = .exit 0 ∧ ∃ o met pl ov, ws = [ov, iv (met : Nat)] ∧ OrdI h lo h0.nx rb pb p e sl pv o met pl ov g ∧ (o.length : Int) = e)
    (by
      rintro d ws g ⟨o, met, pl, ov, rfl, hd, hI⟩
      have hon : ∀ {T : Type} (K : Int → Option T), len ov K = K (o.length : Int) := fun K => by rw [hI.ord.slR.len]; simp
      by_cases hd0 : d = 0
      · subst hd0
        have hoe : (o.length : Int) = e := by omega
        refine ⟨.exit 0, [ov, iv met], g, ?_, .inr ⟨by simp, rfl, o, met, pl, ov, rfl, hI, hoe⟩⟩
        simp [f86_l1, hon, cell_of hI.ht.2, hoe]
      · have hlt : (o.length : Int) < e := by omega
        obtain ⟨j, hj, hjo⟩ := nodup_free (o := o) (n := e.toNat) (by omega)
        have hjm : met.testBit j = false := by
          rw [hI.bits, Bool.eq_false_iff]
          intro h; exact hjo (List.contains_iff_mem.1 h)
        obtain ⟨g2, w, a, hl2, x2, hae, ham⟩ := loop2 (h := h0) hv (hs.ext hI.ext) hset (Nat.lt_trans hI.small (by decide)) (by have := hI.ht.1; have := hI.nx; omega) hI.ht.2 [ov, iv met] rfl ⟨j, by omega, hjm⟩
        have hao : a ∉ o := by
          rw [hI.bits, Bool.eq_false_iff] at ham
          intro h; exact ham (List.contains_iff_mem.2 h)
        have ia2 := hI.ia.ext x2
        have hpl : a < pl.length := by have := hI.len; omega
        have kput := fun (K : Nat → Nat → Option (Ex × List Value × H)) => ia2.put (i := (a : Int)) (by omega) (by simpa using hpl) K
        have kw : wrc 1 g2 pb a (iv (o.length : Nat)) = some (g2.set pb (.row ((pl.set a (o.length : Nat)).map iv) 3 true)) := ia2.wrc hpl _
        have ia3 := ia2.set a (o.length : Nat)
        have a3 : AqR lo (g2.set pb (.row ((pl.set a (o.length : Nat)).map iv) 3 true)) 3 1 ov (cellsI (o.map Int.ofNat)) := (hI.ord.ext x2).keep (Nat.le_refl _) fun b hb => blk_set_ne _ _ _ (by have := ((hI.ord.ext x2).blkOf hb).1; have := hI.hp.1; omega)
        have f3 : ∀ b, b ≠ pb → (g2.set pb (.row ((pl.set a (o.length : Nat)).map iv) 3 true)).blk b = g2.blk b := fun b hb => blk_set_ne _ _ _ hb
        have n3 : (g2.set pb (.row ((pl.set a (o.length : Nat)).map iv) 3 true)).nx = g2.nx := rfl
        generalize g2.set pb (.row ((pl.set a (o.length : Nat)).map iv) 3 true) = g3 at *
        obtain ⟨ov', g4, e4, a4, n4, k4, b4, hb4, hb4'⟩ := a3.push app22 app22 (bls22 (a : Int)) rfl rfl (by simp; omega) (by have := hI.nx; have := x2.nx; omega)
        have hx2 := x2.nx
        have hnx := hI.nx
        have k4' : ∀ b, b < lo → g4.blk b = g3.blk b := fun b hb => k4 b (by omega) (fun h => by have := (a3.blkOf h).1; omega)
        have kk : ∀ b, b < lo → b ≠ pb → g4.blk b = g.blk b := fun b hb hne => by rw [k4' b hb, f3 b hne]; exact x2.blk b (by omega)
        have hmet' : met ||| 2 ^ a < 2 ^ 6 := Nat.or_lt_two_pow hI.small (Nat.pow_lt_pow_right (by omega) (by omega))
        have hor : AM.or .i64 (met : Int) (AM.shl .i64 1 (a : Int)) = ((met ||| 2 ^ a : Nat) : Int) := by
          have h1 := hI.small
          rw [shl1_nat (by omega), or_nat (by omega) (Nat.lt_of_lt_of_le (Nat.pow_lt_pow_right (by omega) (show a < 6 by omega)) (by decide))]
        refine ⟨.normal, [ov', iv (met ||| 2 ^ a : Nat)], g4, ?_, .inl ⟨rfl, d - 1, by omega, o ++ [a], met ||| 2 ^ a, pl.set a (o.length : Nat), ov', rfl, by simp; omega, ?_⟩⟩
        · have hl2' := fun (K : Ex → List Value → H → Option (Ex × List Value × H)) => lp_eq (K := K) hl2
          have ee4 : ∀ (K : Value → H → Option (Ex × List Value × H)), (bls Try.prog g3 22 1 [(0, iv (a : Nat))] fun y h2 => app Try.prog h2 22 22 ov y K) = K ov' g4 := fun K => e4 K
          simp [f86_l1, hon, cell_of hI.ht.2, hlt, hl2', kput, w3, kw, ee4, nn_ge (show (0 : Int) ≤ (a : Int) by omega), hor]
        · refine ⟨fun j => ?_, hmet', ?_, fun x hx => ?_, by rw [List.length_set]; exact hI.len, fun i x hx => ?_, ⟨by have := hI.ext.nx; omega, fun b hb => ?_⟩, by omega, ⟨hI.ht.1, (kk _ hI.ht.1 (Ne.symm hI.hp.2.2.1)).trans hI.ht.2⟩, ⟨hI.hr.1, hI.hr.2.1, (kk _ hI.hr.1 (Ne.symm hI.hp.2.2.2)).trans hI.hr.2.2⟩, ia3.keep n4 (k4' _ hI.hp.1), hI.hp, ?_⟩
          · rw [Nat.testBit_or, hI.bits, Nat.testBit_two_pow, Bool.eq_iff_iff]
            simp
            exact or_congr Iff.rfl ⟨fun h => h.symm, fun h => h.symm⟩
          · rw [List.nodup_append]
            exact ⟨hI.nd, by simp, fun x hx y hy => by simp at hy; subst hy; exact fun e => hao (e ▸ hx)⟩
          · rcases List.mem_append.1 hx with h | h
            · exact hI.lt x h
            · simp at h; subst h; exact hae
          · rcases Nat.lt_or_ge i o.length with hio | hio
            · rw [List.getElem?_append_left hio] at hx
              have hxa : a ≠ x := fun e => hao (e ▸ List.mem_of_getElem? hx)
              rw [List.getElem?_set_ne hxa]
              exact hI.pos i x hx
            · rw [List.getElem?_append_right hio] at hx
              have hi0 : i - o.length = 0 := by
                have := (List.getElem?_eq_some_iff.1 hx).1
                simp at this; omega
              rw [hi0] at hx
              simp at hx
              subst hx
              rw [List.getElem?_set_self hpl, show i = o.length by omega]
          · have h5 := hI.hp.2.1
            have h6 := hI.hr
            have h7 := hI.ext.nx
            have : b < lo := by omega
            rw [kk b this (by omega)]
            exact hI.ext.blk b hb
          · have : cellsI ((o ++ [a]).map Int.ofNat) = cellsI (o.map Int.ofNat) ++ [[iv (a : Int)]] := by simp
            rw [this]
            exact a4)
    e.toNat 200010 (by omega) ⟨[], 0, pl, .slice none 0 0, rfl, by simp; omega, hI⟩
  exact ⟨g', o, met, pl', ov, hlp, hI', hlen⟩

/-- A span whose events are numbered anew. -/
def ren (pl : List Int) (c : Sp) : Sp := ⟨atI pl c.a, atI pl c.b, c.lo, c.hi⟩

/-- The spans of a set, with their events numbered anew. -/
def partL (pl : List Int) (set : Nat) : List Sp → Nat → List Sp
  | [], _ => []
  | c :: l, i => if set.testBit i = true then ren pl c :: partL pl set l (i + 1) else partL pl set l (i + 1)

theorem partL_append {pl : List Int} {set : Nat} : ∀ (a b : List Sp) (i : Nat), partL pl set (a ++ b) i = partL pl set a i ++ partL pl set b (i + a.length) := by
  intro a
  induction a with
  | nil => intro b i; rfl
  | cons c a ih =>
    intro b i
    simp only [List.cons_append, partL, ih, List.length_cons]
    rw [show i + (a.length + 1) = i + 1 + a.length by omega]
    split <;> rfl

theorem partL_take {pl : List Int} {set : Nat} {l : List Sp} {i : Nat} {c : Sp} (hc : l[i]? = some c) : partL pl set (l.take (i + 1)) 0 = partL pl set (l.take i) 0 ++ (if set.testBit i = true then [ren pl c] else []) := by
  have hi := (List.getElem?_eq_some_iff.1 hc).1
  rw [List.take_add_one, hc, partL_append, List.length_take, Nat.min_eq_left (by omega), Nat.zero_add]
  rfl

theorem partL_len {pl : List Int} {set : Nat} : ∀ (l : List Sp) (i : Nat), (partL pl set l i).length ≤ l.length := by
  intro l
  induction l with
  | nil => intro i; simp [partL]
  | cons c l ih =>
    intro i
    have := ih (i + 1)
    simp only [partL]
    split <;> simp only [List.length_cons] <;> omega

theorem AqR.push_ck {P : Program} {lo : Nat} {h : H} {e t t' t2 : TypeId} {s : Nat} {v xv : Value} {l : List (List Value)} {x : List Value} (a : AqR lo h e s v l) (ht : okApp P t e s = true) (ht' : okApp P t' e s = true)
    (hb : ∀ h : H, buildSlice P t2 1 [(0, xv)] h = some (.slice (some ⟨h.nx, 0, none⟩) 1 1, h.new (.row x e true))) (hx : x.length = s) (hsc : x.all scal = true) (hm : l.length + 1 < 2 ^ 30) (hlo : lo ≤ h.nx) :
    ∃ v' h', (∀ {R : Type} (b : Nat) (K : Value → H → Option R), b < h.nx → (bls P h t2 1 [(0, xv)] fun y h2 => AM.ck (freq b h.nx (same h2 h)) (AM.app P h2 t t' v y K)) = K v' h') ∧ AqR lo h' e s v' (l ++ [x]) ∧ h.nx ≤ h'.nx ∧
      (∀ b, b < h.nx → AM.blkOf v ≠ some b → h'.blk b = h.blk b) ∧ ∃ b', AM.blkOf v' = some b' ∧ h.nx ≤ b' := by
  obtain ⟨v', h', e1, r⟩ := a.push ht ht' hb hx hsc hm hlo
  refine ⟨v', h', fun b K hbn => ?_, r⟩
  have := e1 K
  rw [bls_some (hb h)] at this ⊢
  rw [show freq b h.nx (same (h.new (.row x e true)) h) = true by simp [freq, hbn, same, H.new]]
  exact this

end Go.AM
