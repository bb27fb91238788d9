/- What the document says of news: Idle, and all that is heard. -/
import Derived.Test.YthmfjfblndophaaCg
namespace Go.AM
open Go.Proofs

variable {k : Nat} {R : Type}

attribute [local simp] nx_eq nx_new nx_set blk_new blk_set asI_int asK_int asB_bool asP_ptr al_eq bx_eq len_slice onE_exit onE_ret onR_ret Value.cells d3 d29 d31 d56 d24 d59 d22 d25 w3 cell_new cell_set rd_new rd_set off eq lt le ifB gv out eqF1 eqF2 eqF3 eqF4 eqF5 eqF6 eqF7 eqF8

theorem zero3 : zero? Try.prog 3 = some (iv 0) := by kernel_rfl

theorem set_bits (n i : Nat) (hi : i < n) : ((ownP i ++ List.replicate (n - i) 0).set i (bit i)) = ownP (i + 1) ++ List.replicate (n - (i + 1)) 0 := by
  have hl : (ownP i).length = i := by simp [ownP]
  rw [List.set_append_right _ _ (by omega), hl, Nat.sub_self]
  have : n - i = (n - (i + 1)) + 1 := by omega
  rw [this, List.replicate_succ, List.set_cons_zero]
  rw [show ownP (i + 1) = ownP i ++ [bit i] by simp [ownP, List.range_succ]]
  simp

/-- The loop that sets everybody's own news. -/
theorem own_loop {F : List Value → H → Option (Ex × List Value × H)} {n b : Nat} {h : H} {v : Value} (hn : n < 1000) (hv : IA h b v (List.replicate n 0))
    (hF : ∀ (ws : List Value) (g : H), F ws g = asI .i64 (gv ws 0) fun n2 => ifB (lt n2 n) (asK (gv ws 0) fun n3 => nn n3 (asK (gv ws 0) fun n4 => six v n4 1 fun b0 b1 => st Try.prog g 3 b0 b1 (.int .i64 (shl .i64 1 n3)) fun h4 =>
      asI .i64 (gv ws 0) fun n5 => out .normal [(.int .i64 (add .i64 n5 1))] h4)) (out (.exit 0) [gv ws 0] g)) :
    ∃ ws' h', lpGo F (n + 1) [iv 0] h = some (.exit 0, ws', h') ∧ h'.nx = h.nx ∧ (∀ q, q < h.nx → q ≠ b → h'.blk q = h.blk q) ∧ IA h' b v (ownP n) := by
  obtain ⟨ws', h', hl, hx, hf, hi, _⟩ := lp_for (F := F) (k := n + 1) (l := List.range n) (fun _ _ (_ : Unit) => ())
    (fun i _ ws g => g.nx = h.nx ∧ (∀ q, q < h.nx → q ≠ b → g.blk q = h.blk q) ∧ IA g b v (ownP i ++ List.replicate (n - i) 0) ∧ ws = [iv i]) 0 (ws := [iv 0]) (h := h) (s0 := ())
    ⟨rfl, fun _ _ _ => rfl, by simpa [ownP] using hv, rfl⟩ (by simp)
    (by
      rintro _ ws g ⟨hx, hf, hi, rfl⟩
      rw [hF]
      simp)
    (by
      rintro i c _ ws g hc ⟨hx, hf, hi, rfl⟩
      have hin : i < n := by simpa using (List.getElem?_eq_some_iff.1 hc).1
      have hlen : (ownP i ++ List.replicate (n - i) 0).length = n := by simp [ownP]; omega
      have w := hi.wrc (i := i) (by omega) (bit i)
      refine ⟨[iv ((i : Int) + 1)], g.set b (.row (((ownP i ++ List.replicate (n - i) 0).set i (bit i)).map iv) 3 true), ?_, ?_, ?_, ?_, rfl⟩
      · rw [hF]
        rw [show gv [iv i] 0 = iv i from rfl, asI_int, lt_t (by omega), ifB_true, asK_int, nn_ge (by omega), asK_int, hi.put (by omega) (by omega), Int.toNat_natCast, w3]
        simp only [bit] at w ⊢
        rw [w, Option.bind_some, asI_int, add64 (by omega) (by omega)]
        rfl
      · rw [nx_set]; exact hx
      · intro q hq hne
        rw [blk_set_ne _ _ _ hne]
        exact hf q hq hne
      · have := hi.set i (bit i)
        rw [set_bits n i hin] at this ⊢
        exact this)
  rw [List.length_range] at hi
  exact ⟨ws', h', hl, hx, hf, by simpa using hi⟩

/-- What both of a call know then. -/
def bothP (s : List Int) (c : Cl) : Int := AM.or .i64 (s.getD c.a.toNat 0) (s.getD c.b.toNat 0)

theorem hear_wr {g : H} {b : Nat} {v : Value} {s : List Int} {c : Cl} (hi : IA g b v s) (ha : 0 ≤ c.a ∧ c.a < s.length) (hb : 0 ≤ c.b ∧ c.b < s.length) :
    ∃ g', g'.nx = g.nx ∧ (∀ q, q ≠ b → g'.blk q = g.blk q) ∧ IA g' b v (hearP s c) ∧
      ∀ {R : Type} (K : H → Option R), ((wrc 1 g b c.a.toNat (.int .i64 (bothP s c))).bind fun h3 => (wrc 1 h3 b c.b.toNat (.int .i64 (bothP s c))).bind K) = K g' := by
  have w1 := hi.wrc (i := c.a.toNat) (by omega) (bothP s c)
  have i1 := hi.set c.a.toNat (bothP s c)
  have w2 := i1.wrc (i := c.b.toNat) (by rw [List.length_set]; omega) (bothP s c)
  have i2 := i1.set c.b.toNat (bothP s c)
  exact ⟨_, by rw [nx_set, nx_set], fun q hq => by rw [blk_set_ne _ _ _ hq, blk_set_ne _ _ _ hq], i2, fun K => by rw [w1, Option.bind_some, w2, Option.bind_some]⟩

theorem fresh_iff (s : List Int) (c : Cl) : freshP s c = !(decide (s.getD c.a.toNat 0 = bothP s c) && decide (s.getD c.b.toNat 0 = bothP s c)) := by
  unfold freshP bothP
  simp only [Bool.not_and]
  congr 1

theorem s41 {n : Int} {sl : Value} {l : List Cl} {h : H} (hs : SlR h 59 3 sl (l.map Cl.cells)) (hv : validP n l = true) :
    ∃ v h', rn 41 #[.agg #[iv n, sl]] h = some (v, h') ∧ Ext h h' ∧ SlR h' 3 1 v (cellsI (idleP n.toNat l)) := by
  obtain ⟨hn1, hn7, hl24, hok⟩ := validP_ok hv
  obtain ⟨m, rfl⟩ := Int.eq_ofNat_of_zero_le (show 0 ≤ n by omega)
  have x1 : Ext h (h.new (.row [iv m, sl] 24 true)) := .new _ _
  have x2 := Ext.new (h.new (.row [iv m, sl] 24 true)) (.row ((List.replicate m 0).map iv) 3 true)
  have i2 : IA ((h.new (.row [iv m, sl] 24 true)).new (.row ((List.replicate m 0).map iv) 3 true)) (h.nx + 1) (.slice (some ⟨h.nx + 1, 0, none⟩) m m) (List.replicate m 0) := ia_new (by omega) (by simp)
  obtain ⟨ws1, h5, hl1, n5, f5, i5⟩ := own_loop (F := f41_l1 rn (max l.length m + 1) (.slice (some ⟨h.nx + 1, 0, none⟩) m m) m) (n := m) (by omega) i2 (fun _ _ => rfl)
  have hl1' := lpGo_mono hl1 (show m + 1 ≤ max l.length m + 1 by omega)
  have x5 : Ext h h5 := ⟨by rw [n5]; simp only [nx_new]; omega, fun q hq => by rw [f5 q (by simp only [nx_new]; omega) (by omega)]; exact (x1.trans x2).blk q hq⟩
  have hb5 : h5.blk h.nx = some (.row [iv m, sl] 24 true) := (f5 h.nx (by simp only [nx_new]; omega) (by omega)).trans ((x2.blk _ (Nat.lt_succ_self _)).trans (blk_new_self _ _))
  generalize hvv : Value.slice (some ⟨h.nx + 1, 0, none⟩) m m = v2 at *
  obtain ⟨ws', h', hl, hx, hiaN, hlen, ho, sv, hap, hne, rfl⟩ := lp_for (F := f41_l2 rn (max l.length m + 1) v2 sl l.length) (k := max l.length m + 1) (l := l) idleG
    (fun i s ws g => Ext h g ∧ IA g (h.nx + 1) v2 s.1 ∧ s.1.length = m ∧ s.2.length ≤ i ∧ ∃ sv, AqR h.nx g 3 1 sv (cellsI s.2) ∧ blkOf sv ≠ some (h.nx + 1) ∧ ws = [sv, iv i]) 2 (ws := [.slice none 0 0, iv 0]) (h := h5) (s0 := (ownP m, []))
    ⟨x5, i5, by simp [ownP], Nat.le_refl _, _, .nil, by simp [blkOf], rfl⟩ (by omega)
    (by
      rintro s ws g ⟨hx, hi, hlen, ho, sv, hap, hne, rfl⟩
      simp [f41_l2])
    (by
      rintro i c ⟨s1, s2⟩ ws g hc ⟨hx, hi, hlen, ho, sv, hap, hne, rfl⟩
      simp only at hi hlen ho hap
      have hil := (List.getElem?_eq_some_iff.1 hc).1
      obtain ⟨ha, hb⟩ := ok_range hv hc
      have y7 := (Ext.refl g).fresh 59 [iv 0, iv 0, iv 0] c.cells
      have hcb := blk_fresh g 59 [iv 0, iv 0, iv 0] c.cells
      have n7 : (g.fresh 59 [iv 0, iv 0, iv 0] c.cells).nx = g.nx + 1 := rfl
      have i7 := hi.ext y7
      have a7 := hap.ext y7
      have hbl := hi.lt
      have hA : s1[c.a.toNat]? = some (s1.getD c.a.toNat 0) := by simp [show c.a.toNat < s1.length by omega]
      have hB : s1[c.b.toNat]? = some (s1.getD c.b.toNat 0) := by simp [show c.b.toNat < s1.length by omega]
      have x7 := hx.trans y7
      have pA : ∀ (K : Nat → Nat → Option (Ex × List Value × H)), six v2 c.a 1 K = K (h.nx + 1) c.a.toNat := fun K => i7.put ha.1 (by omega) K
      have pB : ∀ (K : Nat → Nat → Option (Ex × List Value × H)), six v2 c.b 1 K = K (h.nx + 1) c.b.toNat := fun K => i7.put hb.1 (by omega) K
      have hcell : ∀ o, (g.fresh 59 [iv 0, iv 0, iv 0] c.cells).cell (h.nx + 1) o = (s1.map iv)[o]? := fun o => cell_of i7.row
      have hadd : add .i64 (i : Int) 1 = (i : Int) + 1 := add64 (by omega) (by omega)
      have hor : AM.or .i64 (s1.getD c.a.toNat 0) (s1.getD c.b.toNat 0) = bothP s1 c := rfl
      have hfr := fresh_iff s1 c
      unfold f41_l2
      rw [show gv [sv, iv i] 1 = iv i from rfl, show gv [sv, iv i] 0 = sv from rfl, asI_int, lt_t (by omega), ifB_true, asK_int, (hs.ext hx).ldA ag59 sz59 (by omega) (x := c.cells) (by simp [hc])]
      rw [al_st (zs := [iv 0, iv 0, iv 0]) (xs := c.cells) sz59 rfl rfl]
      generalize hG : g.fresh 59 [iv 0, iv 0, iv 0] c.cells = h7 at *
      cases hf : freshP s1 c with
      | true =>
        obtain ⟨g', n', f', i', e'⟩ := hear_wr (c := c) i7 (by omega) (by omega)
        have hck : ∀ o : Nat, fre g.nx h7.nx 1 1 (h.nx + 1) o 1 = true := fun o => by simp only [fre, Bool.and_eq_true, decide_eq_true_eq]; omega
        refine ⟨[sv, iv ((i : Int) + 1)], g', ?_, ⟨by have := x7.nx; omega, fun q hq => by rw [f' q (by omega)]; exact x7.blk q hq⟩, by simpa [idleG] using i', by simp only [idleG]; rw [hearP_len]; exact hlen, by simp [idleG, hf]; omega, sv, ?_, hne, rfl⟩
        · simp only [Cl.cells] at hcb
          rw [hf] at hfr
          generalize s1.getD c.a.toNat 0 = A at *
          generalize s1.getD c.b.toNat 0 = B at *
          simp [cell_of hcb, pA, pB, hcell, hA, hB, hck, ck, hadd, hor, e']
          grind
        · simp only [idleG, hf, if_true]
          exact a7.keep (by omega) fun q hq => f' q (fun e => hne (e ▸ hq))
      | false =>
        obtain ⟨v', h9, e9, a9, n9, k9, b9, hb9, hb9'⟩ := a7.push app25 app25 (bls25 (i : Int)) rfl rfl (by simp; omega) x7.nx
        have i9 := i7.keep n9 (k9 _ i7.lt hne)
        have hcb9 : h9.blk g.nx = some (.row c.cells 59 true) := (k9 g.nx (by omega) (fun e => by have := (hap.blkOf e).2.1; omega)).trans hcb
        obtain ⟨g', n', f', i', e'⟩ := hear_wr (c := c) i9 (by omega) (by omega)
        have hck : ∀ o : Nat, fre g.nx h9.nx 1 1 (h.nx + 1) o 1 = true := fun o => by simp only [fre, Bool.and_eq_true, decide_eq_true_eq]; omega
        refine ⟨[v', iv ((i : Int) + 1)], g', ?_, ⟨by have := x7.nx; omega, fun q hq => ?_⟩, by simpa [idleG] using i', by simp only [idleG]; rw [hearP_len]; exact hlen, by simp [idleG, hf]; omega, v', ?_, ?_, rfl⟩
        · simp only [Cl.cells] at hcb hcb9
          rw [hf] at hfr
          generalize s1.getD c.a.toNat 0 = A at *
          generalize s1.getD c.b.toNat 0 = B at *
          have hAB : A = bothP s1 c ∧ B = bothP s1 c := by simpa using hfr
          obtain ⟨h1, h2⟩ := hAB
          subst h1
          subst h2
          simp [cell_of hcb, cell_of hcb9, pA, pB, hcell, hA, hB, hck, ck, hadd, hor, e', e9]
        · rw [f' q (by omega), k9 q (by have := x7.nx; omega) (fun e => by have := (a7.blkOf e).1; omega)]
          exact x7.blk q hq
        · have := a9.keep (h' := g') (by omega) fun q hq => f' q (fun e => by rw [hb9] at hq; cases hq; omega)
          simpa [idleG, hf] using this
        · rw [hb9]
          intro e
          cases e
          omega)
  refine ⟨sv, h', x41 (k := max l.length m + 1) ?_ (by obtain ⟨x, y, z, hz⟩ := hap.isSl; rw [hz]; rfl), hx, hap.slR⟩
  have kmk : ∀ (K : Value → H → Option (Value × H)), mks Try.prog (h.new (.row [iv m, sl] 24 true)) 25 m m K = K v2 ((h.new (.row [iv m, sl] 24 true)).new (.row ((List.replicate m 0).map iv) 3 true)) := fun K => by
    rw [← hvv]; exact mks_ints app25 zero3 (by omega) K
  simp only [List.map_replicate] at hl1'
  simp [f41, kmk, i2.len, lp_eq hl1', cell_of hb5, hs.len, lp_eq hl]

end Go.AM
