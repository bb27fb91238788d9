/- All that is heard, as the document tells it. -/
import Derived.Test.YthmfjfblndophaaCh
namespace Go.AM
open Go.Proofs

variable {k : Nat} {R : Type}

attribute [local simp] nx_eq nx_new nx_set blk_new blk_set asI_int asK_int asB_bool asP_ptr al_eq bx_eq len_slice onE_exit onE_ret onR_ret Value.cells d3 d29 d31 d56 d24 d59 d22 d25 w3 cell_new cell_set rd_new rd_set off eq lt le ifB gv out eqF1 eqF2 eqF3 eqF4 eqF5 eqF6 eqF7 eqF8

theorem app58 : okApp Try.prog 58 25 1 = true := by kernel_rfl
theorem bls58 (b o n c : Nat) (h : H) : buildSlice Try.prog 58 1 [(0, .slice (some ⟨b, o, none⟩) n c)] h = some (.slice (some ⟨h.nx, 0, none⟩) 1 1, h.new (.row [.slice (some ⟨b, o, none⟩) n c] 25 true)) := by kernel_rfl

abbrev cellsV (l : List Value) : List (List Value) := l.map fun v => [v]

/-- Does a time begin with a call? -/
def firstP (l : List Cl) (i : Nat) (c : Cl) : Bool := decide (i = 0) || (l[i - 1]?).any fun d => decide (d.t < c.t)

def heardG (l : List Cl) (i : Nat) (c : Cl) (s : List (List Int) × List Int) : List (List Int) × List Int := (if firstP l i c = true then s.1 ++ [s.2] else s.1, hearP s.2 c)

def heardP (n : Nat) (l : List Cl) : List (List Int) × List Int := foldI (heardG l) l 0 ([], ownP n)

/-- Slices of slices of numbers. -/
def SsR (h : H) (vs : List Value) (ls : List (List Int)) : Prop := vs.length = ls.length ∧ ∀ (j : Nat) (v : Value) (l : List Int), vs[j]? = some v → ls[j]? = some l → SlR h 3 1 v (cellsI l)

theorem SlR.keep {h h' : H} {e : TypeId} {s : Nat} {v : Value} {l : List (List Value)} (a : SlR h e s v l) (hn : h.nx ≤ h'.nx) (hb : ∀ b o n c, v = .slice (some ⟨b, o, none⟩) n c → h'.blk b = h.blk b) : SlR h' e s v l := by
  cases a with
  | nil => exact .nil
  | at_ hb' hr hk hc hl hx => exact .at_ (Nat.lt_of_lt_of_le hb' hn) ((hb _ _ _ _ rfl).trans hr) hk hc hl hx

theorem SsR.keep {h h' : H} {vs : List Value} {ls : List (List Int)} (a : SsR h vs ls) (hn : h.nx ≤ h'.nx) (hb : ∀ v ∈ vs, ∀ b, blkOf v = some b → h'.blk b = h.blk b) : SsR h' vs ls :=
  ⟨a.1, fun j v l hv hl => (a.2 j v l hv hl).keep hn fun b o n c e => hb v (List.mem_of_getElem? hv) b (by rw [e]; rfl)⟩

theorem SsR.snoc {h : H} {vs : List Value} {ls : List (List Int)} (a : SsR h vs ls) {v : Value} {l : List Int} (hv : SlR h 3 1 v (cellsI l)) : SsR h (vs ++ [v]) (ls ++ [l]) := by
  refine ⟨by simp [a.1], fun j w m hw hm => ?_⟩
  rcases Nat.lt_or_ge j vs.length with h1 | h1
  · rw [List.getElem?_append_left h1] at hw
    rw [List.getElem?_append_left (by rw [← a.1]; exact h1)] at hm
    exact a.2 j w m hw hm
  · rw [List.getElem?_append_right h1] at hw
    rw [List.getElem?_append_right (by rw [← a.1]; exact h1)] at hm
    have h2 : j - vs.length = 0 := by
      rcases Nat.eq_zero_or_pos (j - vs.length) with h2 | h2
      · exact h2
      · rw [List.getElem?_eq_none (by simp; omega)] at hw; cases hw
    rw [h2] at hw
    rw [← a.1, h2] at hm
    simp at hw hm
    subst hw; subst hm
    exact hv

theorem SsR.bel {h : H} {vs : List Value} {ls : List (List Int)} (a : SsR h vs ls) {v : Value} (hv : v ∈ vs) {b : Nat} (hb : blkOf v = some b) : b < h.nx := by
  obtain ⟨j, hj, rfl⟩ := List.getElem_of_mem hv
  have := a.2 j vs[j] (ls[j]'(by rw [← a.1]; exact hj)) (List.getElem?_eq_getElem hj) (List.getElem?_eq_getElem _)
  generalize vs[j] = v at *
  generalize cellsI (ls[j]'_) = L at this
  cases this with
  | nil => cases hb
  | at_ hb' => cases hb; exact hb'

theorem s79 {n : Int} {sl : Value} {l : List Cl} {h : H} (hs : SlR h 59 3 sl (l.map Cl.cells)) (hv : validP n l = true) :
    ∃ v h' pv vl, rn 79 #[.agg #[iv n, sl]] h = some (v, h') ∧ Ext h h' ∧ SlR h' 25 1 v (cellsV (pv ++ [vl])) ∧ SsR h' pv (heardP n.toNat l).1 ∧ SlR h' 3 1 vl (cellsI (heardP n.toNat l).2) := by
  obtain ⟨hn1, hn7, hl24, hok⟩ := validP_ok hv
  obtain ⟨m, rfl⟩ := Int.eq_ofNat_of_zero_le (show 0 ≤ n by omega)
  have x1 : Ext h (h.new (.row [iv m, sl] 24 true)) := .new _ _
  have x2 := Ext.new (h.new (.row [iv m, sl] 24 true)) (.row ((List.replicate m 0).map iv) 3 true)
  have i2 : IA ((h.new (.row [iv m, sl] 24 true)).new (.row ((List.replicate m 0).map iv) 3 true)) (h.nx + 1) (.slice (some ⟨h.nx + 1, 0, none⟩) m m) (List.replicate m 0) := ia_new (by omega) (by simp)
  obtain ⟨ws1, h5, hl1, n5, f5, i5⟩ := own_loop (F := f79_l1 rn (max l.length m + 1) (.slice (some ⟨h.nx + 1, 0, none⟩) m m) m) (n := m) (by omega) i2 (fun _ _ => rfl)
  have hl1' := lpGo_mono hl1 (show m + 1 ≤ max l.length m + 1 by omega)
  have x5 : Ext h h5 := ⟨by rw [n5]; simp only [nx_new]; omega, fun q hq => by rw [f5 q (by simp only [nx_new]; omega) (by omega)]; exact (x1.trans x2).blk q hq⟩
  have hb5 : h5.blk h.nx = some (.row [iv m, sl] 24 true) := (f5 h.nx (by simp only [nx_new]; omega) (by omega)).trans ((x2.blk _ (Nat.lt_succ_self _)).trans (blk_new_self _ _))
  have n5' : h5.nx = h.nx + 2 := by rw [n5]; rfl
  have x6 := Ext.new h5 (.row [.slice (some ⟨h.nx + 1, 0, none⟩) m m] 25 true)
  have a6 : AqR h.nx (h5.new (.row [.slice (some ⟨h.nx + 1, 0, none⟩) m m] 25 true)) 25 1 (.slice (some ⟨h5.nx, 0, none⟩) 1 1) (cellsV [.slice (some ⟨h.nx + 1, 0, none⟩) m m]) :=
    AqR.lit (l := cellsV [.slice (some ⟨h.nx + 1, 0, none⟩) m m]) (by omega) rfl (by simp) (by simp)
  have k58 : ∀ (K : Value → H → Option (Value × H)), bls Try.prog h5 58 1 [(0, .slice (some ⟨h.nx + 1, 0, none⟩) m m)] K = K (.slice (some ⟨h5.nx, 0, none⟩) 1 1) (h5.new (.row [.slice (some ⟨h.nx + 1, 0, none⟩) m m] 25 true)) := fun K => bls_some (bls58 _ _ _ _ _)
  have hbs : blkOf (.slice (some ⟨h.nx + 1, 0, none⟩) m m) = some (h.nx + 1) := rfl
  generalize hvv : Value.slice (some ⟨h.nx + 1, 0, none⟩) m m = v2 at *
  obtain ⟨ws', h', hl, hx, hlen, hpl, sv, pv, vl, b, hap, hne, hss, hpv, hlo, hia, hbl, rfl⟩ := lp_for (F := f79_l2 rn (max l.length m + 1) h sl l.length) (k := max l.length m + 1) (l := l) (heardG l)
    (fun i s ws g => Ext (h.new (.row [iv m, sl] 24 true)) g ∧ s.2.length = m ∧ s.1.length ≤ i ∧ ∃ sv pv vl b, AqR h.nx g 25 1 sv (cellsV (pv ++ [vl])) ∧ (∀ q, blkOf sv = some q → h.nx < q) ∧ SsR g pv s.1 ∧ (∀ v ∈ pv, blkOf v ≠ some b) ∧ h.nx < b ∧ IA g b vl s.2 ∧ blkOf vl = some b ∧ ws = [sv, iv i]) 2
    (ws := [.slice (some ⟨h5.nx, 0, none⟩) 1 1, iv 0]) (h := h5.new (.row [v2] 25 true)) (s0 := ([], ownP m))
    ⟨⟨by rw [nx_new, nx_new]; omega, fun q hq => by rw [nx_new] at hq; rw [blk_new_ne _ _ (by omega), f5 q (by simp only [nx_new]; omega) (by omega), blk_new_ne _ _ (by simp only [nx_new]; omega)]⟩, by simp [ownP], Nat.le_refl _, _, [], v2, h.nx + 1, by simpa using a6,
      (fun q hq => by cases hq; omega), ⟨rfl, fun j v l hv => by simp at hv⟩, by simp, by omega, i5.ext x6, hbs, rfl⟩ (by omega)
    (by
      rintro s ws g ⟨hx, hlen, hpl, sv, pv, vl, b, hap, hne, hss, hpv, hlo, hia, hbl, rfl⟩
      simp [f79_l2])
    (by
      rintro i c ⟨s1, s2⟩ ws g hc ⟨hx, hlen, hpl, sv, pv, vl, b, hap, hne, hss, hpv, hlo, hia, hbl, rfl⟩
      simp only at hlen hpl hss hia
      have hil := (List.getElem?_eq_some_iff.1 hc).1
      obtain ⟨ha, hb⟩ := ok_range hv hc
      have y7 := (Ext.refl g).fresh 59 [iv 0, iv 0, iv 0] c.cells
      have hcb := blk_fresh g 59 [iv 0, iv 0, iv 0] c.cells
      have n7 : (g.fresh 59 [iv 0, iv 0, iv 0] c.cells).nx = g.nx + 1 := rfl
      have x7 := hx.trans y7
      have hb7 : (g.fresh 59 [iv 0, iv 0, iv 0] c.cells).blk h.nx = some (.row [iv m, sl] 24 true) := (x7.blk _ (Nat.lt_succ_self _)).trans (blk_new_self _ _)
      have hs7 := hs.ext (x1.trans x7)
      have i7 := hia.ext y7
      have a7 := hap.ext y7
      have ss7 := hss.keep y7.nx fun v hv q hq => y7.blk q (hss.bel hv hq)
      have hbg := hia.lt
      have hgx := hx.nx
      rw [nx_new] at hgx
      have hA : s2[c.a.toNat]? = some (s2.getD c.a.toNat 0) := by simp [show c.a.toNat < s2.length by omega]
      have hB : s2[c.b.toNat]? = some (s2.getD c.b.toNat 0) := by simp [show c.b.toNat < s2.length by omega]
      have hadd : add .i64 (i : Int) 1 = (i : Int) + 1 := add64 (by omega) (by omega)
      have hor : AM.or .i64 (s2.getD c.a.toNat 0) (s2.getD c.b.toNat 0) = bothP s2 c := rfl
      have hpvl : pv.length = s1.length := hss.1
      unfold f79_l2
      rw [show gv [sv, iv i] 1 = iv i from rfl, show gv [sv, iv i] 0 = sv from rfl, asI_int, lt_t (by omega), ifB_true, asK_int, (hs.ext (x1.trans hx)).ldA ag59 sz59 (by omega) (x := c.cells) (by simp [hc])]
      rw [al_st (zs := [iv 0, iv 0, iv 0]) (xs := c.cells) sz59 rfl rfl]
      generalize hG : g.fresh 59 [iv 0, iv 0, iv 0] c.cells = h7 at *
      simp only [Cl.cells] at hcb
      have hprev : ∀ (K : Value → Option (Ex × List Value × H)) (d : Cl), ¬ i = 0 → l[i - 1]? = some d → (six sl (sub .i64 (i : Int) 1) 3 fun b o => (h7.cell b (o + 2)).bind K) = K (iv d.t) := fun K d h0 hd => by
        rw [sub64 (by omega) (by omega)]
        exact hs7.cF (by omega) (x := d.cells) (by rw [show ((i : Int) - 1).toNat = i - 1 by omega]; simp [hd]) rfl K
      -- the last of what was heard, wherever it stands
      have lastOf : ∀ (g : H) (sv : Value) (ps : List Value) (w : Value) (x : Int), SlR g 25 1 sv (cellsV (ps ++ [w])) → x = ps.length + 1 → ps.length < 1000 → (∀ (K : Int → Option (Ex × List Value × H)), len sv K = K x) ∧
          ∀ (K : Value → Option (Ex × List Value × H)), (six sv (sub .i64 x 1) 1 fun b o => (g.cell b o).bind K) = K w := by
        intro g sv ps w x hsv hx hps
        subst hx
        refine ⟨fun K => by rw [hsv.len]; simp, fun K => ?_⟩
        rw [sub64 (by omega) (by omega)]
        exact hsv.c0 (by omega) (x := [w]) (by rw [show (((ps.length : Int) + 1) - 1).toNat = ps.length by omega]; simp) rfl K
      cases hf : firstP l i c with
      | true =>
        have kb : ∀ (K : Value → H → Option (Ex × List Value × H)), bls Try.prog h7 25 0 [] K = K (.slice (some ⟨h7.nx, 0, none⟩) 0 0) (h7.new (.row [] 3 true)) := fun K => bls_some (bls25e h7)
        have x10 := Ext.new h7 (.row [] 3 true)
        have a10 : AqR h7.nx (h7.new (.row [] 3 true)) 3 1 (.slice (some ⟨h7.nx, 0, none⟩) 0 0) [] := AqR.lit (l := []) (Nat.le_refl _) rfl (by simp) (by simp)
        obtain ⟨l10, g10⟩ := lastOf _ sv pv vl ((pv.length : Int) + 1) (a7.ext x10).slR rfl (by omega)
        obtain ⟨v8, h11, e11, a11, n11, k11, b11⟩ := a10.app app25 app25 (i7.ext x10).slR (by rw [List.all_eq_true]; intro x hx; simp only [flat1, List.mem_map] at hx; obtain ⟨z, _, rfl⟩ := hx; rfl) (by simp; omega) (by rw [nx_new]; omega)
        rw [List.nil_append] at a11
        obtain ⟨b8, hlo8, hb8, i11⟩ := a11.ia (by intro e; rw [e] at hlen; simp at hlen; omega)
        have x11 : Ext h7 h11 := ⟨Nat.le_trans x10.nx n11, fun q hq => by rw [k11 q (by rw [nx_new]; omega) (by intro e; cases e; omega)]; exact x10.blk q hq⟩
        obtain ⟨w8, hw8, _⟩ := i11.val
        obtain ⟨v10, h13, e13, a13, n13, k13, b13, hb13, hb13'⟩ := (a7.ext x11).push app58 app58 (xv := v8) (t2 := 58) (x := [v8]) (by rw [hw8]; exact bls58 _ _ _ _) rfl (by rw [hw8]; rfl) (by simp; omega) (by have := x11.nx; omega)
        have a13' : AqR h.nx h13 25 1 v10 (cellsV ((pv ++ [vl]) ++ [v8])) := by simpa using a13
        obtain ⟨l13, g13⟩ := lastOf _ v10 (pv ++ [vl]) v8 ((pv.length : Int) + 1 + 1) a13'.slR (by simp) (by simp; omega)
        have keep13 : ∀ q, q < h11.nx → blkOf sv ≠ some q → h13.blk q = h11.blk q := k13
        have svl : ∀ q, blkOf sv = some q → q < g.nx := fun q hq => (hap.blkOf hq).2.1
        have svt : ∀ q c, blkOf sv = some q → h7.blk q = some (.row c 3 true) → False := fun q c hq hr => by
          have := (a7.blkOf hq).2.2
          rw [this] at hr
          simp at hr
        have i13 : IA h13 b8 v8 s2 := i11.keep n13 (keep13 b8 i11.lt fun e => by have := svl b8 e; omega)
        have hcb13 : h13.blk g.nx = some (.row [iv c.a, iv c.b, iv c.t] 59 true) := (keep13 g.nx (by have := x11.nx; omega) (fun e => by have := svl _ e; omega)).trans ((x11.blk _ (by omega)).trans hcb)
        obtain ⟨g', n', f', i', e'⟩ := hear_wr (c := c) i13 (by omega) (by omega)
        have pA : ∀ (K : Nat → Nat → Option (Ex × List Value × H)), six v8 c.a 1 K = K b8 c.a.toNat := fun K => i13.put ha.1 (by omega) K
        have pB : ∀ (K : Nat → Nat → Option (Ex × List Value × H)), six v8 c.b 1 K = K b8 c.b.toNat := fun K => i13.put hb.1 (by omega) K
        have hcell : ∀ o, h13.cell b8 o = (s2.map iv)[o]? := fun o => cell_of i13.row
        have hck : ∀ o : Nat, fre g.nx h13.nx 1 1 b8 o 1 = true := fun o => by simp only [fre, Bool.and_eq_true, decide_eq_true_eq]; have := x11.nx; omega
        have vlS : SlR g' 3 1 vl (cellsI s2) := (i7.slR).keep (by have := x11.nx; omega) fun q o n c e => by
          have : q = b := by rw [e] at hbl; cases hbl; rfl
          subst this
          rw [f' q (by omega), keep13 q (by have := x11.nx; omega) (fun e => svt q _ e i7.row), x11.blk q (by omega)]
        have ss' : SsR g' pv s1 := ss7.keep (by have := x11.nx; omega) fun v hv q hq => by
          have hqg := hss.bel hv hq
          rw [f' q (by omega), keep13 q (by have := x11.nx; omega) (fun e => ?_), x11.blk q (by omega)]
          obtain ⟨j, hj, rfl⟩ := List.getElem_of_mem hv
          have := ss7.2 j pv[j] (s1[j]'(by omega)) (List.getElem?_eq_getElem hj) (List.getElem?_eq_getElem _)
          generalize pv[j] = v at *
          generalize cellsI (s1[j]'_) = L at this
          cases this with
          | nil => cases hq
          | at_ _ hr => cases hq; have := (a7.blkOf e).2.2; rw [this] at hr; simp at hr
        refine ⟨[v10, iv ((i : Int) + 1)], g', ?_, ⟨by have := x11.nx; rw [nx_new]; omega, fun q hq => ?_⟩, by simp only [heardG]; rw [hearP_len]; exact hlen, by simp [heardG, hf]; omega, v10, pv ++ [vl], v8, b8, ?_, fun q hq => ?_, by simpa [heardG, hf] using ss'.snoc vlS, ?_, by omega, by simpa [heardG] using i', by rw [hw8]; rw [hw8] at hb8; exact hb8, rfl⟩
        · generalize h7.new (.row [] 3 true) = h10 at *
          generalize s2.getD c.a.toNat 0 = A at *
          generalize s2.getD c.b.toNat 0 = B at *
          by_cases h0 : i = 0
          · subst h0
            have h01 : add .i64 0 1 = 1 := by decide
            simp [cell_of hcb, cell_of hb7, cell_of hcb13, pA, pB, hcell, hA, hB, hck, ck, hor, e', kb, l10, g10, e11, e13, l13, g13, h01]
          · have hd : ∃ d, l[i - 1]? = some d := ⟨_, List.getElem?_eq_getElem (by omega)⟩
            obtain ⟨d, hd⟩ := hd
            have hdt : d.t < c.t := by simpa [firstP, h0, hd] using hf
            simp [cell_of hcb, cell_of hb7, cell_of hcb13, pA, pB, hcell, hA, hB, hck, ck, hor, e', kb, l10, g10, e11, e13, l13, g13, hprev _ d h0 hd, h0, hdt, hadd]
        · have hq' : q < h.nx + 1 := hq
          rw [f' q (by omega), keep13 q (by have := x11.nx; omega) (fun e => by have := hne q e; omega), x11.blk q (by omega)]
          exact x7.blk q hq
        · exact a13'.keep (by omega) fun q hq => f' q (fun e => by rw [hb13] at hq; cases hq; have := i11.lt; omega)
        · rw [hb13] at hq; cases hq; have := x11.nx; omega
        · intro v hv e
          rcases List.mem_append.1 hv with hv | hv
          · have := hss.bel hv e; omega
          · simp at hv; subst hv; rw [hbl] at e; cases e; omega
      | false =>
        have h0 : ¬ i = 0 := by intro e; simp [firstP, e] at hf
        have hd : ∃ d, l[i - 1]? = some d := ⟨_, List.getElem?_eq_getElem (by omega)⟩
        obtain ⟨d, hd⟩ := hd
        have hdt : ¬ d.t < c.t := by simpa [firstP, h0, hd] using hf
        obtain ⟨l7, g7⟩ := lastOf _ sv pv vl ((pv.length : Int) + 1) a7.slR rfl (by omega)
        have svt : ∀ q c, blkOf sv = some q → h7.blk q = some (.row c 3 true) → False := fun q c hq hr => by
          have := (a7.blkOf hq).2.2
          rw [this] at hr
          simp at hr
        obtain ⟨g', n', f', i', e'⟩ := hear_wr (c := c) i7 (by omega) (by omega)
        have pA : ∀ (K : Nat → Nat → Option (Ex × List Value × H)), six vl c.a 1 K = K b c.a.toNat := fun K => i7.put ha.1 (by omega) K
        have pB : ∀ (K : Nat → Nat → Option (Ex × List Value × H)), six vl c.b 1 K = K b c.b.toNat := fun K => i7.put hb.1 (by omega) K
        have hcell : ∀ o, h7.cell b o = (s2.map iv)[o]? := fun o => cell_of i7.row
        have hck : ∀ o : Nat, fre g.nx h7.nx 1 1 b o 1 = true := fun o => by simp only [fre, Bool.and_eq_true, decide_eq_true_eq]; omega
        refine ⟨[sv, iv ((i : Int) + 1)], g', ?_, ⟨by rw [nx_new]; omega, fun q hq => ?_⟩, by simp only [heardG]; rw [hearP_len]; exact hlen, by simp [heardG, hf]; omega, sv, pv, vl, b, ?_, hne, ?_, hpv, hlo, by simpa [heardG] using i', hbl, rfl⟩
        · generalize s2.getD c.a.toNat 0 = A at *
          generalize s2.getD c.b.toNat 0 = B at *
          simp [cell_of hcb, cell_of hb7, pA, pB, hcell, hA, hB, hck, ck, hor, e', l7, g7, hprev _ d h0 hd, h0, hdt, hadd]
        · have hq' : q < h.nx + 1 := hq
          rw [f' q (by omega)]
          exact x7.blk q hq
        · exact a7.keep (by omega) fun q hq => f' q (fun e => svt q _ hq (e ▸ i7.row))
        · simp only [heardG, hf]
          exact ss7.keep (by omega) fun v hv q hq => f' q fun e => hpv v hv (e ▸ hq))
  simp only [List.map_replicate] at hl1'
  refine ⟨sv, h', pv, vl, x79 (k := max l.length m + 1) ?_ (by obtain ⟨x, y, z, hz⟩ := hap.isSl; rw [hz]; rfl), x1.trans hx, hap.slR, hss, hia.slR⟩
  have kmk : ∀ (K : Value → H → Option (Value × H)), mks Try.prog (h.new (.row [iv m, sl] 24 true)) 25 m m K = K v2 ((h.new (.row [iv m, sl] 24 true)).new (.row ((List.replicate m 0).map iv) 3 true)) := fun K => by
    rw [← hvv]; exact mks_ints app25 zero3 (by omega) K
  simp [f79, kmk, i2.len, lp_eq hl1', cell_of hb5, hs.len, lp_eq hl, k58, lt_ne (show h.nx < h5.nx by omega)]

end Go.AM
