/- All ways in time, one after the other. -/
import Derived.Test.YthmfjfblndophaaCl
import Derived.Test.YthmfjfblndophaaF3
import Derived.Test.YthmfjfblndophaaAmSim
namespace Go.AM
open Go.Proofs

variable {R : Type}

attribute [local simp] nx_eq nx_new nx_set blk_new blk_set asI_int asK_int asB_bool asP_ptr al_eq bx_eq len_slice onE_exit onE_ret onR_ret Value.cells d3 d29 d31 d56 d24 d59 d22 d25 d121 d89 w3 w25 cell_new cell_set rd_new rd_set off eq lt le ifB gv out eqF1 eqF2 eqF3 eqF4 eqF5 eqF6 eqF7 eqF8 ext20 ext21 k42 k72 k73 k74

/-- Can a way go on with a call? -/
def goes (c : Cl) (at_ tm seen : Int) : Bool := !decide (c.t ≤ tm) && c.has at_ && !inP seen (c.oth at_)

/-- The set with one person more. -/
def withP (seen p : Int) : Int := AM.or .i64 seen (shl .i64 1 p)

/-- What comes of one call. -/
def wayStep (rec : Int → Int → Int → List (List Int)) (t at_ tm seen : Int) (i : Nat) (c : Cl) : List (List Int) :=
  if goes c at_ tm seen = true then (if c.oth at_ = t then [[(i : Int)]] else (rec (c.oth at_) c.t (withP seen (c.oth at_))).map ((i : Int) :: ·)) else []

/-- All ways on from a person, in order. -/
def waysF (l : List Cl) (t : Int) : Nat → Int → Int → Int → List (List Int)
  | 0, _, _, _ => []
  | f + 1, at_, tm, seen => foldI (fun i c acc => acc ++ wayStep (waysF l t f) t at_ tm seen i c) l 0 []

/-- A function that is called with a slice of numbers: what it makes of a state; D: what it holds above 'lo'; O: what it may turn below. -/
structure Cb {σ : Type} (fv : Value) (lo : Nat) (O : Nat → Prop) (okw : List Int → Prop) (Inv : σ → List Nat → H → Prop) (stp : σ → List Int → σ) : Prop where
  keep : ∀ σ D g g', Inv σ D g → g.nx ≤ g'.nx → (∀ b, b < lo → g'.blk b = g.blk b) → (∀ b ∈ D, g'.blk b = g.blk b) → Inv σ D g'
  bel : ∀ σ D g, Inv σ D g → ∀ b ∈ D, lo ≤ b ∧ b < g.nx
  call : ∀ σ D g wv w, Inv σ D g → lo ≤ g.nx → SlR g 3 1 wv (cellsI w) → okw w → (∀ b ∈ D, blkOf wv ≠ some b) → (∀ b, blkOf wv = some b → lo ≤ b) →
    ∃ g' D', callV rn fv #[wv] g = some (undef, g') ∧ Inv (stp σ w) D' g' ∧ g.nx ≤ g'.nx ∧ (∀ b, b < g.nx → ¬ O b → b ∉ D → g'.blk b = g.blk b) ∧ (∀ b ∈ D', b ∈ D ∨ g.nx ≤ b)

/-- What the search holds. -/
structure WS {σ : Type} (lo : Nat) (O : Nat → Prop) (Inv : σ → List Nat → H → Prop) (n : Int) (sl fv : Value) (l : List Cl) (t : Int) (lb wb tb fb gb : Nat) (w : List Int) (wv : Value) (D : List Nat) (σ0 : σ) (g : H) : Prop where
  lo_ : lo ≤ g.nx
  hsl : SlR g 56 3 sl (l.map Cl.cells)
  slo : ∀ b, blkOf sl = some b → b < lo ∧ ¬ O b
  hlb : lo ≤ lb ∧ lb < g.nx ∧ g.blk lb = some (.row [iv n, sl] 31 true)
  htb : lo ≤ tb ∧ tb < g.nx ∧ g.blk tb = some (.row [iv t] 3 true)
  hfb : lo ≤ fb ∧ fb < g.nx ∧ g.blk fb = some (.row [fv] 89 true)
  hgb : lo ≤ gb ∧ gb < g.nx ∧ g.blk gb = some (.row [.func (.func 104) #[] #[pt lb 0, pt wb 0, pt tb 0, pt fb 0, pt gb 0]] 121 true)
  hwb : lo ≤ wb ∧ wb < g.nx ∧ g.blk wb = some (.row [wv] 25 true)
  ne : wb ≠ lb ∧ wb ≠ tb ∧ wb ≠ fb ∧ wb ≠ gb
  way : WqR lo g 3 1 wv (cellsI w)
  inv : Inv σ0 D g
  wt : blkOf wv ≠ some tb
  dis : ∀ b ∈ D, blkOf wv ≠ some b ∧ b ≠ wb ∧ b ≠ lb ∧ b ≠ tb ∧ b ≠ fb ∧ b ≠ gb

theorem slR_keep {h h' : H} {e : TypeId} {s : Nat} {v : Value} {l : List (List Value)} (a : SlR h e s v l) (hn : h.nx ≤ h'.nx) (hb : ∀ b, blkOf v = some b → h'.blk b = h.blk b) : SlR h' e s v l :=
  a.keep hn fun b o n c e => hb b (by rw [e]; rfl)

section
variable {σ : Type} {fv sl wv : Value} {lo : Nat} {O : Nat → Prop} {okw : List Int → Prop} {Inv : σ → List Nat → H → Prop} {stp : σ → List Int → σ} {n t : Int} {l : List Cl} {lb wb tb fb gb : Nat} {w : List Int} {D : List Nat} {σ0 : σ} {g : H}

theorem WS.turn (cb : Cb fv lo O okw Inv stp) (ws : WS lo O Inv n sl fv l t lb wb tb fb gb w wv D σ0 g) {g' : H} {w' : List Int} {wv' : Value} (hn : g.nx ≤ g'.nx) (hf : ∀ b, b < g.nx → b ≠ wb → blkOf wv ≠ some b → g'.blk b = g.blk b)
    (hw : g'.blk wb = some (.row [wv'] 25 true)) (ha : WqR lo g' 3 1 wv' (cellsI w')) (hb : ∀ b, blkOf wv' = some b → g.nx ≤ b ∨ blkOf wv = some b) : WS lo O Inv n sl fv l t lb wb tb fb gb w' wv' D σ0 g' := by
  have hwv : ∀ b, blkOf wv = some b → lo ≤ b ∧ ∃ c, g.blk b = some (.row c 3 true) := fun b hb => ⟨(ws.way.blkOf hb).1, (ws.way.blkOf hb).2.2⟩
  have other : ∀ b c e, b < g.nx → b ≠ wb → g.blk b = some (.row c e true) → e ≠ 3 → g'.blk b = some (.row c e true) := fun b c e h1 h2 h3 h4 => (hf b h1 h2 (fun h => by
    obtain ⟨_, c', h5⟩ := hwv b h
    rw [h3] at h5
    simp at h5
    exact h4 h5.2)).trans h3
  have hbel := cb.bel _ _ _ ws.inv
  have htb : g'.blk tb = some (.row [iv t] 3 true) := by
    exact (hf tb ws.htb.2.1 (Ne.symm ws.ne.2.1) ws.wt).trans ws.htb.2.2
  refine ⟨Nat.le_trans ws.lo_ hn, slR_keep ws.hsl hn fun b hb' => ?_, ws.slo, ⟨ws.hlb.1, Nat.lt_of_lt_of_le ws.hlb.2.1 hn, other _ _ _ ws.hlb.2.1 (Ne.symm ws.ne.1) ws.hlb.2.2 (by decide)⟩, ⟨ws.htb.1, Nat.lt_of_lt_of_le ws.htb.2.1 hn, htb⟩,
    ⟨ws.hfb.1, Nat.lt_of_lt_of_le ws.hfb.2.1 hn, other _ _ _ ws.hfb.2.1 (Ne.symm ws.ne.2.2.1) ws.hfb.2.2 (by decide)⟩, ⟨ws.hgb.1, Nat.lt_of_lt_of_le ws.hgb.2.1 hn, other _ _ _ ws.hgb.2.1 (Ne.symm ws.ne.2.2.2) ws.hgb.2.2 (by decide)⟩,
    ⟨ws.hwb.1, Nat.lt_of_lt_of_le ws.hwb.2.1 hn, hw⟩, ws.ne, ha, ?_, fun h => ?_, fun b hb' => ⟨fun h => ?_, (ws.dis b hb').2⟩⟩
  · have := (ws.slo b hb').1
    exact hf b (by have := ws.lo_; omega) (by have := ws.hwb.1; omega) (fun h => by have := (hwv b h).1; omega)
  · exact cb.keep _ _ _ _ ws.inv hn (fun b hb' => hf b (by have := ws.lo_; omega) (by have := ws.hwb.1; omega) (fun h => by have := (hwv b h).1; omega)) (fun b hb' => hf b (hbel b hb').2 (ws.dis b hb').2.1 (ws.dis b hb').1)
  · rcases hb tb h with h1 | h1
    · have := ws.htb.2.1; omega
    · exact ws.wt h1
  · rcases hb b h with h1 | h1
    · have := (hbel b hb').2; omega
    · exact (ws.dis b hb').1 h1

theorem WS.ext (cb : Cb fv lo O okw Inv stp) (ws : WS lo O Inv n sl fv l t lb wb tb fb gb w wv D σ0 g) {g' : H} (x : Ext g g') : WS lo O Inv n sl fv l t lb wb tb fb gb w wv D σ0 g' :=
  ws.turn cb x.nx (fun b hb _ _ => x.blk b hb) ((x.blk _ ws.hwb.2.1).trans ws.hwb.2.2) (ws.way.keep x.nx fun b hb => x.blk b (ws.way.blkOf hb).2.1) (fun _ h => .inr h)

theorem WS.called (cb : Cb fv lo O okw Inv stp) (hO : ∀ b, O b → b < lo) (ws : WS lo O Inv n sl fv l t lb wb tb fb gb w wv D σ0 g) (hok : okw w) :
    ∃ g' D', callV rn fv #[wv] g = some (undef, g') ∧ WS lo O Inv n sl fv l t lb wb tb fb gb w wv D' (stp σ0 w) g' ∧ g.nx ≤ g'.nx ∧ (∀ b, b < lo → ¬ O b → g'.blk b = g.blk b) := by
  have hbel := cb.bel _ _ _ ws.inv
  obtain ⟨g', D', e, i', n', f', d'⟩ := cb.call _ _ _ _ _ ws.inv ws.lo_ ws.way.slR hok (fun b hb => (ws.dis b hb).1) (fun b hb => (ws.way.blkOf hb).1)
  have up : ∀ b, lo ≤ b → b < g.nx → b ∉ D → g'.blk b = g.blk b := fun b h1 h2 h3 => f' b h2 (fun h => by have := hO b h; omega) h3
  refine ⟨g', D', e, ⟨Nat.le_trans ws.lo_ n', slR_keep ws.hsl n' fun b hb => ?_, ws.slo, ⟨ws.hlb.1, Nat.lt_of_lt_of_le ws.hlb.2.1 n', ?_⟩, ⟨ws.htb.1, Nat.lt_of_lt_of_le ws.htb.2.1 n', ?_⟩, ⟨ws.hfb.1, Nat.lt_of_lt_of_le ws.hfb.2.1 n', ?_⟩, ⟨ws.hgb.1, Nat.lt_of_lt_of_le ws.hgb.2.1 n', ?_⟩,
    ⟨ws.hwb.1, Nat.lt_of_lt_of_le ws.hwb.2.1 n', ?_⟩, ws.ne, ws.way.keep n' fun b hb => ?_, i', ws.wt, fun b hb => ?_⟩, n', fun b h1 h2 => f' b (by have := ws.lo_; omega) h2 (fun h => by have := (hbel b h).1; omega)⟩
  · have := ws.slo b hb
    exact f' b (by have := ws.lo_; omega) this.2 (fun h => by have := (hbel b h).1; omega)
  · exact (up lb ws.hlb.1 ws.hlb.2.1 (fun h => (ws.dis _ h).2.2.1 rfl)).trans ws.hlb.2.2
  · exact (up tb ws.htb.1 ws.htb.2.1 (fun h => (ws.dis _ h).2.2.2.1 rfl)).trans ws.htb.2.2
  · exact (up fb ws.hfb.1 ws.hfb.2.1 (fun h => (ws.dis _ h).2.2.2.2.1 rfl)).trans ws.hfb.2.2
  · exact (up gb ws.hgb.1 ws.hgb.2.1 (fun h => (ws.dis _ h).2.2.2.2.2 rfl)).trans ws.hgb.2.2
  · exact (up wb ws.hwb.1 ws.hwb.2.1 (fun h => (ws.dis _ h).2.1 rfl)).trans ws.hwb.2.2
  · exact up b (ws.way.blkOf hb).1 (ws.way.blkOf hb).2.1 (fun h => (ws.dis _ h).1 hb)
  · rcases d' b hb with h | h
    · exact ws.dis b h
    · have h1 := ws.hlb.2.1
      have h2 := ws.htb.2.1
      have h3 := ws.hfb.2.1
      have h4 := ws.hgb.2.1
      have h5 := ws.hwb.2.1
      exact ⟨fun h6 => by have := (ws.way.blkOf h6).2.1; omega, by omega, by omega, by omega, by omega, by omega⟩

theorem mem_app {α β : Type} {st : Nat → α → List β} {x : β} : ∀ (l : List α) (i : Nat) (acc : List β), x ∈ foldI (fun i c acc => acc ++ st i c) l i acc ↔ x ∈ acc ∨ ∃ j c, l[j]? = some c ∧ x ∈ st (i + j) c := by
  intro l
  induction l with
  | nil => intro i acc; simp [foldI]
  | cons c l ih =>
    intro i acc
    simp only [foldI]
    rw [ih, List.mem_append]
    constructor
    · rintro ((h | h) | ⟨j, d, h1, h2⟩)
      · exact .inl h
      · exact .inr ⟨0, c, rfl, h⟩
      · exact .inr ⟨j + 1, d, by simpa using h1, by rw [show i + (j + 1) = i + 1 + j by omega]; exact h2⟩
    · rintro (h | ⟨j, d, h1, h2⟩)
      · exact .inl (.inl h)
      · cases j with
        | zero => simp at h1; subst h1; exact .inl (.inr h2)
        | succ j => exact .inr ⟨j, d, by simpa using h1, by rw [show i + 1 + j = i + (j + 1) by omega]; exact h2⟩

/-- What the search does from a time on. -/
def GrowOk {σ : Type} (fv sl : Value) (lo : Nat) (O : Nat → Prop) (okw : List Int → Prop) (Inv : σ → List Nat → H → Prop) (stp : σ → List Int → σ) (n t : Int) (l : List Cl) (lb wb tb fb gb : Nat) (F : Nat) (tm : Int) : Prop :=
  ∀ (p seen : Int) (w : List Int) (wv : Value) (D : List Nat) (σ0 : σ) (g : H), 0 ≤ p ∧ p < n → w.length + F < 100 → WS lo O Inv n sl fv l t lb wb tb fb gb w wv D σ0 g → (∀ w' ∈ waysF l t F p tm seen, okw (w ++ w')) →
    ∃ g' wv' D', rn 104 #[iv p, iv tm, iv seen, pt lb 0, pt wb 0, pt tb 0, pt fb 0, pt gb 0] g = some (undef, g') ∧ WS lo O Inv n sl fv l t lb wb tb fb gb w wv' D' (((waysF l t F p tm seen).map (w ++ ·)).foldl stp σ0) g' ∧ g.nx ≤ g'.nx ∧
      (∀ b, b < lo → ¬ O b → g'.blk b = g.blk b)

theorem grow_body (cb : Cb fv lo O okw Inv stp) (hO : ∀ b, O b → b < lo) (hv : validP n l = true) (F : Nat) (tm : Int) (hrec : ∀ tm', tm < tm' → tm' ≤ 30 → GrowOk fv sl lo O okw Inv stp n t l lb wb tb fb gb F tm') :
    GrowOk fv sl lo O okw Inv stp n t l lb wb tb fb gb (F + 1) tm := by
  obtain ⟨hn1, hn7, hl24, hok⟩ := validP_ok hv
  intro p seen w wv D σ0 g hp hlen ws hokw
  obtain ⟨ws', g', hl, ⟨wv', D', wsN, n', f'⟩, _⟩ := lp_for (F := f104_l1 rn 30 p tm seen (pt wb 0) (pt tb 0) (pt fb 0) (pt gb 0) sl l.length) (k := 30) (l := l) (fun i c acc => acc ++ wayStep (waysF l t F) t p tm seen i c)
    (fun i acc ws g' => (∃ wv D, WS lo O Inv n sl fv l t lb wb tb fb gb w wv D ((acc.map (w ++ ·)).foldl stp σ0) g' ∧ g.nx ≤ g'.nx ∧ (∀ b, b < lo → ¬ O b → g'.blk b = g.blk b)) ∧ ws = [iv i]) 0 (ws := [iv 0]) (h := g) (s0 := [])
    ⟨⟨wv, D, ws, Nat.le_refl _, fun _ _ _ => rfl⟩, rfl⟩ (by omega)
    (by
      rintro acc ws' g' ⟨_, rfl⟩
      simp [f104_l1])
    (by
      rintro i c acc ws' g1 hc ⟨⟨wv, D, ws, n1, f1⟩, rfl⟩
      have hil := (List.getElem?_eq_some_iff.1 hc).1
      have hcok := hok _ _ hc
      have hadd : add .i64 (i : Int) 1 = (i : Int) + 1 := add64 (by omega) (by omega)
      have x3 := (Ext.refl g1).fresh 56 [iv 0, iv 0, iv 0] c.cells
      have hcb := blk_fresh g1 56 [iv 0, iv 0, iv 0] c.cells
      have hn3 : (g1.fresh 56 [iv 0, iv 0, iv 0] c.cells).nx = g1.nx + 1 := rfl
      have ws3 := ws.ext cb x3
      unfold f104_l1
      rw [show gv [iv i] 0 = iv i from rfl, asI_int, lt_t (by omega), ifB_true, asK_int, ws.hsl.ldA ag56 sz56 (by omega) (x := c.cells) (by simp [hc])]
      rw [al_st (zs := [iv 0, iv 0, iv 0]) (xs := c.cells) sz56 rfl rfl]
      generalize g1.fresh 56 [iv 0, iv 0, iv 0] c.cells = h3 at *
      simp only [Cl.cells] at hcb
      by_cases hg : goes c p tm seen = true
      · have hg' := hg
        simp only [goes, Bool.and_eq_true, Bool.not_eq_true', decide_eq_false_iff_not] at hg
        obtain ⟨⟨g_t, g_h⟩, g_s⟩ := hg
        have hoth := oth_ok hcok g_h
        have hcalc := oth_calc (by omega) hcok g_h
        have hin : AM.and .i64 (shr .i64 seen (c.oth p)) 1 ≠ 1 := by simpa [inP] using g_s
        -- one call more
        obtain ⟨v16, h8, e8, a8, n8, k8, b8, hb8, hb8'⟩ := ws3.way.push app25 app25 (bls25 (i : Int)) rfl rfl (by simp; omega) ws3.lo_
        have hwb3 : h3.blk wb = some (.row [wv] 25 true) := ws3.hwb.2.2
        have hwb8 : h8.blk wb = some (.row [wv] 25 true) := (k8 wb ws3.hwb.2.1 (fun h => by obtain ⟨_, _, c', h5⟩ := ws3.way.blkOf h; rw [hwb3] at h5; simp at h5)).trans hwb3
        have hw8 : wrc 1 h8 wb 0 v16 = some (h8.set wb (.row [v16] 25 true)) := by rw [wrc_one hwb8 a8.cells.1 a8.cells.2 (by simp)]; rfl
        have ws9 : WS lo O Inv n sl fv l t lb wb tb fb gb (w ++ [(i : Int)]) v16 D ((acc.map (w ++ ·)).foldl stp σ0) (h8.set wb (.row [v16] 25 true)) := by
          refine ws3.turn cb n8 (fun b h1 h2 h3 => by rw [blk_set_ne _ _ _ h2]; exact k8 b h1 h3) (blk_set_self _ _ _) ?_ (fun b hb => ?_)
          · have := a8.keep (h' := h8.set wb (.row [v16] 25 true)) (Nat.le_refl _) fun b hb => blk_set_ne _ _ _ (fun e => by
              subst e
              obtain ⟨_, _, c', h5⟩ := a8.blkOf hb
              rw [hwb8] at h5
              simp at h5)
            simpa using this
          · rw [hb8] at hb
            cases hb
            exact hb8'
        have hcb9 : (h8.set wb (.row [v16] 25 true)).blk g1.nx = some (.row [iv c.a, iv c.b, iv c.t] 56 true) := by
          have h1 := ws.hwb.2.1
          rw [blk_set_ne _ _ _ (by omega), k8 g1.nx (by omega) (fun h => by obtain ⟨_, h5, _⟩ := ws.way.blkOf h; omega)]
          exact hcb
        have n9 : g1.nx ≤ (h8.set wb (.row [v16] 25 true)).nx := by rw [nx_set]; omega
        have f9 : ∀ b, b < lo → (h8.set wb (.row [v16] 25 true)).blk b = g1.blk b := fun b hb => by
          have h1 := ws.hwb.1
          have h2 := ws.lo_
          rw [blk_set_ne _ _ _ (by omega), k8 b (by omega) (fun h => by obtain ⟨h5, _⟩ := ws.way.blkOf h; omega)]
          exact x3.blk b (by omega)
        generalize h8.set wb (.row [v16] 25 true) = h9 at *
        -- and without it again
        have back : ∀ (v17 : Value) (D' : List Nat) (σ1 : σ) (h10 : H), WS lo O Inv n sl fv l t lb wb tb fb gb (w ++ [(i : Int)]) v17 D' σ1 h10 → ∃ v23 h11, (∀ (K : Int → Option (Ex × List Value × H)), len v17 K = K ((w.length : Int) + 1)) ∧
            (∀ (K : Value → Option (Ex × List Value × H)), sli Try.prog h10 25 v17 none (some (.int .i64 (sub .i64 ((w.length : Int) + 1) 1))) none K = K v23) ∧ wrc 1 h10 wb 0 v23 = some h11 ∧ WS lo O Inv n sl fv l t lb wb tb fb gb w v23 D' σ1 h11 ∧ h10.nx ≤ h11.nx ∧ (∀ b, b < lo → h11.blk b = h10.blk b) := by
          intro v17 D' σ1 h10 w10
          have hway : WqR lo h10 3 1 v17 (cellsI w ++ [[iv (i : Int)]]) := by simpa using w10.way
          obtain ⟨v23, e23, a23, b23⟩ := hway.pop under25 sz3
          refine ⟨v23, h10.set wb (.row [v23] 25 true), fun K => by rw [hway.slR.len]; simp, fun K => ?_, by rw [wrc_one w10.hwb.2.2 a23.cells.1 a23.cells.2 (by simp)]; rfl, ?_, Nat.le_refl _, fun b hb => blk_set_ne _ _ _ (by have := w10.hwb.1; omega)⟩
          · rw [sub64 (by omega) (by omega), show (w.length : Int) + 1 - 1 = ((cellsI w).length : Int) by simp]
            exact e23 K
          · exact w10.turn cb (Nat.le_refl _) (fun b h1 h2 _ => blk_set_ne _ _ _ h2) (blk_set_self _ _ _) (a23.keep (Nat.le_refl _) fun b hb => blk_set_ne _ _ _ (fun e => by
              subst e
              obtain ⟨_, _, c', h5⟩ := a23.blkOf hb
              rw [w10.hwb.2.2] at h5
              simp at h5)) (fun b hb => .inr (b23 ▸ hb))
        by_cases hto : c.oth p = t
        · have hst : wayStep (waysF l t F) t p tm seen i c = [[(i : Int)]] := by simp [wayStep, hg', hto]
          obtain ⟨h10, D', e10, ws10, n10, f10⟩ := ws9.called cb hO (hokw [(i : Int)] (by
            simp only [waysF]
            rw [mem_app]
            exact .inr ⟨i, c, hc, by rw [Nat.zero_add, hst]; simp⟩))
          obtain ⟨v23, h11, l23, s23, w23, ws11, n11, f11⟩ := back _ _ _ _ ws10
          have hcv : ∀ (K : Value → H → Option (Ex × List Value × H)), callsV rn h9 fv [v16] K = K undef h10 := fun K => callsV_some (xs := [v16]) e10
          refine ⟨[iv ((i : Int) + 1)], h11, ?_, ⟨v23, D', ?_, by omega, fun b hb h => by rw [f11 b hb, f10 b hb h, f9 b hb, f1 b hb h]⟩, rfl⟩
          · have h1 : c.oth p = t := hto
            have ht0 : 0 ≤ t := hto ▸ hoth.1
            have hin' : AM.and .i64 (shr .i64 seen t) 1 ≠ 1 := hto ▸ hin
            simp [nn_ge ht0, hin', cell_of hcb, rd_of hcb, hcalc, nn_ge hoth.1, hin, g_h, show ¬ c.t ≤ tm from Int.not_le.2 (by omega), cell_of ws3.hwb.2.2, e8, hw8, cell_of ws9.htb.2.2, cell_of ws9.hfb.2.2, cell_of ws9.hwb.2.2, h1, hcv, cell_of ws10.hwb.2.2, l23, s23, w23, hadd]
          · rw [hst]; simpa using ws11
        · have hst : wayStep (waysF l t F) t p tm seen i c = (waysF l t F (c.oth p) c.t (withP seen (c.oth p))).map ((i : Int) :: ·) := by simp [wayStep, hg', hto]
          have htm : tm < c.t ∧ c.t ≤ 30 := ⟨by simpa using g_t, (okC_iff.1 hcok).2.2.2.2⟩
          obtain ⟨h10, v17, D', e10, ws10, n10, f10⟩ := hrec c.t htm.1 htm.2 (c.oth p) (withP seen (c.oth p)) (w ++ [(i : Int)]) v16 D _ h9 ⟨hoth.1, hoth.2.1⟩ (by simp; omega) ws9 (fun w' hw' => by
            have := hokw ((i : Int) :: w') (by
              simp only [waysF]
              rw [mem_app]
              exact .inr ⟨i, c, hc, by rw [Nat.zero_add, hst]; simpa using hw'⟩)
            simpa using this)
          obtain ⟨v23, h11, l23, s23, w23, ws11, n11, f11⟩ := back _ _ _ _ ws10
          have hcv : ∀ (K : Value → H → Option (Ex × List Value × H)), calls rn h9 104 [iv (c.oth p), iv c.t, iv (AM.or .i64 seen (shl .i64 1 (c.oth p))), pt lb 0, pt wb 0, pt tb 0, pt fb 0, pt gb 0] K = K undef h10 := fun K => calls_eq (xs := [_, _, _, _, _, _, _, _]) e10
          refine ⟨[iv ((i : Int) + 1)], h11, ?_, ⟨v23, D', ?_, by omega, fun b hb h => by rw [f11 b hb, f10 b hb h, f9 b hb, f1 b hb h]⟩, rfl⟩
          · simp [cell_of hcb, rd_of hcb, hcalc, nn_ge hoth.1, hin, g_h, show ¬ c.t ≤ tm from Int.not_le.2 (by omega), cell_of ws3.hwb.2.2, e8, hw8, cell_of ws9.htb.2.2, cell_of ws9.hfb.2.2, cell_of ws9.hwb.2.2, hto, callsV_eq, cell_of ws9.hgb.2.2, cell_of hcb9, hcv, cell_of ws10.hwb.2.2, l23, s23, w23, hadd]
          · rw [hst]
            simp only [List.map_append, List.foldl_append, List.map_map]
            simpa [Function.comp_def] using ws11
      · have hst : wayStep (waysF l t F) t p tm seen i c = [] := by simp [wayStep, hg]
        refine ⟨[iv ((i : Int) + 1)], h3, ?_, ⟨wv, D, by rw [hst]; simpa using ws3, by omega, fun b hb h => by rw [x3.blk b (by have := ws.lo_; omega), f1 b hb h]⟩, rfl⟩
        by_cases g_t : c.t ≤ tm
        · simp [cell_of hcb, rd_of hcb, g_t, hadd]
        · by_cases g_h : c.has p = true
          · have hoth := oth_ok hcok g_h
            have hcalc := oth_calc (by omega) hcok g_h
            have hin : AM.and .i64 (shr .i64 seen (c.oth p)) 1 = 1 := by
              have : goes c p tm seen = false := by simpa using hg
              simpa [goes, g_t, g_h, inP] using this
            simp [cell_of hcb, rd_of hcb, g_t, g_h, hcalc, nn_ge hoth.1, hin, hadd]
          · simp [cell_of hcb, rd_of hcb, g_t, g_h, hadd])
  refine ⟨g', wv', D', x104 (k := 30) ?_ rfl, wsN, n', f'⟩
  have hlb : ∀ o, g.cell lb o = [iv n, sl][o]? := fun o => cell_of ws.hlb.2.2
  simp [f104, hlb, ws.hsl.len, lp_eq hl]

theorem grow (cb : Cb fv lo O okw Inv stp) (hO : ∀ b, O b → b < lo) (hv : validP n l = true) : ∀ (f : Nat) (tm : Int), 31 - tm ≤ f → GrowOk fv sl lo O okw Inv stp n t l lb wb tb fb gb (f + 1) tm := by
  intro f
  induction f with
  | zero => intro tm htm; exact grow_body cb hO hv 0 tm (fun tm' h1 h2 => by omega)
  | succ f ih => intro tm htm; exact grow_body cb hO hv (f + 1) tm (fun tm' h1 h2 => ih tm' (by omega))

end

end Go.AM
