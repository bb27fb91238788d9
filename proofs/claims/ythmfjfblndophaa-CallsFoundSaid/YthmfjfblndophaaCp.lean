/- The first way for which a number is least. -/
import Derived.Test.YthmfjfblndophaaCn
namespace Go.AM
open Go.Proofs

variable {R : Type}

attribute [local simp] nx_eq nx_new nx_set blk_new blk_set asI_int asK_int asB_bool asP_ptr al_eq bx_eq len_slice onE_exit onE_ret onR_ret Value.cells d3 d29 d31 d56 d24 d59 d22 d25 d121 d89 d61 w3 w25 w121 cell_new cell_set rd_new rd_set off eq lt le ifB gv out eqF1 eqF2 eqF3 eqF4 eqF5 eqF6 eqF7 eqF8 ext20 ext21 k42 k72 k73 k74

theorem slR_bel {h : H} {e : TypeId} {s : Nat} {v : Value} {l : List (List Value)} (a : SlR h e s v l) {b : Nat} (hb : blkOf v = some b) : b < h.nx := by
  cases a with
  | nil => cases hb
  | at_ hb' => cases hb; exact hb'

/-- All ways from s to t. -/
def allWays (l : List Cl) (s t : Int) : List (List Int) := waysF l t 32 s 0 (shl .i64 1 s)

theorem s85 {σ : Type} {fv sl : Value} {O : Nat → Prop} {okw : List Int → Prop} {Inv : σ → List Nat → H → Prop} {stp : σ → List Int → σ} {n s t : Int} {l : List Cl} {σ0 : σ} {g : H}
    (cb : Cb fv g.nx O okw Inv stp) (hO : ∀ b, O b → b < g.nx) (hv : validP n l = true) (hs : 0 ≤ s ∧ s < n) (hsl : SlR g 56 3 sl (l.map Cl.cells)) (hslo : ∀ b, blkOf sl = some b → ¬ O b) (hi : Inv σ0 [] g) (hfs : scal fv = true) (hfc : fv.cells = #[fv])
    (hok : ∀ w ∈ allWays l s t, okw w) :
    ∃ g' D', rn 85 #[.agg #[iv n, sl], iv s, iv t, fv] g = some (undef, g') ∧ Inv ((allWays l s t).foldl stp σ0) D' g' ∧ g.nx ≤ g'.nx ∧ ∀ b, b < g.nx → ¬ O b → g'.blk b = g.blk b := by
  let F : Value := .func (.func 104) #[] #[pt g.nx 0, pt (g.nx + 3) 0, pt (g.nx + 1) 0, pt (g.nx + 2) 0, pt (g.nx + 4) 0]
  let g6 : H := (((((g.new (.row [iv n, sl] 31 true)).new (.row [iv t] 3 true)).new (.row [fv] 89 true)).new (.row [.slice none 0 0] 25 true)).new (.row [.nilFunc] 121 true)).set (g.nx + 4) (.row [F] 121 true)
  have n6 : g6.nx = g.nx + 5 := rfl
  have x6 : Ext g g6 := ((((((Ext.refl g).new' _).new' _).new' _).new' _).new' _).set (by omega) _
  have bl : ∀ q, g6.blk q = if q = g.nx + 4 then some (.row [F] 121 true) else if q = g.nx + 3 then some (.row [.slice none 0 0] 25 true) else if q = g.nx + 2 then some (.row [fv] 89 true) else if q = g.nx + 1 then some (.row [iv t] 3 true) else if q = g.nx then some (.row [iv n, sl] 31 true) else g.blk q := by
    intro q
    by_cases h4 : q = g.nx + 4
    · rw [if_pos h4, h4]; exact blk_set_self _ _ _
    · rw [if_neg h4]
      simp only [g6]
      rw [blk_set_ne _ _ _ h4, blk_new_ne _ _ h4]
      rfl
  have e0 : g6.blk g.nx = some (.row [iv n, sl] 31 true) := by rw [bl, if_neg (by omega), if_neg (by omega), if_neg (by omega), if_neg (by omega), if_pos rfl]
  have e1 : g6.blk (g.nx + 1) = some (.row [iv t] 3 true) := by rw [bl, if_neg (by omega), if_neg (by omega), if_neg (by omega), if_pos rfl]
  have e2 : g6.blk (g.nx + 2) = some (.row [fv] 89 true) := by rw [bl, if_neg (by omega), if_neg (by omega), if_pos rfl]
  have e3 : g6.blk (g.nx + 3) = some (.row [.slice none 0 0] 25 true) := by rw [bl, if_neg (by omega), if_pos rfl]
  have e4 : g6.blk (g.nx + 4) = some (.row [F] 121 true) := by rw [bl, if_pos rfl]
  have ws : WS g.nx O Inv n sl fv l t g.nx (g.nx + 3) (g.nx + 1) (g.nx + 2) (g.nx + 4) [] (.slice none 0 0) [] σ0 g6 := by
    refine ⟨by omega, hsl.ext x6, fun b hb => ⟨slR_bel hsl hb, hslo b hb⟩, ⟨by omega, by omega, e0⟩, ⟨by omega, by omega, e1⟩, ⟨by omega, by omega, e2⟩, ⟨by omega, by omega, e4⟩, ⟨by omega, by omega, e3⟩, ⟨by omega, by omega, by omega, by omega⟩, .nil, cb.keep _ _ _ _ hi x6.nx x6.blk (by simp), by simp [blkOf], by simp⟩
  obtain ⟨g', wv, D', e, w', n', f'⟩ := grow cb hO hv 31 0 (by omega) s (shl .i64 1 s) [] (.slice none 0 0) [] σ0 g6 hs (by simp) ws (by simpa [allWays] using hok)
  refine ⟨g', D', x85 (k := 0) ?_ rfl, by simpa [allWays] using w'.inv, by omega, fun b hb h => by rw [f' b hb h]; exact x6.blk b hb⟩
  have hst : wrc 1 (((((g.new (.row [iv n, sl] 31 true)).new (.row [iv t] 3 true)).new (.row [fv] 89 true)).new (.row [.slice none 0 0] 25 true)).new (.row [.nilFunc] 121 true)) (g.nx + 4) 0 F = some g6 := by
    exact (wrc_one (b := g.nx + 4) (v := F) (o := 0) (c := [.nilFunc]) (e := 121) (blk_new_at _ _ rfl) rfl rfl (by simp)).trans rfl
  have hgb : ∀ o, g6.cell (g.nx + 4) o = [F][o]? := fun o => cell_of e4
  have hc : ∀ (K : Value → H → Option (Value × H)), callsV rn g6 F [iv s, iv 0, iv (shl .i64 1 s)] K = K undef g' := fun K => by
    rw [callsV_eq]
    exact calls_eq (xs := [_, _, _, _, _, _, _, _]) e
  unfold f85
  rw [bx_eq, bx_eq, bx_eq, hfc]
  simp only [al_eq, nx_eq, nx_new, w121]
  have hst' : ∀ (K : H → Option (Value × H)), (wrc 1 (((((g.new (.row [iv n, sl] 31 true)).new (.row [iv t] 3 true)).new (.row [fv] 89 true)).new (.row [.slice none 0 0] 25 true)).new (.row [.nilFunc] 121 true)) (g.nx + 4) 0 F).bind K = K g6 := fun K => by rw [hst]; rfl
  refine (hst' _).trans ?_
  show ld Try.prog g6 121 (g.nx + 4) 0 _ = _
  rw [d121, hgb]
  show nn s _ = _
  rw [nn_ge hs.1]
  exact hc _

theorem s75a {v : Value} {w : List Int} {h : H} (hs : SlR h 3 1 v (cellsI w)) (hm : w.length < 2 ^ 30) (hw : w ≠ []) : ∃ v' h' b, rn 75 #[v] h = some (v', h') ∧ Ext h h' ∧ h.nx ≤ b ∧ blkOf v' = some b ∧ IA h' b v' w := by
  have hs0 := hs
  generalize hL : cellsI w = L at hs
  cases hs with
  | nil => simp at hL; exact absurd hL hw
  | @at_ b o c cs own l hb hr hk hc hl hx =>
    subst hL
    have x1 := Ext.new h (.row [] 3 true)
    have a1 : AqR h.nx (h.new (.row [] 3 true)) 3 1 (.slice (some ⟨h.nx, 0, none⟩) 0 0) [] := AqR.lit (l := []) (Nat.le_refl _) rfl (by simp) (by simp)
    obtain ⟨v', h', e, a, n, f, b'⟩ := a1.app app25 app25 (hs0.ext x1) (by rw [List.all_eq_true]; intro x hx; simp only [flat1, List.mem_map] at hx; obtain ⟨z, _, rfl⟩ := hx; rfl) (by simpa using hm) (Nat.le_succ _)
    rw [List.nil_append] at a
    obtain ⟨q, q1, q2, q3⟩ := a.ia hw
    refine ⟨v', h', q, x75 (k := 0) ?_ (a.slR.notR), ⟨Nat.le_trans x1.nx n, fun i hi => by rw [f i (by rw [nx_new]; omega) (by intro e; cases e; omega)]; exact x1.blk i hi⟩, q1, q2, q3⟩
    unfold f75 eqv
    rw [some25]
    simp only []
    rw [show ifB false = fun (x y : Option (Value × H)) => y from rfl]
    simp only []
    rw [bls_some (bls25e h)]
    exact e _

/-- The better of two ways. -/
def betterP (ofP : List Int → Int) (σ : Option (List Int)) (w : List Int) : Option (List Int) :=
  match σ with
  | none => some w
  | some b => if ofP w < ofP b then some w else some b

/-- What the search for the best holds. -/
def BestI (g6 : H) (ob : Nat) (σ : Option (List Int)) (D : List Nat) (g : H) : Prop :=
  g6.nx ≤ g.nx ∧ (∀ b, b < g6.nx → b ≠ ob → g.blk b = g6.blk b) ∧ ∃ ov, g.blk ob = some (.row [ov] 25 true) ∧
    match σ with
    | none => ov = .slice none 0 0 ∧ D = []
    | some w => w ≠ [] ∧ ∃ q, D = [q] ∧ g6.nx ≤ q ∧ blkOf ov = some q ∧ IA g q ov w

theorem nilv25 {v : Value} {b : Nat} (hb : blkOf v = some b) : binOp Try.prog .eql 25 v (.slice none 0 0) = some (.bool false) := by
  unfold blkOf at hb
  split at hb
  · exact some25 _ _ _ _
  · cases hb

theorem best_cb {g6 : H} {ob ofb : Nat} {ofv : Value} {ofP : List Int → Int} {okw : List Int → Prop} (hob : ob < g6.nx) (hofb : ofb < g6.nx) (hne : ofb ≠ ob) (hof : g6.blk ofb = some (.row [ofv] 61 true)) (hokw : ∀ w, okw w → w ≠ [] ∧ w.length < 1000)
    (hcall : ∀ (g : H) (wv : Value) (w : List Int), g6.nx ≤ g.nx → (∀ b, b < g6.nx → b ≠ ob → g.blk b = g6.blk b) → SlR g 3 1 wv (cellsI w) → okw w → callV rn ofv #[wv] g = some (iv (ofP w), g)) :
    Cb (.func (.func 97) #[] #[pt ob 0, pt ofb 0]) g6.nx (fun b => b = ob) okw (fun σ D g => BestI g6 ob σ D g ∧ ∀ w, σ = some w → okw w) (betterP ofP) := by
  refine ⟨?_, ?_, ?_⟩
  · rintro σ D g g' ⟨⟨h1, h2, ov, h3, h4⟩, h5⟩ hn hlo hD
    refine ⟨⟨by omega, fun b hb hb' => (hlo b hb).trans (h2 b hb hb'), ov, (hlo ob hob).trans h3, ?_⟩, h5⟩
    cases σ with
    | none => exact h4
    | some w =>
      obtain ⟨a1, q, a2, a3, a4, a5⟩ := h4
      exact ⟨a1, q, a2, a3, a4, a5.keep hn (hD q (by rw [a2]; simp))⟩
  · rintro σ D g ⟨⟨h1, h2, ov, h3, h4⟩, h5⟩ b hb
    cases σ with
    | none => rw [h4.2] at hb; simp at hb
    | some w =>
      obtain ⟨a1, q, a2, a3, a4, a5⟩ := h4
      rw [a2] at hb
      simp at hb
      subst hb
      exact ⟨a3, a5.lt⟩
  · rintro σ D g wv w ⟨⟨h1, h2, ov, h3, h4⟩, h5⟩ hn hwv hw hdis hlow
    obtain ⟨hw0, hwl⟩ := hokw w hw
    obtain ⟨v', h', q, e, x, q1, q2, q3⟩ := s75a hwv (by omega) hw0
    have hob' : h'.blk ob = some (.row [ov] 25 true) := (x.blk ob (by omega)).trans h3
    obtain ⟨cv, hcv, _⟩ := q3.val
    have hst : wrc 1 h' ob 0 v' = some (h'.set ob (.row [v'] 25 true)) := by rw [wrc_one hob' (by rw [hcv]; rfl) (by rw [hcv]; rfl) (by simp)]; rfl
    have hcl : ∀ (K : Value → H → Option (Value × H)), calls rn g 75 [wv] K = K v' h' := fun K => calls_eq (xs := [_]) e
    have hoc : ∀ o, g.cell ob o = [ov][o]? := fun o => cell_of h3
    have hofc : ∀ o, g.cell ofb o = [ofv][o]? := fun o => cell_of ((h2 ofb hofb hne).trans hof)
    have took : BestI g6 ob (some w) [q] (h'.set ob (.row [v'] 25 true)) ∧ (∀ w', some w = some w' → okw w') := by
      refine ⟨⟨by rw [nx_set]; have := x.nx; omega, fun b hb hb' => by rw [blk_set_ne _ _ _ hb', x.blk b (by omega)]; exact h2 b hb hb', v', blk_set_self _ _ _, hw0, q, rfl, by omega, q2, q3.keep (Nat.le_refl _) (blk_set_ne _ _ _ (by omega))⟩, fun w' hw' => by cases hw'; exact hw⟩
    have fr : ∀ b, b < g.nx → ¬ b = ob → b ∉ D → (h'.set ob (.row [v'] 25 true)).blk b = g.blk b := fun b h1 h2 _ => by rw [blk_set_ne _ _ _ h2]; exact x.blk b h1
    cases σ with
    | none =>
      obtain ⟨rfl, rfl⟩ := h4
      refine ⟨h'.set ob (.row [v'] 25 true), [q], ?_, took, by rw [nx_set]; exact x.nx, fr, fun b hb => by simp at hb; omega⟩
      show rn 97 _ g = _
      refine x97 (k := 0) ?_ rfl
      simp [f97, hoc, eqv, nil25, hcl, hst]
    | some b0 =>
      obtain ⟨a1, q0, rfl, a3, a4, a5⟩ := h4
      have hok0 := h5 b0 rfl
      have hc1 : ∀ (K : Value → H → Option (Value × H)), callsV rn g ofv [wv] K = K (iv (ofP w)) g := fun K => callsV_some (xs := [wv]) (hcall g wv w h1 h2 hwv hw)
      have hc2 : ∀ (K : Value → H → Option (Value × H)), callsV rn g ofv [ov] K = K (iv (ofP b0)) g := fun K => callsV_some (xs := [ov]) (hcall g ov b0 h1 h2 a5.slR hok0)
      have hck : ∀ b, b < g6.nx → freq b g.nx (same g g) = true := fun b hb => by simp [freq, same]; omega
      have hcalc : f97 rn 0 wv (pt ob 0) (pt ofb 0) g = if ofP w < ofP b0 then some (undef, h'.set ob (.row [v'] 25 true)) else some (undef, g) := by
        simp [f97, hoc, hofc, eqv, nilv25 a4, hc1, hc2, hck ob hob, hck ofb hofb, ck, hcl, hst]
      by_cases hlt : ofP w < ofP b0
      · rw [if_pos hlt] at hcalc
        refine ⟨h'.set ob (.row [v'] 25 true), [q], x97 (k := 0) hcalc rfl, ?_, by rw [nx_set]; exact x.nx, fr, fun b hb => by simp at hb; omega⟩
        simp only [betterP, hlt, if_true]
        exact took
      · rw [if_neg hlt] at hcalc
        refine ⟨g, [q0], x97 (k := 0) hcalc rfl, ?_, Nat.le_refl _, fun _ _ _ _ => rfl, fun b hb => .inl hb⟩
        simp only [betterP, hlt, if_false]
        exact ⟨⟨h1, h2, ov, h3, a1, q0, rfl, a3, a4, a5⟩, h5⟩

/-- Ways that a log can have: not empty, calls of the log. -/
def okW (l : List Cl) (w : List Int) : Prop := w ≠ [] ∧ w.length < 1000 ∧ ∀ x ∈ w, 0 ≤ x ∧ x < l.length

theorem waysF_ok {n : Int} {l : List Cl} {t : Int} : ∀ (f : Nat) (p tm seen : Int), ∀ w ∈ waysF l t f p tm seen, w ≠ [] ∧ w.length ≤ f ∧ ∀ x ∈ w, 0 ≤ x ∧ x < l.length := by
  intro f
  induction f with
  | zero => intro p tm seen w hw; simp [waysF] at hw
  | succ f ih =>
    intro p tm seen w hw
    simp only [waysF] at hw
    rw [mem_app] at hw
    rcases hw with hw | ⟨j, c, hc, hw⟩
    · simp at hw
    · have hj := (List.getElem?_eq_some_iff.1 hc).1
      rw [Nat.zero_add] at hw
      unfold wayStep at hw
      split at hw
      · split at hw
        · simp at hw
          subst hw
          exact ⟨by simp, by simp, fun x hx => by simp at hx; omega⟩
        · simp only [List.mem_map] at hw
          obtain ⟨w', hw', rfl⟩ := hw
          obtain ⟨h1, h2, h3⟩ := ih _ _ _ w' hw'
          refine ⟨by simp, by simp; omega, fun x hx => ?_⟩
          simp only [List.mem_cons] at hx
          rcases hx with rfl | hx
          · omega
          · exact h3 x hx
      · simp at hw

theorem allWays_ok {l : List Cl} {s t : Int} : ∀ w ∈ allWays l s t, okW l w := fun w hw => by
  obtain ⟨h1, h2, h3⟩ := waysF_ok (n := 0) 32 _ _ _ w hw
  exact ⟨h1, by omega, h3⟩

/-- The best way. -/
def bestP (ofP : List Int → Int) (l : List Cl) (s t : Int) : Option (List Int) := (allWays l s t).foldl (betterP ofP) none

/-- What is answered for the best way. -/
def BestR (o : Option (List Int)) (v : Value) (e : Int) (h : H) : Prop :=
  match o with
  | none => v = .slice none 0 0 ∧ e = 4
  | some w => SlR h 3 1 v (cellsI w) ∧ e = 0 ∧ w ≠ []

theorem s65_bad {n s t : Int} {sl ofv : Value} {l : List Cl} {h : H} (hs : SlR h 56 3 sl (l.map Cl.cells)) (hfc : ofv.cells = #[ofv]) (hp : pairP n l s t = false) : ∃ h', rn 65 #[.agg #[iv n, sl], iv s, iv t, ofv] h = some (.tuple #[.slice none 0 0, iv 2], h') ∧ Ext h h' := by
  let h2 : H := (h.new (.row [iv n, sl] 31 true)).new (.row [ofv] 61 true)
  have x2 : Ext h h2 := ((Ext.refl h).new' _).new' _
  refine ⟨_, x65 (k := 0) (h1 := h2) ?_ rfl, x2⟩
  have hb2 : ∀ (m o : Nat), h2.rd h.nx o m = if o + m ≤ 2 then some (([iv n, sl].drop o).take m) else none := fun m o => rd_of ((blk_new_ne _ _ (by rw [nx_new]; omega)).trans (blk_new_self _ _))
  unfold f65
  rw [bx_eq, bx_eq, hfc]
  simp only [nx_eq, d31]
  rw [show (((h.new (.row (Value.agg #[iv n, sl]).cells.toList 31 true)).new (.row (#[ofv] : Array Value).toList 61 true))) = h2 from rfl, hb2, if_pos (by omega), Option.bind_some]
  show calls rn h2 71 [.agg #[iv n, sl]] _ = _
  rw [k71 (hs.ext x2), asB_bool]
  cases hv : validP n l with
  | false => rfl
  | true =>
    rw [Bool.not_true, ifB_false, hb2, if_pos (by omega), Option.bind_some]
    show calls rn h2 72 [.agg #[iv n, sl], iv s] _ = _
    rw [k72, asB_bool]
    by_cases hsn : 0 ≤ s ∧ s < n
    · rw [decide_eq_true hsn, Bool.not_true, ifB_false, hb2, if_pos (by omega), Option.bind_some]
      show calls rn h2 72 [.agg #[iv n, sl], iv t] _ = _
      rw [k72, asB_bool]
      by_cases htn : 0 ≤ t ∧ t < n
      · have hst : s = t := by
          simp only [pairP, hv, decide_eq_true hsn, decide_eq_true htn] at hp
          simpa using hp
        rw [decide_eq_true htn, eq_t hst]
        rfl
      · rw [decide_eq_false htn]; rfl
    · rw [decide_eq_false hsn]; rfl

theorem s65 {n s t : Int} {sl ofv : Value} {l : List Cl} {h : H} {ofP : List Int → Int} (hs : SlR h 56 3 sl (l.map Cl.cells)) (hp : pairP n l s t = true) (hfc : ofv.cells = #[ofv])
    (hcall : ∀ (g : H) (wv : Value) (w : List Int), Ext h g → SlR g 3 1 wv (cellsI w) → okW l w → callV rn ofv #[wv] g = some (iv (ofP w), g)) :
    ∃ v e h', rn 65 #[.agg #[iv n, sl], iv s, iv t, ofv] h = some (.tuple #[v, iv e], h') ∧ Ext h h' ∧ BestR (bestP ofP l s t) v e h' := by
  obtain ⟨⟨⟨hv, hsn⟩, htn⟩, hst⟩ : ((validP n l = true ∧ (0 ≤ s ∧ s < n)) ∧ (0 ≤ t ∧ t < n)) ∧ s ≠ t := by simpa [pairP] using hp
  let h2 : H := (h.new (.row [iv n, sl] 31 true)).new (.row [ofv] 61 true)
  have x2 : Ext h h2 := ((Ext.refl h).new' _).new' _
  let g6 : H := h2.new (.row [.slice none 0 0] 25 true)
  have n2 : h2.nx = h.nx + 2 := rfl
  have n6 : g6.nx = h.nx + 3 := rfl
  have x6 : Ext h g6 := x2.new' _
  have b0 : g6.blk h.nx = some (.row [iv n, sl] 31 true) := (blk_new_ne _ _ (by omega)).trans ((blk_new_ne _ _ (by rw [nx_new]; omega)).trans (blk_new_self _ _))
  have b1 : g6.blk (h.nx + 1) = some (.row [ofv] 61 true) := (blk_new_ne _ _ (by omega)).trans (blk_new_self _ _)
  have b2 : g6.blk (h.nx + 2) = some (.row [.slice none 0 0] 25 true) := blk_new_self _ _
  have cb := best_cb (g6 := g6) (ob := h.nx + 2) (ofb := h.nx + 1) (ofv := ofv) (ofP := ofP) (okw := okW l) (by omega) (by omega) (by omega) b1 (fun w hw => ⟨hw.1, hw.2.1⟩)
    (fun g wv w hg hf hwv hw => hcall g wv w ⟨by omega, fun b hb => by rw [hf b (by omega) (by omega)]; exact x6.blk b hb⟩ hwv hw)
  obtain ⟨g', D', e85, i85, n85, f85⟩ := s85 cb (fun b hb => by omega) hv hsn (hs.ext x6) (fun b hb => by have := slR_bel hs hb; omega) (σ0 := none) ⟨⟨Nat.le_refl _, fun _ _ _ => rfl, _, b2, rfl, rfl⟩, by simp⟩ rfl rfl allWays_ok
  have hb2 : ∀ (m o : Nat), h2.rd h.nx o m = if o + m ≤ 2 then some (([iv n, sl].drop o).take m) else none := fun m o => rd_of ((blk_new_ne _ _ (by rw [nx_new]; omega)).trans (blk_new_self _ _))
  have hb6 : ∀ (m o : Nat), g6.rd h.nx o m = if o + m ≤ 2 then some (([iv n, sl].drop o).take m) else none := fun m o => rd_of b0
  have hc : ∀ (K : Value → H → Option (Value × H)), calls rn g6 85 [.agg #[iv n, sl], iv s, iv t, .func (.func 97) #[] #[pt (h.nx + 2) 0, pt (h.nx + 1) 0]] K = K undef g' := fun K => calls_eq (xs := [_, _, _, _]) e85
  obtain ⟨⟨hn', hf', ov, ho, hm⟩, _⟩ := i85
  have hoc : ∀ o, g'.cell (h.nx + 2) o = [ov][o]? := fun o => cell_of ho
  have xx : Ext h g' := ⟨by omega, fun b hb => by rw [f85 b (by omega) (by omega)]; exact x6.blk b hb⟩
  have head : f65 rn 0 (.agg #[iv n, sl]) s t ofv h = eqv Try.prog 25 ov (.slice none 0 0) fun q3 => ifB q3 (some ((.tuple #[(.slice none 0 0), (.int .i64 4)]), g')) (some ((.tuple #[ov, (.int .i64 0)]), g')) := by
    unfold f65
    rw [bx_eq, bx_eq, hfc]
    show _ = _
    simp only [nx_eq, d31]
    rw [show (((h.new (.row (Value.agg #[iv n, sl]).cells.toList 31 true)).new (.row (#[ofv] : Array Value).toList 61 true))) = h2 from rfl, hb2, if_pos (by omega), Option.bind_some]
    show calls rn h2 71 [.agg #[iv n, sl]] _ = _
    rw [k71 (hs.ext x2), asB_bool, hv, Bool.not_true, ifB_false, hb2, if_pos (by omega), Option.bind_some]
    show calls rn h2 72 [.agg #[iv n, sl], iv s] _ = _
    rw [k72, asB_bool, decide_eq_true hsn, Bool.not_true, ifB_false, hb2, if_pos (by omega), Option.bind_some]
    show calls rn h2 72 [.agg #[iv n, sl], iv t] _ = _
    rw [k72, asB_bool, decide_eq_true htn, Bool.not_true, ifB_false, eq_f hst, ifB_false, al_eq]
    show (g6.rd h.nx 0 2).bind _ = _
    rw [hb6, if_pos (by omega), Option.bind_some]
    refine (hc _).trans ?_
    have hld : ∀ (K : Value → Option (Value × H)), ld Try.prog g' 25 h2.nx 0 K = K ov := fun K => by
      rw [d25, show h2.nx = h.nx + 2 from rfl, hoc]; rfl
    simp only [hld]
  unfold bestP
  generalize (allWays l s t).foldl (betterP ofP) none = o at *
  cases o with
  | none =>
    obtain ⟨rfl, _⟩ := hm
    refine ⟨.slice none 0 0, 4, g', x65 (k := 0) ?_ rfl, xx, rfl, rfl⟩
    rw [head]
    simp [eqv, nil25]
  | some w =>
    obtain ⟨hw0, q, _, hq, hqb, hia⟩ := hm
    refine ⟨ov, 0, g', x65 (k := 0) ?_ hia.slR.notR2, xx, hia.slR, rfl, hw0⟩
    rw [head]
    simp [eqv, nilv25 hqb]

end Go.AM
