/- Parts of the proof, put together: the abstract machine, what the functions of the program answer, and plain laws. -/
import Derived.Calls
import Derived.Orders
import Derived.LoopN
import Derived.Below
import Derived.Laws.CopyRow
import Derived.Laws.Cells
import Derived.Laws.World

section
namespace Go.AM
/-- Which arcs ways take: none into s, none out of t; other nodes pass on what they get, at most once. -/
structure FlW (adj : Nat → Nat → Prop) (s t : Nat) (F : Nat → Nat → Prop) : Prop where
  sub : ∀ v u, F v u → adj v u
  ns : ∀ v, ¬ F v s
  nt : ∀ u, ¬ F t u
  out1 : ∀ v u u', v ≠ s → F v u → F v u' → u = u'
  in1 : ∀ v v' u, u ≠ t → F v u → F v' u → v = v'
  io : ∀ v, v ≠ s → v ≠ t → ((∃ u, F v u) ↔ ∃ u, F u v)
/-- A step of the search: back along the way through a node, or on along an edge. -/
inductive Ahead (adj : Nat → Nat → Prop) (s : Nat) (F : Nat → Nat → Prop) : Nat × Bool → Nat × Bool → Prop
  | back {v p : Nat} {w : Bool} (hv : v ≠ s) (ho : ∃ u, F v u) (hp : F p v) : Ahead adj s F (v, w) (p, true)
  | fwd {v u : Nat} {w : Bool} (hw : v ≠ s → (∃ u, F v u) → w = true) (ha : adj v u) (hu : u ≠ s) (hf : ¬ F v u) : Ahead adj s F (v, w) (u, false)
/-- A path of the search. -/
structure PathW (adj : Nat → Nat → Prop) (s t : Nat) (F : Nat → Nat → Prop) (P : Nat → Nat × Bool) (m : Nat) : Prop where
  step : ∀ i, i < m → Ahead adj s F (P i) (P (i + 1))
  start : P 0 = (s, true)
  last : P m = (t, false)
  inj : ∀ i j, i ≤ m → j ≤ m → P i = P j → i = j
  os : ∀ i, 0 < i → i ≤ m → (P i).1 ≠ s
  ot : ∀ i, i < m → (P i).1 ≠ t
def addW (P : Nat → Nat × Bool) (m : Nat) (v u : Nat) : Prop := ∃ i, i < m ∧ (P i).1 = v ∧ P (i + 1) = (u, false)
def cutW (P : Nat → Nat × Bool) (m : Nat) (v u : Nat) : Prop := ∃ i, i < m ∧ P (i + 1) = (v, true) ∧ (P i).1 = u
def turnW (F : Nat → Nat → Prop) (P : Nat → Nat × Bool) (m : Nat) (v u : Nat) : Prop := (F v u ∧ ¬ cutW P m v u) ∨ addW P m v u
section
variable {adj : Nat → Nat → Prop} {s t : Nat} {F : Nat → Nat → Prop} {P : Nat → Nat × Bool} {m : Nat}
theorem step_out {x y : Nat × Bool} (a : Ahead adj s F x y) {u : Nat} (h : y = (u, false)) : (x.1 ≠ s → (∃ u, F x.1 u) → x.2 = true) ∧ adj x.1 u ∧ u ≠ s ∧ ¬ F x.1 u := by
  cases a with
  | back _ _ _ => cases h
  | fwd hw ha hu hf => cases h; exact ⟨hw, ha, hu, hf⟩
theorem step_in {x y : Nat × Bool} (a : Ahead adj s F x y) {u : Nat} (h : y = (u, true)) : x.1 ≠ s ∧ (∃ u, F x.1 u) ∧ F u x.1 := by
  cases a with
  | back hv ho hp => cases h; exact ⟨hv, ho, hp⟩
  | fwd _ _ _ _ => cases h
/-- A spot of the path that is not s has a step into it. -/
theorem PathW.pred (p : PathW adj s t F P m) {i : Nat} (hi : i ≤ m) (h : (P i).1 ≠ s) : ∃ j, i = j + 1 := by
  cases i with
  | zero => rw [p.start] at h; exact absurd rfl h
  | succ j => exact ⟨j, rfl⟩
/-- Within a node the search is because it came back along its own out-arc. -/
theorem PathW.within (p : PathW adj s t F P m) {i v : Nat} (hi : i ≤ m) (h : P i = (v, true)) (hv : v ≠ s) : ∃ u, F v u ∧ cutW P m v u := by
  obtain ⟨j, rfl⟩ := p.pred hi (by rw [h]; exact hv)
  obtain ⟨_, _, h3⟩ := step_in (p.step j (by omega)) h
  exact ⟨_, h3, j, by omega, h, rfl⟩
/-- Outside a node the search is by a new arc. -/
theorem PathW.outside (p : PathW adj s t F P m) {i v : Nat} (hi : i ≤ m) (h : P i = (v, false)) : ∃ u, addW P m u v := by
  obtain ⟨j, rfl⟩ : ∃ j, i = j + 1 := by
    cases i with
    | zero => rw [p.start] at h; cases h
    | succ j => exact ⟨j, rfl⟩
  exact ⟨_, j, by omega, rfl, h⟩
theorem turn_ok (f : FlW adj s t F) (p : PathW adj s t F P m) : FlW adj s t (turnW F P m) := by
  -- one step out of a spot
  have suc : ∀ i j, i < m → j < m → P i = P j → P (i + 1) = P (j + 1) := fun i j hi hj h => by rw [p.inj i j (by omega) (by omega) h]
  -- an arc that stays, and a new one out of the same node
  have fa : ∀ v u u', v ≠ s → F v u → ¬ cutW P m v u → addW P m v u' → False := by
    rintro v u u' hv hF hc ⟨i, hi, rfl, h⟩
    obtain ⟨h1, _, _, _⟩ := step_out (p.step i hi) h
    have hw := h1 hv ⟨u, hF⟩
    have hP : P i = ((P i).1, true) := by rw [← hw]
    obtain ⟨q, hq, hcq⟩ := p.within (Nat.le_of_lt hi) hP hv
    rw [f.out1 _ u q hv hF hq] at hc
    exact hc hcq
  -- an arc that stays, and a new one into the same node
  have fb : ∀ v v' u, u ≠ t → F v u → ¬ cutW P m v u → addW P m v' u → False := by
    rintro v v' u hu hF hc ⟨i, hi, _, h⟩
    have hus : u ≠ s := fun e => f.ns v (e ▸ hF)
    have hm : i + 1 < m := by
      rcases Nat.lt_or_ge (i + 1) m with h1 | h1
      · exact h1
      · exfalso
        have : i + 1 = m := by omega
        rw [this, p.last] at h
        cases h
        exact hu rfl
    have hs := p.step (i + 1) hm
    have hon := (f.io u hus hu).2 ⟨v, hF⟩
    generalize hz : P (i + 1 + 1) = z at hs
    rw [h] at hs
    cases hs with
    | back _ _ hp =>
      refine hc ⟨i + 1, hm, ?_, by rw [h]⟩
      rw [hz, f.in1 v _ u hu hF hp]
    | fwd hw _ _ _ => cases hw hus hon
  refine ⟨?_, ?_, ?_, ?_, ?_, ?_⟩
  · rintro v u (⟨h, _⟩ | ⟨i, hi, rfl, h⟩)
    · exact f.sub v u h
    · exact (step_out (p.step i hi) h).2.1
  · rintro v (⟨h, _⟩ | ⟨i, hi, _, h⟩)
    · exact f.ns v h
    · exact (step_out (p.step i hi) h).2.2.1 rfl
  · rintro u (⟨h, _⟩ | ⟨i, hi, h1, h⟩)
    · exact f.nt u h
    · exact p.ot i hi h1
  · rintro v u u' hv (⟨h1, h2⟩ | h1) (⟨h3, h4⟩ | h3)
    · exact f.out1 v u u' hv h1 h3
    · exact (fa v u u' hv h1 h2 h3).elim
    · exact (fa v u' u hv h3 h4 h1).elim
    · obtain ⟨i, hi, rfl, a1⟩ := h1
      obtain ⟨j, hj, e, a2⟩ := h3
      by_cases hw : (P i).2 = (P j).2
      · have := suc i j hi hj (Prod.ext e.symm hw)
        rw [a1, a2] at this
        cases this
        rfl
      · exfalso
        obtain ⟨b1, _⟩ := step_out (p.step i hi) a1
        obtain ⟨b2, _⟩ := step_out (p.step j hj) a2
        have on : ∀ k, k < m → (P k).1 = (P i).1 → (P k).2 = true → ∃ u, F (P i).1 u := by
          intro k hk e1 e2
          obtain ⟨q, hq, _⟩ := p.within (v := (P i).1) (Nat.le_of_lt hk) (Prod.ext e1 e2) hv
          exact ⟨q, hq⟩
        cases h5 : (P i).2 with
        | true =>
          have := b2 (by rw [e]; exact hv) (by rw [e]; exact on i hi rfl h5)
          exact hw (by rw [h5, this])
        | false =>
          cases h6 : (P j).2 with
          | true =>
            have := b1 hv (on j hj e h6)
            rw [h5] at this
            cases this
          | false => exact hw (by rw [h5, h6])
  · rintro v v' u hu (⟨h1, h2⟩ | h1) (⟨h3, h4⟩ | h3)
    · exact f.in1 v v' u hu h1 h3
    · exact (fb v v' u hu h1 h2 h3).elim
    · exact (fb v' v u hu h3 h4 h1).elim
    · obtain ⟨i, hi, rfl, a1⟩ := h1
      obtain ⟨j, hj, rfl, a2⟩ := h3
      have := p.inj (i + 1) (j + 1) (by omega) (by omega) (by rw [a1, a2])
      have : i = j := by omega
      rw [this]
  · intro v hv hvt
    constructor
    · rintro ⟨u, ⟨h1, h2⟩ | ⟨i, hi, h1, h2⟩⟩
      · obtain ⟨q, hq⟩ := (f.io v hv hvt).1 ⟨u, h1⟩
        by_cases hc : cutW P m q v
        · obtain ⟨i, hi, c1, c2⟩ := hc
          cases hw : (P i).2 with
          | false =>
            obtain ⟨q', hq'⟩ := p.outside (i := i) (v := v) (Nat.le_of_lt hi) (Prod.ext c2 hw)
            exact ⟨q', .inr hq'⟩
          | true =>
            obtain ⟨q', hq', hcq⟩ := p.within (v := v) (Nat.le_of_lt hi) (Prod.ext c2 hw) hv
            rw [f.out1 v u q' hv h1 hq'] at h2
            exact absurd hcq h2
        · exact ⟨q, .inl ⟨hq, hc⟩⟩
      · cases hw : (P i).2 with
        | false =>
          obtain ⟨q', hq'⟩ := p.outside (i := i) (v := v) (Nat.le_of_lt hi) (Prod.ext h1 hw)
          exact ⟨q', .inr hq'⟩
        | true =>
          obtain ⟨q', hq', _⟩ := p.within (v := v) (Nat.le_of_lt hi) (Prod.ext h1 hw) hv
          obtain ⟨q, hq⟩ := (f.io v hv hvt).1 ⟨q', hq'⟩
          by_cases hc : cutW P m q v
          · obtain ⟨j, hj, c1, c2⟩ := hc
            cases hw2 : (P j).2 with
            | false =>
              obtain ⟨q2, hq2⟩ := p.outside (i := j) (v := v) (Nat.le_of_lt hj) (Prod.ext c2 hw2)
              exact ⟨q2, .inr hq2⟩
            | true =>
              have := suc i j hi hj (Prod.ext (h1.trans c2.symm) (hw.trans hw2.symm))
              rw [h2, c1] at this
              cases this
          · exact ⟨q, .inl ⟨hq, hc⟩⟩
    · rintro ⟨u, ⟨h1, h2⟩ | ⟨i, hi, h1, h2⟩⟩
      · -- an arc into v stays
        obtain ⟨q, hq⟩ := (f.io v hv hvt).2 ⟨u, h1⟩
        by_cases hc : cutW P m v q
        · obtain ⟨i, hi, c1, c2⟩ := hc
          have him : i + 1 < m := by
            rcases Nat.lt_or_ge (i + 1) m with h | h
            · exact h
            · exfalso
              have : i + 1 = m := by omega
              rw [this, p.last] at c1
              cases c1
          have hs := p.step (i + 1) him
          generalize hz : P (i + 1 + 1) = z at hs
          rw [c1] at hs
          cases hs with
          | back _ _ hp =>
            exfalso
            refine h2 ⟨i + 1, him, ?_, by rw [c1]⟩
            rw [hz, f.in1 u _ v hvt h1 hp]
          | @fwd _ u' _ hw ha hu hf => exact ⟨u', .inr ⟨i + 1, him, by rw [c1], hz⟩⟩
        · exact ⟨q, .inl ⟨hq, hc⟩⟩
      · -- a new arc into v
        have him : i + 1 < m := by
          rcases Nat.lt_or_ge (i + 1) m with h | h
          · exact h
          · exfalso
            have : i + 1 = m := by omega
            rw [this, p.last] at h2
            cases h2
            exact hvt rfl
        have hs := p.step (i + 1) him
        generalize hz : P (i + 1 + 1) = z at hs
        rw [h2] at hs
        cases hs with
        | @fwd _ u' _ hw ha hu hf => exact ⟨u', .inr ⟨i + 1, him, by rw [h2], hz⟩⟩
        | @back _ q _ _ ho hp =>
          -- on: v keeps its out-arc, or the search came back along it
          obtain ⟨u', hu'⟩ := ho
          by_cases hc : cutW P m v u'
          · obtain ⟨j, hj, c1, c2⟩ := hc
            have hjm : j + 1 < m := by
              rcases Nat.lt_or_ge (j + 1) m with h | h
              · exact h
              · exfalso
                have : j + 1 = m := by omega
                rw [this, p.last] at c1
                cases c1
            have hs2 := p.step (j + 1) hjm
            generalize hz2 : P (j + 1 + 1) = z2 at hs2
            rw [c1] at hs2
            cases hs2 with
            | @fwd _ u2 _ hw ha hu hf => exact ⟨u2, .inr ⟨j + 1, hjm, by rw [c1], hz2⟩⟩
            | @back _ q2 _ _ ho2 hp2 =>
              exfalso
              have e := f.in1 q q2 v hvt hp hp2
              have := p.inj (i + 1 + 1) (j + 1 + 1) (by omega) (by omega) (by rw [hz, hz2, e])
              have : P (i + 1) = P (j + 1) := by rw [show i + 1 = j + 1 by omega]
              rw [h2, c1] at this
              cases this
          · exact ⟨u', .inl ⟨hu', hc⟩⟩
/-- Out of s there is one arc more. -/
theorem turn_first (p : PathW adj s t F P m) : ∃ u0, ¬ F s u0 ∧ adj s u0 ∧ u0 ≠ s ∧ ∀ u, turnW F P m s u ↔ F s u ∨ u = u0 := by
  have hm : 0 < m := by
    rcases Nat.eq_zero_or_pos m with h | h
    · have := p.last
      rw [h, p.start] at this
      cases this
    · exact h
  have hs := p.step 0 hm
  generalize hz : P (0 + 1) = z at hs
  rw [p.start] at hs
  cases hs with
  | back hv _ _ => exact absurd rfl hv
  | @fwd _ u0 _ hw ha hu hf =>
    refine ⟨u0, hf, ha, hu, fun u => ⟨?_, ?_⟩⟩
    · rintro (⟨h, _⟩ | ⟨i, hi, h1, h2⟩)
      · exact .inl h
      · right
        cases i with
        | zero => rw [hz] at h2; cases h2; rfl
        | succ i => exact absurd h1 (p.os (i + 1) (by omega) (by omega))
    · rintro (h | rfl)
      · left
        refine ⟨h, ?_⟩
        rintro ⟨i, hi, c1, _⟩
        exact p.os (i + 1) (by omega) (by omega) (by rw [c1])
      · exact .inr ⟨0, hm, by rw [p.start], hz⟩
end
end Go.AM
end

section
namespace Go.AM
/-- What a search has reached that came to its end. -/
structure EndW (adj : Nat → Nat → Prop) (s t : Nat) (F : Nat → Nat → Prop) (R : Nat × Bool → Prop) : Prop where
  start : R (s, true)
  go : ∀ x y, R x → Ahead adj s F x y → y.1 ≠ s → R y
  by_ : ∀ x, R x → x = (s, true) ∨ ∃ y, R y ∧ Ahead adj s F y x
  no : ¬ R (t, false)
section
variable {adj : Nat → Nat → Prop} {s t : Nat} {F : Nat → Nat → Prop} {R : Nat × Bool → Prop}
/-- Nodes that the search can go through. -/
def Passed (s : Nat) (F : Nat → Nat → Prop) (R : Nat × Bool → Prop) (v : Nat) : Prop := v = s ∨ R (v, true) ∨ (R (v, false) ∧ ¬ ∃ u, F v u)
def Front (s : Nat) (F : Nat → Nat → Prop) (R : Nat × Bool → Prop) (u : Nat) : Prop := R (u, false) ∨ ∃ v, F v u ∧ Passed s F R v
/-- The nodes that part s and t. -/
def CutN (s t : Nat) (F : Nat → Nat → Prop) (R : Nat × Bool → Prop) (v : Nat) : Prop := v ≠ s ∧ v ≠ t ∧ (∃ u, F v u) ∧ Front s F R v ∧ ¬ R (v, true)
theorem EndW.not_t (e : EndW adj s t F R) (f : FlW adj s t F) (hst : s ≠ t) (w : Bool) : ¬ R (t, w) := by
  cases w with
  | false => exact e.no
  | true =>
    intro h
    rcases e.by_ _ h with h | ⟨y, _, ha⟩
    · cases h; exact hst rfl
    · exact f.nt _ (step_in ha rfl).2.2
theorem EndW.fwd (e : EndW adj s t F R) {v u : Nat} (hp : Passed s F R v) (ha : adj v u) (hu : u ≠ s) (hf : ¬ F v u) : R (u, false) := by
  rcases hp with rfl | h | ⟨h, hn⟩
  · exact e.go _ _ e.start (.fwd (fun h => absurd rfl h) ha hu hf) hu
  · exact e.go _ _ h (.fwd (fun _ _ => rfl) ha hu hf) hu
  · exact e.go _ _ h (.fwd (fun _ h2 => absurd h2 hn) ha hu hf) hu
/-- Nobody who is passed is a neighbour of t, but s where the edge itself is a way. -/
theorem EndW.last (e : EndW adj s t F R) (f : FlW adj s t F) (hst : s ≠ t) {v : Nat} (hp : Passed s F R v) (ha : adj v t) : v = s ∧ F s t := by
  by_cases hf : F v t
  · by_cases hv : v = s
    · subst hv; exact ⟨rfl, hf⟩
    · exfalso
      have hR : R (v, true) := by
        rcases hp with h | h | ⟨_, h⟩
        · exact absurd h hv
        · exact h
        · exact absurd ⟨t, hf⟩ h
      rcases e.by_ _ hR with h | ⟨y, hy, hay⟩
      · cases h; exact hv rfl
      · obtain ⟨_, _, h3⟩ := step_in hay rfl
        have := f.out1 v _ _ hv h3 hf
        obtain ⟨y1, w⟩ := y
        simp only at this
        subst this
        exact e.not_t f hst w hy
  · exact absurd (e.fwd hp ha (Ne.symm hst) hf) e.no
/-- The first who is not passed parts. -/
theorem EndW.first (e : EndW adj s t F R) (f : FlW adj s t F) {v u : Nat} (hp : Passed s F R v) (ha : adj v u) (hus : u ≠ s) (hut : u ≠ t) (hn : ¬ Passed s F R u) : CutN s t F R u := by
  have hR : ¬ R (u, true) := fun h => hn (.inr (.inl h))
  by_cases hf : F v u
  · exact ⟨hus, hut, (f.io u hus hut).2 ⟨v, hf⟩, .inr ⟨v, hf, hp⟩, hR⟩
  · have h := e.fwd hp ha hus hf
    refine ⟨hus, hut, ?_, .inl h, hR⟩
    exact Classical.byContradiction fun h2 => hn (.inr (.inr ⟨h, h2⟩))
/-- Before one that is reached within there is one that is reached within, or s; and it is in front. -/
theorem EndW.front (e : EndW adj s t F R) (f : FlW adj s t F) {v : Nat} (hv : v ≠ s) (hvt : v ≠ t) (h : R (v, true)) : (∃ u, F v u ∧ u ≠ t) ∧ ∃ p, F p v ∧ (p = s ∨ R (p, true)) := by
  rcases e.by_ _ h with h2 | ⟨y, hy, ha⟩
  · cases h2; exact absurd rfl hv
  · obtain ⟨h1, h2, h3⟩ := step_in ha rfl
    have hyt : y.1 ≠ t := fun e' => by
      rw [e'] at h2
      obtain ⟨u, hu⟩ := h2
      exact f.nt u hu
    refine ⟨⟨_, h3, hyt⟩, ?_⟩
    obtain ⟨p, hp⟩ := (f.io v hv hvt).1 ⟨_, h3⟩
    refine ⟨p, hp, ?_⟩
    by_cases hps : p = s
    · exact .inl hps
    · exact .inr (e.go _ _ h (.back hv ⟨_, h3⟩ hp) hps)
/-- Who is in front and on a way is behind s, or behind one that is reached within; and the other way round. -/
theorem EndW.front_iff (e : EndW adj s t F R) (f : FlW adj s t F) {u : Nat} (hus : u ≠ s) (hut : u ≠ t) (hon : ∃ x, F u x) : Front s F R u ↔ F s u ∨ ∃ v, v ≠ s ∧ R (v, true) ∧ F v u := by
  constructor
  · rintro (h | ⟨v, hv, hp⟩)
    · obtain ⟨p, hp⟩ := (f.io u hus hut).1 hon
      by_cases hps : p = s
      · subst hps; exact .inl hp
      · exact .inr ⟨p, hps, e.go _ _ h (.back hus hon hp) hps, hp⟩
    · rcases hp with rfl | h | ⟨_, h⟩
      · exact .inl hv
      · by_cases hvs : v = s
        · subst hvs; exact .inl hv
        · exact .inr ⟨v, hvs, h, hv⟩
      · exact absurd ⟨u, hv⟩ h
  · rintro (h | ⟨v, _, h, hv⟩)
    · exact .inr ⟨s, h, .inl rfl⟩
    · exact .inr ⟨v, hv, .inr (.inl h)⟩
/-- Who is reached within is in front. -/
theorem EndW.within_front (e : EndW adj s t F R) (f : FlW adj s t F) {v : Nat} (hv : v ≠ s) (hvt : v ≠ t) (h : R (v, true)) : Front s F R v := by
  obtain ⟨⟨u, hu, _⟩, p, hp, hp2⟩ := e.front f hv hvt h
  refine .inr ⟨p, hp, ?_⟩
  rcases hp2 with rfl | h2
  · exact .inl rfl
  · exact .inr (.inl h2)
end
end Go.AM
end

section
namespace Go.AM
open Classical in
/-- How many nodes are so. -/
noncomputable def cntN (n : Nat) (p : Nat → Prop) : Nat := (List.range n).countP fun i => decide (p i)
theorem nodup_leN : ∀ {l m : List Nat}, l.Nodup → (∀ x ∈ l, x ∈ m) → l.length ≤ m.length := by
  intro l
  induction l with
  | nil => intro m _ _; exact Nat.zero_le _
  | cons x l ih =>
    intro m hn h
    rw [List.nodup_cons] at hn
    have hx := h x List.mem_cons_self
    have := ih (m := m.erase x) hn.2 fun y hy => by
      have hne : y ≠ x := by rintro rfl; exact hn.1 hy
      exact (List.mem_erase_of_ne hne).2 (h y (List.mem_cons_of_mem _ hy))
    rw [List.length_erase_of_mem hx] at this
    have := List.length_pos_of_mem hx
    simp only [List.length_cons]
    omega
open Classical in
theorem cnt_inj {n : Nat} {p q : Nat → Prop} (f : Nat → Nat) (hf : ∀ i, i < n → p i → f i < n ∧ q (f i)) (hi : ∀ i j, p i → p j → f i = f j → i = j) : cntN n p ≤ cntN n q := by
  unfold cntN
  rw [List.countP_eq_length_filter, List.countP_eq_length_filter, ← List.length_map (f := f)]
  refine nodup_leN ?_ ?_
  · rw [List.nodup_iff_pairwise_ne, List.pairwise_map]
    have h1 : ((List.range n).filter fun i => decide (p i)).Nodup := List.nodup_range.filter _
    rw [List.nodup_iff_pairwise_ne] at h1
    refine h1.imp_of_mem fun {a b} ha hb hab e => hab ?_
    have ha2 := (List.mem_filter.1 ha).2
    have hb2 := (List.mem_filter.1 hb).2
    exact hi a b (by simpa using ha2) (by simpa using hb2) e
  · intro x hx
    obtain ⟨i, hi', rfl⟩ := List.mem_map.1 hx
    obtain ⟨h1, h2⟩ := List.mem_filter.1 hi'
    obtain ⟨h3, h4⟩ := hf i (List.mem_range.1 h1) (by simpa using h2)
    exact List.mem_filter.2 ⟨List.mem_range.2 h3, by simpa using h4⟩
open Classical in
theorem cnt_split (n : Nat) (p q : Nat → Prop) : cntN n p = cntN n (fun i => p i ∧ q i) + cntN n (fun i => p i ∧ ¬ q i) := by
  unfold cntN
  generalize List.range n = l
  induction l with
  | nil => rfl
  | cons x l ih =>
    simp only [List.countP_cons, ih]
    by_cases h1 : p x <;> by_cases h2 : q x <;> simp [h1, h2] <;> omega
open Classical in
theorem cnt_congr {n : Nat} {p q : Nat → Prop} (h : ∀ i, i < n → (p i ↔ q i)) : cntN n p = cntN n q := by
  unfold cntN
  refine List.countP_congr fun i hi => ?_
  have := h i (List.mem_range.1 hi)
  simp only [decide_eq_true_eq]
  exact this
section
variable {adj : Nat → Nat → Prop} {s t : Nat} {F : Nat → Nat → Prop} {R : Nat × Bool → Prop}
/-- As many nodes part s and t as_ there are ways besides the edge. -/
theorem EndW.count (e : EndW adj s t F R) (f : FlW adj s t F) (hst : s ≠ t) {n : Nat} (hn : ∀ v u, adj v u → v < n ∧ u < n) : cntN n (CutN s t F R) = cntN n (fun u => F s u ∧ u ≠ t) := by
  have hB := cnt_split n (fun u => u ≠ s ∧ u ≠ t ∧ (∃ x, F u x) ∧ Front s F R u) (fun u => F s u)
  have hB' := cnt_split n (fun u => u ≠ s ∧ u ≠ t ∧ (∃ x, F u x) ∧ Front s F R u) (fun u => R (u, true))
  have hA : cntN n (fun u => (u ≠ s ∧ u ≠ t ∧ (∃ x, F u x) ∧ Front s F R u) ∧ R (u, true)) = cntN n (fun u => u ≠ s ∧ R (u, true)) := by
    refine cnt_congr fun u _ => ⟨fun h => ⟨h.1.1, h.2⟩, fun h => ?_⟩
    have hut : u ≠ t := fun e' => e.not_t f hst true (e' ▸ h.2)
    obtain ⟨⟨x, hx, _⟩, _⟩ := e.front f h.1 hut h.2
    exact ⟨⟨h.1, hut, ⟨x, hx⟩, e.within_front f h.1 hut h.2⟩, h.2⟩
  have hC : cntN n (fun u => (u ≠ s ∧ u ≠ t ∧ (∃ x, F u x) ∧ Front s F R u) ∧ ¬ R (u, true)) = cntN n (CutN s t F R) :=
    cnt_congr fun u _ => ⟨fun h => ⟨h.1.1, h.1.2.1, h.1.2.2.1, h.1.2.2.2, h.2⟩, fun h => ⟨⟨h.1, h.2.1, h.2.2.1, h.2.2.2.1⟩, h.2.2.2.2⟩⟩
  have hB1 : cntN n (fun u => (u ≠ s ∧ u ≠ t ∧ (∃ x, F u x) ∧ Front s F R u) ∧ F s u) = cntN n (fun u => F s u ∧ u ≠ t) := by
    refine cnt_congr fun u _ => ⟨fun h => ⟨h.2, h.1.2.1⟩, fun h => ?_⟩
    have hus : u ≠ s := fun e' => f.ns s (e' ▸ h.1)
    exact ⟨⟨hus, h.2, (f.io u hus h.2).2 ⟨s, h.1⟩, .inr ⟨s, h.1, .inl rfl⟩⟩, h.1⟩
  have hB2 : cntN n (fun u => (u ≠ s ∧ u ≠ t ∧ (∃ x, F u x) ∧ Front s F R u) ∧ ¬ F s u) = cntN n (fun u => u ≠ s ∧ R (u, true)) := by
    classical
    refine Nat.le_antisymm ?_ ?_
    · -- from each the node ahead of it
      refine cnt_inj (fun u => if h : ∃ v, v ≠ s ∧ R (v, true) ∧ F v u then h.choose else 0) (fun u _ h => ?_) (fun u u' h h' he => ?_)
      · have hx : ∃ v, v ≠ s ∧ R (v, true) ∧ F v u := ((e.front_iff f h.1.1 h.1.2.1 h.1.2.2.1).1 h.1.2.2.2).resolve_left h.2
        simp only [dif_pos hx]
        obtain ⟨a, b, c⟩ := hx.choose_spec
        exact ⟨(hn _ _ (f.sub _ _ c)).1, a, b⟩
      · have hx : ∃ v, v ≠ s ∧ R (v, true) ∧ F v u := ((e.front_iff f h.1.1 h.1.2.1 h.1.2.2.1).1 h.1.2.2.2).resolve_left h.2
        have hx' : ∃ v, v ≠ s ∧ R (v, true) ∧ F v u' := ((e.front_iff f h'.1.1 h'.1.2.1 h'.1.2.2.1).1 h'.1.2.2.2).resolve_left h'.2
        simp only [dif_pos hx, dif_pos hx'] at he
        obtain ⟨a, b, c⟩ := hx.choose_spec
        obtain ⟨_, _, c'⟩ := hx'.choose_spec
        rw [← he] at c'
        exact f.out1 _ _ _ a c c'
    · -- from each the next node
      have key : ∀ v, v ≠ s → R (v, true) → ∃ u, F v u ∧ u ≠ t := fun v hv h => (e.front f hv (fun e' => e.not_t f hst true (e' ▸ h)) h).1
      refine cnt_inj (fun v => if h : ∃ u, F v u ∧ u ≠ t then h.choose else 0) (fun v _ h => ?_) (fun v v' h h' he => ?_)
      · have hx := key v h.1 h.2
        simp only [dif_pos hx]
        obtain ⟨a, b⟩ := hx.choose_spec
        have hus : hx.choose ≠ s := fun e' => f.ns v (e' ▸ a)
        have hon := (f.io _ hus b).2 ⟨v, a⟩
        refine ⟨(hn _ _ (f.sub _ _ a)).2, ⟨hus, b, hon, (e.front_iff f hus b hon).2 (.inr ⟨v, h.1, h.2, a⟩)⟩, fun hs => ?_⟩
        exact h.1 (f.in1 _ _ _ b a hs)
      · have hx := key v h.1 h.2
        have hx' := key v' h'.1 h'.2
        simp only [dif_pos hx, dif_pos hx'] at he
        obtain ⟨a, b⟩ := hx.choose_spec
        obtain ⟨a', _⟩ := hx'.choose_spec
        rw [← he] at a'
        exact f.in1 _ _ _ b a a'
  omega
end
end Go.AM
end

section
namespace Go.AM
/-- A walk: from a node along these. -/
def chainA (adj : Nat → Nat → Prop) : Nat → List Nat → Nat → Prop
  | v, [], t => v = t
  | v, u :: w, t => adj v u ∧ chainA adj u w t
section
variable {adj : Nat → Nat → Prop} {s t : Nat} {F : Nat → Nat → Prop} {R : Nat × Bool → Prop}
/-- A walk from s to t meets a node that parts, or begins with the edge, which is a way. -/
theorem EndW.meets (e : EndW adj s t F R) (f : FlW adj s t F) (hst : s ≠ t) : ∀ (w : List Nat) (v : Nat), Passed s F R v → v ≠ t → chainA adj v w t → (∀ x ∈ w, x ≠ s) → (∃ x ∈ w, CutN s t F R x) ∨ (v = s ∧ F s t ∧ w.head? = some t) := by
  intro w
  induction w with
  | nil => intro v _ hv h _; exact absurd h hv
  | cons u w ih =>
    intro v hp hv h hw
    obtain ⟨ha, hc⟩ := h
    have hus := hw u List.mem_cons_self
    by_cases hut : u = t
    · subst hut
      obtain ⟨h1, h2⟩ := e.last f hst hp ha
      exact .inr ⟨h1, h2, rfl⟩
    · by_cases hpu : Passed s F R u
      · rcases ih u hpu hut hc (fun x hx => hw x (List.mem_cons_of_mem _ hx)) with ⟨x, hx, h1⟩ | ⟨h1, _⟩
        · exact .inl ⟨x, List.mem_cons_of_mem _ hx, h1⟩
        · exact absurd h1 hus
      · exact .inl ⟨u, List.mem_cons_self, e.first f hp ha hus hut hpu⟩
/-- Behind a node that is on a way, so many steps on, unless t comes first. -/
theorem FlW.chain (f : FlW adj s t F) : ∀ (k u : Nat), u ≠ s → (u = t ∨ ∃ x, F x u) → (∃ w, chainA F u w t ∧ w.length ≤ k) ∨ ∃ (w : List Nat) (y : Nat), chainA F u w y ∧ y ≠ t ∧ y ≠ s ∧ w.length = k ∧ ∃ x, F x y := by
  intro k
  induction k with
  | zero =>
    intro u hus hu
    by_cases h : u = t
    · exact .inl ⟨[], h, Nat.le_refl _⟩
    · exact .inr ⟨[], u, rfl, h, hus, rfl, hu.resolve_left h⟩
  | succ k ih =>
    intro u hus hu
    by_cases h : u = t
    · exact .inl ⟨[], h, Nat.zero_le _⟩
    · obtain ⟨x, hx⟩ := (f.io u hus h).2 (hu.resolve_left h)
      have hxs : x ≠ s := fun e => f.ns u (e ▸ hx)
      rcases ih x hxs (.inr ⟨u, hx⟩) with ⟨w, h1, h2⟩ | ⟨w, y, h1, h2, h3, h4, h5⟩
      · exact .inl ⟨x :: w, ⟨hx, h1⟩, by simp only [List.length_cons]; omega⟩
      · exact .inr ⟨x :: w, y, ⟨hx, h1⟩, h2, h3, by simp only [List.length_cons]; omega, h5⟩
end
end Go.AM
end

section
namespace Go.AM
section
variable {s t : Nat} {F adj : Nat → Nat → Prop}
theorem chain_get : ∀ (w : List Nat) (u y : Nat), chainA F u w y → ∀ (k a b : Nat), (u :: w)[k]? = some a → (u :: w)[k + 1]? = some b → F a b := by
  intro w
  induction w with
  | nil => intro u y _ k a b _ hb; simp at hb
  | cons x w ih =>
    intro u y h k a b ha hb
    cases k with
    | zero =>
      simp at ha hb
      subst ha; subst hb
      exact h.1
    | succ k =>
      rw [List.getElem?_cons_succ] at ha hb
      exact ih x y h.2 k a b ha hb
theorem FlW.away (f : FlW adj s t F) {u y : Nat} {w : List Nat} (hu : F s u) (h : chainA F u w y) : ∀ (i j a : Nat), i < j → (u :: w)[i]? = some a → (u :: w)[j]? = some a → False := by
  have nos : ∀ (k a : Nat), (u :: w)[k]? = some a → a ≠ s := by
    intro k a hk e
    subst e
    cases k with
    | zero => simp at hk; subst hk; exact f.ns _ hu
    | succ k =>
      obtain ⟨b, hb⟩ : ∃ b, (u :: w)[k]? = some b := ⟨_, List.getElem?_eq_getElem (by have := (List.getElem?_eq_some_iff.1 hk).1; omega)⟩
      exact f.ns _ (chain_get w u y h k b _ hb hk)
  have not : ∀ (i j a b : Nat), i < j → (u :: w)[i]? = some a → (u :: w)[j]? = some b → a ≠ t := by
    intro i j a b hij ha hb e
    subst e
    obtain ⟨c, hc⟩ : ∃ c, (u :: w)[i + 1]? = some c := ⟨_, List.getElem?_eq_getElem (by have := (List.getElem?_eq_some_iff.1 hb).1; omega)⟩
    exact f.nt _ (chain_get w u y h i _ c ha hc)
  intro i
  induction i with
  | zero =>
    intro j a hij ha hb
    have hat := not 0 j a a hij ha hb
    simp at ha
    subst ha
    obtain ⟨j, rfl⟩ : ∃ j', j = j' + 1 := ⟨j - 1, by omega⟩
    obtain ⟨p, hp⟩ : ∃ p, (u :: w)[j]? = some p := ⟨_, List.getElem?_eq_getElem (by have := (List.getElem?_eq_some_iff.1 hb).1; omega)⟩
    exact nos j p hp (f.in1 _ _ _ hat (chain_get w u y h j p _ hp hb) hu)
  | succ i ih =>
    intro j a hij ha hb
    have hat := not (i + 1) j a a hij ha hb
    obtain ⟨j, rfl⟩ : ∃ j', j = j' + 1 := ⟨j - 1, by omega⟩
    obtain ⟨p, hp⟩ : ∃ p, (u :: w)[i]? = some p := ⟨_, List.getElem?_eq_getElem (by have := (List.getElem?_eq_some_iff.1 ha).1; omega)⟩
    obtain ⟨q, hq⟩ : ∃ q, (u :: w)[j]? = some q := ⟨_, List.getElem?_eq_getElem (by have := (List.getElem?_eq_some_iff.1 hb).1; omega)⟩
    have := f.in1 _ _ _ hat (chain_get w u y h i p _ hp ha) (chain_get w u y h j q _ hq hb)
    subst this
    exact ih j p (by omega) hp hq
/-- A way's nodes are all different. -/
theorem FlW.way_nodup (f : FlW adj s t F) {u y : Nat} {w : List Nat} (hu : F s u) (h : chainA F u w y) : (u :: w).Nodup := by
  rw [List.nodup_iff_pairwise_ne, List.pairwise_iff_getElem]
  intro i j hi hj hij e
  exact f.away hu h i j _ hij (List.getElem?_eq_getElem hi) (by rw [List.getElem?_eq_getElem hj, e])
/-- Two ways with a node in common, other than t, begin alike. -/
theorem FlW.ways_apart (f : FlW adj s t F) {u u' y y' : Nat} {w w' : List Nat} (hu : F s u) (hu' : F s u') (h : chainA F u w y) (h' : chainA F u' w' y') : ∀ (i j a : Nat), (u :: w)[i]? = some a → (u' :: w')[j]? = some a → a ≠ t → u = u' := by
  have nos : ∀ (u y : Nat) (w : List Nat), F s u → chainA F u w y → ∀ (k a : Nat), (u :: w)[k]? = some a → a ≠ s := by
    intro u y w hu h k a hk e
    subst e
    cases k with
    | zero => simp at hk; subst hk; exact f.ns _ hu
    | succ k =>
      obtain ⟨b, hb⟩ : ∃ b, (u :: w)[k]? = some b := ⟨_, List.getElem?_eq_getElem (by have := (List.getElem?_eq_some_iff.1 hk).1; omega)⟩
      exact f.ns _ (chain_get w u y h k b _ hb hk)
  intro i
  induction i with
  | zero =>
    intro j a ha hb hat
    simp at ha
    subst ha
    cases j with
    | zero => simp at hb; exact hb.symm
    | succ j =>
      exfalso
      obtain ⟨q, hq⟩ : ∃ q, (u' :: w')[j]? = some q := ⟨_, List.getElem?_eq_getElem (by have := (List.getElem?_eq_some_iff.1 hb).1; omega)⟩
      exact nos u' y' w' hu' h' j q hq (f.in1 _ _ _ hat (chain_get w' u' y' h' j q _ hq hb) hu)
  | succ i ih =>
    intro j a ha hb hat
    obtain ⟨p, hp⟩ : ∃ p, (u :: w)[i]? = some p := ⟨_, List.getElem?_eq_getElem (by have := (List.getElem?_eq_some_iff.1 ha).1; omega)⟩
    have hpa := chain_get w u y h i p _ hp ha
    have hpt : p ≠ t := fun e => f.nt _ (e ▸ hpa)
    cases j with
    | zero =>
      exfalso
      simp at hb
      subst hb
      exact nos u y w hu h i p hp (f.in1 _ _ _ hat hpa hu')
    | succ j =>
      obtain ⟨q, hq⟩ : ∃ q, (u' :: w')[j]? = some q := ⟨_, List.getElem?_eq_getElem (by have := (List.getElem?_eq_some_iff.1 hb).1; omega)⟩
      have := f.in1 _ _ _ hat hpa (chain_get w' u' y' h' j q _ hq hb)
      subst this
      exact ih j p hp hq hpt
end
end Go.AM
end

section
namespace Go.AM
section
variable {adj : Nat → Nat → Prop} {s t : Nat} {F : Nat → Nat → Prop}
theorem chain_lt {n : Nat} (f : FlW adj s t F) (hn : ∀ v u, adj v u → v < n ∧ u < n) : ∀ (w : List Nat) (u y : Nat), u < n → chainA F u w y → ∀ x ∈ u :: w, x < n := by
  intro w
  induction w with
  | nil => intro u y hu _ x hx; rw [List.mem_singleton.1 hx]; exact hu
  | cons z w ih =>
    intro u y hu h x hx
    rcases List.mem_cons.1 hx with rfl | hx
    · exact hu
    · exact ih z y (hn _ _ (f.sub _ _ h.1)).2 h.2 x hx
/-- A way comes to t. -/
theorem FlW.way (f : FlW adj s t F) {n : Nat} (hn : ∀ v u, adj v u → v < n ∧ u < n) {u : Nat} (hu : F s u) : ∃ w, chainA F u w t ∧ w.length ≤ n := by
  have hus : u ≠ s := fun e => f.ns s (e ▸ hu)
  have hon : u = t ∨ ∃ x, F x u := .inr ⟨s, hu⟩
  rcases f.chain n u hus hon with h | ⟨w, y, h, _, _, hl, _⟩
  · exact h
  · exfalso
    have hnd := f.way_nodup hu h
    have := nodup_leN (m := List.range n) hnd fun x hx => List.mem_range.2 (chain_lt f hn w u y (hn _ _ (f.sub _ _ hu)).2 h x hx)
    rw [List.length_range, List.length_cons] at this
    omega
theorem chain_sub (f : FlW adj s t F) : ∀ (w : List Nat) (u y : Nat), chainA F u w y → chainA adj u w y := by
  intro w
  induction w with
  | nil => intro u y h; exact h
  | cons z w ih => intro u y h; exact ⟨f.sub _ _ h.1, ih z y h.2⟩
/-- A set without s and t that meets each walk from s to t: it has as_ many nodes as_ there are ways. -/
theorem FlW.le_cut (f : FlW adj s t F) {n : Nat} (hn : ∀ v u, adj v u → v < n ∧ u < n) {X : Nat → Prop} (hX : ∀ w, chainA adj s w t → ∃ x ∈ w, X x) (hXt : ¬ X t) : cntN n (F s) ≤ cntN n X := by
  classical
  have key : ∀ u, F s u → ∃ x w, chainA F u w t ∧ x ∈ u :: w ∧ X x := by
    intro u hu
    obtain ⟨w, h, _⟩ := f.way hn hu
    obtain ⟨x, hx, hXx⟩ := hX (u :: w) ⟨f.sub _ _ hu, chain_sub f w u t h⟩
    exact ⟨x, w, h, hx, hXx⟩
  refine cnt_inj (fun u => if h : ∃ x w, chainA F u w t ∧ x ∈ u :: w ∧ X x then h.choose else 0) (fun u _ h => ?_) (fun u u' h h' he => ?_)
  · have hx := key u h
    simp only [dif_pos hx]
    obtain ⟨w, h1, h2, h3⟩ := hx.choose_spec
    exact ⟨chain_lt f hn w u t (hn _ _ (f.sub _ _ h)).2 h1 _ h2, h3⟩
  · have hx := key u h
    have hx' := key u' h'
    simp only [dif_pos hx, dif_pos hx'] at he
    obtain ⟨w, h1, h2, h3⟩ := hx.choose_spec
    obtain ⟨w', h1', h2', _⟩ := hx'.choose_spec
    obtain ⟨i, hi⟩ := List.mem_iff_getElem?.1 h2
    obtain ⟨j, hj⟩ := List.mem_iff_getElem?.1 h2'
    rw [← he] at hj
    exact f.ways_apart h h' h1 h1' i j _ hi hj fun e => hXt (e ▸ h3)
end
end Go.AM
end

section
namespace Go.AM
/-- Added to a capacity of which a lower bound alone is known. -/
def U : Nat := 4611686018427387904
inductive Blk where
  | row (c : List Value) (elem : TypeId) (own : Bool)
  | mp (es : List MapEntry) (clock : Nat)
def Blk.own : Blk → Bool
  | .row _ _ o => o
  | .mp _ _ => true
structure H where
  blk : Nat → Option Blk
  nx : Nat
  wr : Nat
def H.new (h : H) (k : Blk) : H := ⟨fun b => if b = h.nx then some k else h.blk b, h.nx + 1, h.wr⟩
def H.set (h : H) (b : Nat) (k : Blk) : H := ⟨fun i => if i = b then some k else h.blk i, h.nx, h.wr + 1⟩
def H.kill (h : H) (b : Nat) : H := ⟨fun i => if i = b then none else h.blk i, h.nx, h.wr + 1⟩
def scal : Value → Bool
  | .agg _ => false
  | .tuple _ => false
  | _ => true
def H.cell (h : H) (b o : Nat) : Option Value :=
  match h.blk b with
  | some (.row c _ _) => c[o]?
  | _ => none
def H.rd (h : H) (b o n : Nat) : Option (List Value) :=
  match h.blk b with
  | some (.row c _ _) => if o + n ≤ c.length then some ((c.drop o).take n) else none
  | _ => none
def setAt : List Value → Nat → List Value → List Value
  | c, _, [] => c
  | c, o, v :: vs => setAt (c.set o v) (o + 1) vs
/-- A value without addresses. -/
def closedV : Nat → Value → Bool
  | _, .int _ _ => true
  | _, .bool _ => true
  | _, .string _ => true
  | _, .pointer none => true
  | _, .slice none 0 0 => true
  | _, .map none => true
  | _, .nilFunc => true
  | _, .nilIface => true
  | d + 1, .agg cs => cs.toList.all (closedV d)
  | d + 1, .tuple cs => cs.toList.all (closedV d)
  | _, _ => false
/-- What lies outside of the calls: how many global variables there are, what they hold, and the functions whose calls are made by themselves. -/
structure Env where
  NG : Nat
  G : Nat → Option Blk
  iso : FuncId → Bool
section
variable (P : Program) (E : Env)
def size? (t : TypeId) : Option Nat := (P.info? t).map (·.size)
def zero? (t : TypeId) : Option Value := (P.info? t).bind fun i => i.zero.bind fun z => if closedV 5 z then some z else none
def aggT (t : TypeId) : Option Bool := (P.underlying t).map fun
  | .struct _ | .array _ _ => true
  | _ => false
def load (t : TypeId) (v : Value) (h : H) : Option Value :=
  match v with
  | .pointer (some ⟨b, o, none⟩) =>
    match aggT P t with
    | some true => (size? P t).bind fun n => (h.rd b o n).map fun l => .agg l.toArray
    | some false => h.cell b o
    | none => none
  | _ => none
def store (t : TypeId) (v x : Value) (h : H) : Option H :=
  match v with
  | .pointer (some ⟨b, o, none⟩) =>
    match h.blk b with
    | some (.row c e true) =>
      if size? P t = some x.cells.size ∧ o + x.cells.size ≤ c.length ∧ x.cells.toList.all scal then
        some (h.set b (.row (setAt c o x.cells.toList) e true))
      else none
    | _ => none
  | _ => none
def alloc (t : TypeId) (h : H) : Option (Value × H) :=
  (zero? P t).map fun z => (.pointer (some ⟨h.nx, 0, none⟩), h.new (.row z.cells.toList t true))
def box (t : TypeId) (v : Value) (h : H) : Option (Value × H) :=
  (size? P t).map fun _ => (.pointer (some ⟨h.nx, 0, none⟩), h.new (.row v.cells.toList t true))
def places (fs : List Field) : Option (List (Nat × Nat)) := fs.mapM fun f => (size? P f.type).map (f.offset, ·)
def build (t : TypeId) (parts : List (Nat × Value)) : Option Value :=
  (zero? P t).bind fun z =>
    match P.underlying t with
    | some (.struct fs) => (places P fs.toList).bind fun ps => (Instr.fill (ps[·]?) z.cells parts).map .agg
    | some (.array _ e) => (size? P e).bind fun s => (Instr.fill (fun i => some (i * s, s)) z.cells parts).map .agg
    | _ => none
def buildSlice (t : TypeId) (len : Nat) (parts : List (Nat × Value)) (h : H) : Option (Value × H) :=
  match P.underlying t with
  | some (.slice e) =>
    (size? P e).bind fun s => (zero? P e).bind fun z =>
      if len * s ≤ 2 ^ 24 ∧ 0 < s ∧ z.cells.size = s then
        (Instr.fill (fun i => some (i * s, s)) ((Array.range (len * s)).map (z.cells[· % z.cells.size]!)) parts).map fun cs =>
          (.slice (some ⟨h.nx, 0, none⟩) len len, h.new (.row cs.toList e true))
      else none
  | _ => none
def part (t : TypeId) (cs : Array Value) (off : Nat) : Option Value :=
  match aggT P t with
  | some true => (size? P t).map fun n => .agg (cs.extract off (off + n))
  | some false => cs[off]?
  | none => none
def fieldAddr (s : TypeId) (x : Value) (f : Nat) : Option Value :=
  match P.underlying s, x with
  | some (.struct fs), .pointer (some ⟨b, o, none⟩) =>
    (fs[f]?).bind fun f => (size? P f.type).bind fun n => if n = 0 then none else some (.pointer (some ⟨b, o + f.offset, none⟩))
  | _, _ => none
def field (t : TypeId) (x : Value) (f : Nat) : Option Value :=
  match P.underlying t, x with
  | some (.struct fs), .agg cs => (fs[f]?).bind fun f => part P f.type cs f.offset
  | _, _ => none
def indexAddr (t : TypeId) (x i : Value) : Option Value :=
  match P.underlying t, x, i with
  | some (.slice e), .slice (some ⟨b, o, none⟩) n _, .int _ i =>
    if 0 ≤ i ∧ i < n then (size? P e).map fun s => .pointer (some ⟨b, o + i.toNat * s, none⟩) else none
  | some (.array n e), .pointer (some ⟨b, o, none⟩), .int _ i =>
    if 0 ≤ i ∧ i < n then (size? P e).map fun s => .pointer (some ⟨b, o + i.toNat * s, none⟩) else none
  | _, _, _ => none
def index (t : TypeId) (x i : Value) : Option Value :=
  match P.underlying t, x, i with
  | some (.array n e), .agg cs, .int _ i =>
    if 0 ≤ i ∧ i < n then (size? P e).bind fun s => part P e cs (i.toNat * s) else none
  | _, _, _ => none
/-- What is known of a capacity. -/
def capK (c : Nat) : Nat := if c < U then c else c - U
def bound (v : Option Value) (y d : Nat) : Option Nat :=
  match v with
  | none => some d
  | some (.int _ i) => if 0 ≤ i ∧ i ≤ y then some i.toNat else none
  | _ => none
def slice (t : TypeId) (x : Value) (lo hi mx : Option Value) (h : H) : Option Value :=
  match P.underlying t, x with
  | some (.slice e), .slice none 0 0 =>
    (size? P e).bind fun _ => (bound mx 0 0).bind fun m => (bound hi m 0).bind fun hh => (bound lo hh 0).bind fun _ =>
      if mx.isSome && hi.isNone then none else some (.slice none 0 0)
  | some (.slice e), .slice (some ⟨b, o, none⟩) n c =>
    match h.blk b with
    | some (.row _ e' _) =>
      if e' = e ∧ capK c < U ∧ (mx.isSome && hi.isNone) = false then
        (size? P e).bind fun s => (bound mx (capK c) (capK c)).bind fun m => (bound hi m n).bind fun hh => (bound lo hh 0).bind fun l =>
          if mx.isSome ∨ c < U then some (.slice (some ⟨b, if m = l then o else o + l * s, none⟩) (hh - l) (m - l))
          else some (.slice (some ⟨b, o + l * s, none⟩) (hh - l) (U + (m - l)))
      else none
    | _ => none
  | _, _ => none
/-- The elements that an append adds. -/
def srcCells (s : Nat) (x : Value) (h : H) : Option (List Value) :=
  match x with
  | .slice none 0 _ => some []
  | .slice (some ⟨b, o, none⟩) n _ => if n * s = 0 then some [] else h.rd b o (n * s)
  | _ => none
def lenOf : Value → Option Nat
  | .slice _ n _ => some n
  | _ => none
def append (tys : List TypeId) (s x : Value) (h : H) : Option (Value × H) :=
  match tys with
  | [st, xt] =>
    match P.underlying st, P.underlying xt with
    | some (.slice e), some (.slice _) =>
      (P.info? e).bind fun i => (zero? P e).bind fun z => (lenOf x).bind fun k => (srcCells i.size x h).bind fun xs =>
        if i.bytes ≤ 4096 ∧ 0 < i.size ∧ z.cells.size = i.size then
          match s with
          | .slice none 0 0 =>
            if k = 0 then some (.slice none 0 0, h)
            else if k < 2 ^ 30 then some (.slice (some ⟨h.nx, 0, none⟩) k (U + k), h.new (.row xs e true)) else none
          | .slice (some ⟨b, o, none⟩) n c =>
            if k = 0 then some (.slice (some ⟨b, o, none⟩) n c, h)
            else if n + k ≤ capK c then
              match h.blk b with
              | some (.row cs e' true) =>
                if e' = e ∧ o + (n + k) * i.size ≤ cs.length ∧ xs.all scal then
                  some (.slice (some ⟨b, o, none⟩) (n + k) c, h.set b (.row (setAt cs (o + n * i.size) xs) e true))
                else none
              | _ => none
            else if n + k < 2 ^ 30 then
              if c < U then
                (if n = 0 then some [] else h.rd b o (n * i.size)).bind fun old =>
                  some (.slice (some ⟨h.nx, 0, none⟩) (n + k) (U + (n + k)), h.new (.row (old ++ xs) e true))
              else
                match h.blk b with
                | some (.row cs e' true) =>
                  if e' = e ∧ o + n * i.size ≤ cs.length ∧ xs.all scal then
                    some (.slice (some ⟨h.nx, 0, none⟩) (n + k) (U + (n + k)),
                      (h.kill b).new (.row ((cs.drop o).take (n * i.size) ++ xs) e true))
                  else none
                | _ => none
            else none
          | _ => none
        else none
    | _, _ => none
  | _ => none
/-- A copy: how many elements, and the heap behind it. -/
def copyS (tys : List TypeId) (d x : Value) (h : H) : Option (Value × H) :=
  match tys with
  | dt :: _ =>
    match P.underlying dt with
    | some (.slice e) =>
      (size? P e).bind fun sz =>
        match d, x with
        | .slice bd n c, .slice bs k cs =>
          if min k n = 0 then some (.int .i64 0, h)
          else
            match bd with
            | some ⟨b, o, none⟩ =>
              (srcCells sz (.slice bs (min k n) cs) h).bind fun xs =>
                match h.blk b with
                | some (.row cells e' true) => if o + xs.length ≤ cells.length ∧ xs.all scal then some (.int .i64 (min k n : Nat), h.set b (.row (setAt cells o xs) e' true)) else none
                | _ => none
            | _ => none
        | _, _ => none
    | _ => none
  | _ => none
/-- The elements of a slice become zero: the heap behind it. -/
def clearS (tys : List TypeId) (x : Value) (h : H) : Option (Value × H) :=
  match tys with
  | t :: _ =>
    match P.underlying t with
    | some (.slice e) =>
      match x with
      | .slice a n _ =>
        if n = 0 then some (undef, h)
        else
          match a with
          | some ⟨b, o, none⟩ =>
            (zero? P e).bind fun z =>
              match h.blk b with
              | some (.row cells e' true) =>
                if o + (n * z.cells.size) ≤ cells.length ∧ ((List.range (n * z.cells.size)).map (z.cells[· % z.cells.size]!)).all scal then
                  some (undef, h.set b (.row (setAt cells o ((List.range (n * z.cells.size)).map (z.cells[· % z.cells.size]!))) e' true))
                else none
              | _ => none
          | _ => none
      | _ => none
    | _ => none
  | _ => none
def makeSlice (t : TypeId) (len cap : Value) (h : H) : Option (Value × H) :=
  match P.underlying t, len, cap with
  | some (.slice e), .int _ l, .int _ c =>
    (P.info? e).bind fun i => (zero? P e).bind fun z =>
      if 0 ≤ l ∧ l ≤ c ∧ c < 2 ^ 30 ∧ i.bytes ≤ 4096 ∧ 0 < i.size ∧ z.cells.size = i.size then
        some (.slice (some ⟨h.nx, 0, none⟩) l.toNat c.toNat,
          h.new (.row ((List.range (c.toNat * i.size)).map (z.cells[· % z.cells.size]!)) e true))
      else none
  | _, _, _ => none
/-- Equality of plain values. -/
def eqV : Nat → TypeId → Value → Value → Option Bool
  | 0, _, _, _ => none
  | d + 1, t, x, y =>
    match P.underlying t, x, y with
    | some .bool, .bool a, .bool b => some (a == b)
    | some (.int _), .int k a, .int k' b => if k = k' then some (a == b) else none
    | some (.struct fs), .agg xs, .agg ys =>
      if P.stoodInHeld t then none else
      fs.toList.foldr (fun f r => if f.name ≠ "_" then
          (part P f.type xs f.offset).bind fun a => (part P f.type ys f.offset).bind fun b =>
            (eqV d f.type a b).bind fun q => if q then r else some false
        else none) (some true)
    | some (.array len e), .agg xs, .agg ys =>
      (size? P e).bind fun n =>
      (List.range len).foldr (fun i r =>
          (part P e xs (i * n)).bind fun a => (part P e ys (i * n)).bind fun b =>
            (eqV d e a b).bind fun q => if q then r else some false) (some true)
    | some (.slice _), .slice none 0 0, .slice b _ _ => some b.isNone
    | some (.slice _), .slice (some _) _ _, .slice none 0 0 => some false
    | some (.map _ _), .map none, .map b => some b.isNone
    | some (.map _ _), .map (some _), .map none => some false
    | some (.func _ _ _), .nilFunc, .nilFunc => some true
    | some (.func _ _ _), .nilFunc, .func _ _ _ => some false
    | some (.func _ _ _), .func _ _ _, .nilFunc => some false
    | _, _, _ => none
def intBin (op : BinOp) (k : IntKind) (a b : Int) : Option Value :=
  match op with
  | .add => some (.int k (k.wrap (a + b)))
  | .sub => some (.int k (k.wrap (a - b)))
  | .mul => some (.int k (k.wrap (a * b)))
  | .quo => if b = 0 then none else some (.int k (k.wrap (a.tdiv b)))
  | .rem => if b = 0 then none else some (.int k (a.tmod b))
  | .and => some (.int k (k.wrap (BitVec.ofInt k.bits a &&& BitVec.ofInt k.bits b).toNat))
  | .or => some (.int k (k.wrap (BitVec.ofInt k.bits a ||| BitVec.ofInt k.bits b).toNat))
  | .xor => some (.int k (k.wrap (BitVec.ofInt k.bits a ^^^ BitVec.ofInt k.bits b).toNat))
  | .andNot => some (.int k (k.wrap (BitVec.ofInt k.bits a &&& ~~~BitVec.ofInt k.bits b).toNat))
  | .eql => some (.bool (a == b))
  | .neq => some (.bool (a != b))
  | .lss => some (.bool (decide (a < b)))
  | .leq => some (.bool (decide (a ≤ b)))
  | .gtr => some (.bool (decide (a > b)))
  | .geq => some (.bool (decide (a ≥ b)))
  | _ => none
def binOp (op : BinOp) (t : TypeId) (x y : Value) : Option Value :=
  match x, y with
  | .int k a, .int k' b =>
    match op with
    | .shl => if b < 0 then none else some (.int k (k.wrap (a * 2 ^ min b.toNat k.bits)))
    | .shr => if b < 0 then none else some (.int k (a.fdiv (2 ^ min b.toNat k.bits)))
    | _ => if k = k' then intBin op k a b else none
  | .agg a, .agg b =>
    if P.eqGuardType P.depth t then none else
    match op with
    | .eql => (eqV P 10 t (.agg a) (.agg b)).map .bool
    | .neq => (eqV P 10 t (.agg a) (.agg b)).map fun q => .bool (!q)
    | _ => none
  | x, y =>
    match op with
    | .eql => (eqV P 10 t x y).map .bool
    | .neq => (eqV P 10 t x y).map fun q => .bool (!q)
    | _ => none
def unOp (op : UnOp) (x : Value) : Option Value :=
  match op, x with
  | .neg, .int k n => some (.int k (k.wrap (0 - n)))
  | .xor, .int k n => intBin .xor k (if k.signed then -1 else k.max) n
  | .not, .bool b => some (.bool !b)
  | _, _ => none
def convert (src dst : TypeId) (x : Value) : Option Value :=
  match P.underlying src, P.underlying dst, x with
  | some _, some (.int k), .int _ n => some (.int k (k.wrap n))
  | _, _, _ => none
/-- A key whose comparing is plain. -/
def keyT : Nat → TypeId → Bool
  | 0, _ => false
  | d + 1, t =>
    match P.underlying t with
    | some (.int _) => true
    | some .bool => true
    | some (.struct fs) => !P.stoodInHeld t && fs.toList.all fun f => decide (f.name ≠ "_") && keyT d f.type
    | some (.array _ e) => keyT d e
    | _ => false
def findK (kt : TypeId) (k : Value) : List MapEntry → Nat → Option (Option (Nat × Value))
  | [], _ => some none
  | e :: es, i => (eqV P 10 kt k e.key).bind fun q => if q then some (some (i, e.val)) else findK kt k es (i + 1)
def mapOf (m : Value) (h : H) : Option (List MapEntry × Nat) :=
  match m with
  | .map none => some ([], 0)
  | .map (some b) =>
    match h.blk b with
    | some (.mp es c) => some (es, c)
    | _ => none
  | _ => none
def plainC : Value → Bool
  | .int _ _ => true
  | .bool _ => true
  | _ => false
/-- A number, a bool, or a row of these. -/
def plainK : Value → Bool
  | .int _ _ => true
  | .bool _ => true
  | .agg cs => cs.toList.all plainC
  | _ => false
/-- The value of a key's type whose parts are all there. -/
def isKey (kt : TypeId) (k : Value) : Bool := plainK k && keyT P 10 kt && (eqV P 10 kt k k == some true)
def lookup (t : TypeId) (m k : Value) (ok : Bool) (h : H) : Option Value :=
  match P.underlying t with
  | some (.map kt vt) =>
    if isKey P kt k then
      (mapOf m h).bind fun (es, _) => (findK P kt k es 0).bind fun r =>
        match r with
        | some (_, v) => some (if ok then .tuple #[v, .bool true] else v)
        | none => (zero? P vt).map fun z => if ok then .tuple #[z, .bool false] else z
    else none
  | _ => none
def mapUpdate (t : TypeId) (m k x : Value) (h : H) : Option H :=
  match P.underlying t, m with
  | some (.map kt _), .map (some b) =>
    if isKey P kt k then
      (mapOf m h).bind fun (es, c) => (findK P kt k es 0).bind fun r =>
        match r with
        | some (i, _) => if Instr.sameBits 10000 (((es[i]?).map (·.key)).getD k) k && plainK (((es[i]?).map (·.key)).getD k) then some (h.set b (.mp (es.modify i fun e => { e with key := k, val := x }) c)) else none
        | none => some (h.set b (.mp (es ++ [{ key := k, val := x, born := c }]) (c + 1)))
    else none
  | _, _ => none
/-- The first half of m[k] op= x: what the entry holds, and its mark. -/
def mapEntry (t : TypeId) (m k : Value) (h : H) : Option (Value × H) :=
  match P.underlying t, m with
  | some (.map kt vt), .map (some b) =>
    if isKey P kt k then
      (mapOf m h).bind fun (es, c) => (findK P kt k es 0).bind fun r =>
        match r with
        | some (i, v) => if Instr.sameBits 10000 (((es[i]?).map (·.key)).getD k) k && plainK (((es[i]?).map (·.key)).getD k) then some (.tuple #[v, .int .i64 (((es[i]?).map (·.born)).getD 0 : Nat)], h.set b (.mp (es.modify i fun e => { e with key := k }) c)) else none
        | none => (zero? P vt).map fun z => (.tuple #[z, .int .i64 (c : Nat)], h.set b (.mp (es ++ [{ key := k, val := z, born := c }]) (c + 1)))
    else none
  | _, _ => none
/-- The second half: the entry with a mark is written. -/
def entryStore (m s x : Value) (h : H) : Option H :=
  match m, s with
  | .map (some b), .int _ n =>
    match h.blk b with
    | some (.mp es c) => (es.findIdx? fun e => (e.born : Int) == n).map fun i => h.set b (.mp (es.modify i fun e => { e with val := x }) c)
    | _ => none
  | _, _ => none
def deleteM (tys : List TypeId) (m k : Value) (h : H) : Option (Value × H) :=
  match (tys[0]?).bind P.underlying, m with
  | some (.map kt _), .map (some b) =>
    if isKey P kt k then
      (mapOf m h).bind fun (es, c) => (findK P kt k es 0).map fun r =>
        match r with
        | some (i, _) => (undef, h.set b (.mp (es.eraseIdx i) c))
        | none => (undef, h.set b (.mp es c))
    else none
  | _, _ => none
def makeMap (r : Option Value) (h : H) : Option (Value × H) :=
  match r with
  | none => some (.map (some h.nx), h.new (.mp [] 0))
  | some _ => none
def ev (t : Array Value) : Operand → Value
  | .tmp i => t.getD i undef
  | .const v => v
  | .global g => .pointer (some ⟨g, 0, none⟩)
  | .func f => .func (.func f) #[] #[]
def minmax (mx : Bool) : List Value → Option Value
  | [] => none
  | x :: rest => rest.foldlM (fun a b =>
      match a, b with
      | .int k p, .int _ q => some (if mx then .int k (if p < q then q else p) else .int k (if q < p then q else p))
      | _, _ => none) x
def builtin (b : Builtin) (tys : List TypeId) (args : List Value) (h : H) : Option (Value × H) :=
  match b, args with
  | .append, [s, x] => append P tys s x h
  | .copy, [d, x] => copyS P tys d x h
  | .clear, [x] => clearS P tys x h
  | .len, [x] =>
    match (tys[0]?).bind P.underlying, x with
    | some (.slice _), .slice _ n _ => some (.int .i64 n, h)
    | some (.map _ _), .map none => some (.int .i64 0, h)
    | some (.map _ _), .map (some b) =>
      match h.blk b with
      | some (.mp es _) => some (.int .i64 es.length, h)
      | _ => none
    | _, _ => none
  | .delete, [m, k] => deleteM P tys m k h
  | .min, xs => (minmax false xs).map (·, h)
  | .max, xs => (minmax true xs).map (·, h)
  | _, _ => none
abbrev Rec := FuncId → Array Value → H → Option (Value × H)
def callV (rec : Rec) (f : Value) (args : Array Value) (h : H) : Option (Value × H) :=
  match f with
  | .func (.func f) first captured => rec f (first ++ args ++ captured) h
  | _ => none
def okOperand : Operand → Bool
  | .const v => closedV 5 v
  | .global g => decide (g < E.NG)
  | _ => true
def op (rec : Rec) (t : Array Value) (o : Oper) (h : H) : Option (Value × H) :=
  if !(o.op.operands.toList.all (okOperand E)) then none else
  let e := ev t
  let p (v : Option Value) : Option (Value × H) := v.map (·, h)
  let u (h : Option H) : Option (Value × H) := h.map (undef, ·)
  match o.op with
  | .move x | .assign x => some (e x, h)
  | .pick c a b => match e c with
    | .bool true => some (e a, h)
    | .bool false => some (e b, h)
    | _ => none
  | .alloc t => alloc P t h
  | .box t x => box P t (e x) h
  | .build t ps => p (build P t (ps.toList.map fun (i, x) => (i, e x)))
  | .buildSlice t n ps => buildSlice P t n (ps.toList.map fun (i, x) => (i, e x)) h
  | .load t a => p (load P t (e a) h)
  | .store t a x => u (store P t (e a) (e x) h)
  | .nilCheck x => match e x with
    | .pointer (some a) => some (.pointer (some a), h)
    | .func (.func f) a b => some (.func (.func f) a b, h)
    | _ => none
  | .binOp b t x y _ => p (binOp P b t (e x) (e y))
  | .unOp b _ x => p (unOp b (e x))
  | .convert s d x => p (convert P s d (e x))
  | .makeFunc fn first captured => match fn with
    | .func f => some (.func (.func f) (first.map e) (captured.map e), h)
    | _ => none
  | .makeMap _ r => makeMap (r.map e) h
  | .makeSlice t l c => makeSlice P t (e l) (e c) h
  | .slice t x lo hi mx => p (slice P t (e x) (lo.map e) (hi.map e) (mx.map e) h)
  | .fieldAddr s x f => p (fieldAddr P s (e x) f)
  | .field s x f => p (field P s (e x) f)
  | .indexAddr t x i => p (indexAddr P t (e x) (e i))
  | .index t x i => p (index P t (e x) (e i))
  | .lookup t m k ok => p (lookup P t (e m) (e k) ok h)
  | .mapUpdate t m k x | .insert t m k x => u (mapUpdate P t (e m) (e k) (e x) h)
  | .mapEntry t m k => mapEntry P t (e m) (e k) h
  | .entryStore _ m s x => u (entryStore (e m) (e s) (e x) h)
  | .extract x i => match e x with
    | .tuple vs => p (vs[i]?)
    | _ => none
  | .call c => match c.callee with
    | .builtin b => builtin P b c.argTypes.toList (c.args.toList.map e) h
    | .value f => callV rec (e f) (c.args.map e) h
    | _ => none
  | _ => none
def put (t : Array Value) (d : Option Tmp) (v : Value) : Array Value :=
  match d with
  | some d => t.setIfInBounds d v
  | none => t
def ops (rec : Rec) (all : Array Oper) : List Oper → Array Value → H → Option (Array Value × H)
  | [], t, h => some (t, h)
  | o :: rest, t, h =>
    if Region.wanted o (yielded all t) then
      (op P E rec t o h).bind fun (v, h) => ops rec all rest (put t o.dst v) h
    else ops rec all rest (put t o.dst undef) h
/-- What an operation of a region that draws its order touches: nothing; some cells that it loads; a block that it looks at; more than that, but it changes nothing; some cells that it stores into; it may change anything. -/
inductive FP where
  | pure
  | ld (b o n : Nat)
  | rd
  | rb (b : Nat)
  | st (b o n : Nat)
  | md
  | al
  | wb (b : Nat)
def fp (t : Array Value) (o : Oper) : Option FP :=
  let at_ (st : Bool) (ty : TypeId) (a : Value) : Option FP :=
    match a with
    | .pointer (some ⟨b, o, none⟩) => (size? P ty).bind fun n => if n = 0 then none else some (if st then .st b o n else .ld b o n)
    | _ => none
  match o.op with
  | .move _ | .assign _ | .pick .. | .build .. | .nilCheck _ | .binOp .. | .unOp .. | .convert .. | .makeFunc .. | .fieldAddr .. | .field ..
  | .indexAddr .. | .index .. | .extract .. => some .pure
  | .load ty a => at_ false ty (ev t a)
  | .store ty a _ => at_ true ty (ev t a)
  | .lookup _ m _ _ => match ev t m with
    | .map (some b) => some (.rb b)
    | _ => some .rd
  | .slice _ x _ _ _ => match ev t x with
    | .slice (some ⟨b, _, none⟩) _ _ => some (.rb b)
    | .slice none _ _ => some .pure
    | _ => some .rd
  | .call c => match c.callee with
    | .builtin .len => match (c.argTypes[0]?).bind P.underlying with
      | some (.slice _) => some .pure
      | _ => some .rd
    | .builtin .min => some .pure
    | .builtin .max => some .pure
    | _ => some .md
  | .mapUpdate _ m _ _ => match ev t m with
    | .map (some b) => some (.wb b)
    | _ => some .md
  | .insert _ m _ _ => match ev t m with
    | .map (some b) => some (.wb b)
    | _ => some .md
  | .mapEntry _ m _ => match ev t m with
    | .map (some b) => some (.wb b)
    | _ => some .md
  | .entryStore _ m _ _ => match ev t m with
    | .map (some b) => some (.wb b)
    | _ => some .md
  | .alloc _ | .box .. | .buildSlice .. | .makeSlice .. | .makeMap .. => some .md
  | _ => none
/-- A new block of plain values: it may be made as_ early as_ one likes. -/
def allocKind (o : Oper) : Bool :=
  match o.op with
  | .alloc _ => true
  | .makeMap _ none => true
  | .makeSlice .. => true
  | .buildSlice t _ _ => match P.underlying t with
    | some (.slice e) => match P.underlying e with
      | some (.int _) => true
      | _ => false
    | _ => false
  | _ => false
def lookKind (o : Oper) : Bool :=
  match o.op with
  | .lookup .. => true
  | _ => false
/-- May it change more than cells? -/
def hardKind (o : Oper) : Bool :=
  match o.op with
  | .call c => match c.callee with
    | .builtin .len => false
    | .builtin .min => false
    | .builtin .max => false
    | _ => true
  | .alloc _ | .box .. | .buildSlice .. | .makeSlice .. | .makeMap .. | .mapUpdate .. | .insert .. | .mapEntry .. | .entryStore .. => true
  | _ => false
def isInt : Value → Bool
  | .int _ _ => true
  | _ => false
/-- Does a new block stand beside something else that changes the heap, with no order between the two? -/
def needAl (all : Array Oper) : Bool :=
  let B := Region.before all
  let l := all.toList.zipIdx
  l.any fun (o, j) => allocKind P o && l.any fun (p, i) => decide (i ≠ j) && hardKind p && !(B.getD j 0).testBit i && !(B.getD i 0).testBit j
/-- What an operation touches, where new blocks may come early. -/
def fpA (al : Bool) (t : Array Value) (o : Oper) : Option FP :=
  if al && allocKind P o then (if o.op.operands.toList.all fun x => isInt (ev t x) then some .al else none)
  else if al && lookKind o then (fp P t o).map fun _ => .rd
  else fp P t o
/-- A record of an operation that has been done: its place, what it touched, how many blocks there were ahead of it, and whether it changed none of them. -/
structure Did where
  i : Nat
  f : FP
  lo : Nat
  q : Bool
/-- May the two be done in either order? (What is loaded was there ahead of the other one, and is not changed.) -/
def free (x y : Did) : Bool :=
  match x.f, y.f with
  | .pure, _ => true
  | _, .pure => true
  | .ld b o n, .st b' o' n' => decide (b < y.lo) && decide (b ≠ b' ∨ o + n ≤ o' ∨ o' + n' ≤ o)
  | .st b' o' n', .ld b o n => decide (b < x.lo) && decide (b ≠ b' ∨ o + n ≤ o' ∨ o' + n' ≤ o)
  | .ld b _ _, .md => decide (b < y.lo) && y.q
  | .md, .ld b _ _ => decide (b < x.lo) && x.q
  | .rb b, .md => decide (b < y.lo) && y.q
  | .md, .rb b => decide (b < x.lo) && x.q
  | .ld b _ _, .al => decide (b < y.lo) && y.q
  | .al, .ld b _ _ => decide (b < x.lo) && x.q
  | .rb b, .al => decide (b < y.lo) && y.q
  | .al, .rb b => decide (b < x.lo) && x.q
  | .md, .al => true
  | .st _ _ _, .al => true
  | .al, .al => true
  | .wb _, .al => true
  | .ld b _ _, .wb b' => decide (b < y.lo) && decide (b ≠ b')
  | .wb b', .ld b _ _ => decide (b < x.lo) && decide (b ≠ b')
  | .rb b, .wb b' => decide (b < y.lo) && decide (b ≠ b')
  | .wb b', .rb b => decide (b < x.lo) && decide (b ≠ b')
  | .rb _, .rb _ => true
  | .rb _, .ld _ _ _ => true
  | .ld _ _ _, .rb _ => true
  | .rb _, .rd => true
  | .rd, .rb _ => true
  | .ld _ _ _, .ld _ _ _ => true
  | .ld _ _ _, .rd => true
  | .rd, .ld _ _ _ => true
  | .rd, .rd => true
  | _, _ => false
/-- A look at an entry and, behind it in the text, the first half of a change of that entry. -/
def twinOps (all : Array Oper) (i j : Nat) : Bool :=
  match all[i]?, all[j]? with
  | some ⟨_, .lookup t (.tmp m) (.tmp k) false, _, _, _, _⟩, some ⟨_, .mapEntry t' (.tmp m') (.tmp k'), _, _, _, _⟩ =>
    t == t' && m == m' && k == k' && (List.range j).all fun p => decide (p < i) || match (all[p]?).bind (·.dst) with
      | some d => d != m && d != k
      | none => true
  | _, _ => false
/-- The look sees the same behind it. -/
def twin (all : Array Oper) (x y : Did) : Bool :=
  match x.f, y.f with
  | .rb b, .wb b' => b == b' && twinOps all x.i y.i
  | _, _ => false
def drawGo (rec : Rec) (all : Array Oper) (B : Array Nat) : List Oper → Nat → List Did → Array Value → H → Option (Array Value × H)
  | [], _, _, t, h => some (t, h)
  | o :: rest, j, log, t, h =>
    if Region.wanted o (yielded all t) then
      (fpA P (needAl P all) t o).bind fun f => (op P E rec t o h).bind fun (v, h') =>
        if log.all fun d => (B.getD j 0).testBit d.i || (free d ⟨j, f, h.nx, decide (h'.wr = h.wr)⟩ || twin all d ⟨j, f, h.nx, decide (h'.wr = h.wr)⟩) then
          drawGo rec all B rest (j + 1) (⟨j, f, h.nx, decide (h'.wr = h.wr)⟩ :: log) (put t o.dst v) h'
        else none
    else drawGo rec all B rest (j + 1) log (put t o.dst undef) h
def reads (o : Oper) : List Tmp := o.op.operands.toList.filterMap fun | .tmp t => some t | _ => none
/-- The closed facts of a region that draws its order. -/
def okDraw (all : Array Oper) : Bool :=
  let B := Region.before all
  let l := all.toList.zipIdx
  l.all fun (o, j) =>
    (o.after.all fun e => !Region.binds .any e || decide (e.on < j)) &&
    (match o.guard with
      | none => true
      | some (g, _) => (B.getD j 0).testBit g && decide (g < j)) &&
    l.all fun (p, i) =>
      (decide (i = j) || match p.dst with
        | none => true
        | some d => !(o.dst == some d) && (!(reads o).contains d || (B.getD j 0).testBit i || (B.getD i 0).testBit j))
def copyKind (o : Oper) : Bool :=
  match o.op with
  | .move _ => true
  | .assign _ => true
  | _ => false
def storeKind (o : Oper) : Bool :=
  match o.op with
  | .store .. => true
  | _ => false
/-- The slots that may hold a block that came early. -/
def early (all : Array Oper) : List Tmp := all.toList.foldl (fun D o => if allocKind P o || (copyKind o && (reads o).any D.contains) then o.dst.toList ++ D else D) []
/-- Blocks that may come early are only handed on, or used by what changes something. -/
def okEarly (all : Array Oper) : Bool :=
  let D := early P all
  all.toList.all fun o => (!allocKind P o || (match o.dst with
    | some d => D.contains d
    | none => true)) && (!(reads o).any D.contains || (copyKind o && (match o.dst with
    | some d => D.contains d
    | none => true)) || hardKind o || storeKind o)
/-- Does a new block stand ahead of something that changes the heap, with no order between the two? -/
def lateQ (all : Array Oper) : Bool :=
  let B := Region.before all
  let l := all.toList.zipIdx
  l.any fun (o, i) => allocKind P o && l.any fun (p, j) => decide (i < j) && (hardKind p || storeKind p) && !allocKind P p && !(B.getD j 0).testBit i
/-- An order in which new blocks come as_ late as_ they can. -/
def lateOrd (all : Array Oper) : List Nat :=
  let B := Region.before all
  let r := all.toList.zipIdx.foldl (fun (acc : List Nat × List Nat) (q : Oper × Nat) =>
    if allocKind P q.1 then (acc.1, acc.2 ++ [q.2])
    else
      let now := acc.2.filter fun i => (B.getD q.2 0).testBit i
      (acc.1 ++ now ++ [q.2], acc.2.filter fun i => !(B.getD q.2 0).testBit i)) ([], [])
  r.1 ++ r.2
def moved (ord : List Nat) (o : Oper) : Oper := { o with after := o.after.map fun e => { e with on := ord.idxOf e.on }, guard := o.guard.map fun g => (ord.idxOf g.1, g.2) }
/-- The region in another order. -/
def permute (ord : List Nat) (all : Array Oper) : Array Oper := (ord.filterMap fun i => (all[i]?).map (moved ord)).toArray
def okPerm (ord : List Nat) (n : Nat) : Bool :=
  decide (ord.length = n) && (List.range n).all fun i => decide (ord[ord.idxOf i]? = some i) && (match ord[i]? with
    | some j => decide (j < n) && decide (ord.idxOf j = i)
    | none => false)
/-- The region in the order in which it is run. -/
def order (all : Array Oper) : Array Oper := if lateQ P all then permute (lateOrd P all) all else all
def okOrder (all : Array Oper) : Bool := okDraw all && (!lateQ P all || okPerm (lateOrd P all) all.size) && okDraw (order P all) && (!needAl P (order P all) || okEarly P (order P all))
def draw (rec : Rec) (all : Array Oper) (t : Array Value) (h : H) : Option (Array Value × H) :=
  if okOrder P all then drawGo P E rec (order P all) (Region.before (order P all)) (order P all).toList 0 [] t h else none
inductive Ex where
  | normal
  | exit (id : Nat)
  | ret
def loop (f : Array Value → H → Option (Ex × Array Value × H)) : Nat → Array Value → H → Option (Ex × Array Value × H)
  | 0, _, _ => none
  | k + 1, t, h => (f t h).bind fun (e, t, h) =>
    match e with
    | .normal => loop f k t h
    | e => some (e, t, h)
def code (rec : Rec) (k : Nat) : Code → Array Value → H → Option (Ex × Array Value × H)
  | .skip, t, h => some (.normal, t, h)
  | .region _ all false, t, h => (ops P E rec all all.toList t h).map fun (t, h) => (.normal, t, h)
  | .region _ all true, t, h => (draw P E rec all t h).map fun (t, h) => (.normal, t, h)
  | .seq a b, t, h => (code rec k a t h).bind fun (e, t, h) =>
    match e with
    | .normal => code rec k b t h
    | e => some (e, t, h)
  | .cond c a b, t, h =>
    if !okOperand E c then none else
    match ev t c with
    | .bool true => code rec k a t h
    | .bool false => code rec k b t h
    | _ => none
  | .block id c, t, h => (code rec k c t h).map fun (e, t, h) =>
    match e with
    | .exit i => (if i = id then .normal else .exit i, t, h)
    | e => (e, t, h)
  | .loop c, t, h => loop (code rec k c) k t h
  | .exit id, t, h => some (.exit id, t, h)
  | .ret, t, h => some (.ret, t, h)
  | _, _, _ => none
def resV (t : Array Value) (h : H) : ResultVar → Option Value
  | .tmp i => some (t.getD i undef)
  | .cell a ty => load P ty (t.getD a undef) h
def res (fn : Func) (t : Array Value) (h : H) : Option Value :=
  (fn.results.toList.mapM (resV P t h)).map fun vs =>
    match vs with
    | [v] => v
    | vs => .tuple vs.toArray
/-- The heap of a call that is made by itself: the globals alone. -/
def lone : H := ⟨fun b => if b < E.NG then E.G b else none, E.NG, 0⟩
def plainV : Value → Bool
  | .int _ _ => true
  | .bool _ => true
  | _ => false
def plainR : Value → Bool
  | .int _ _ => true
  | .bool _ => true
  | .tuple vs => vs.toList.all plainV
  | _ => false
def body (rec : Rec) (n : Nat) (f : FuncId) (args : Array Value) (h : H) : Option (Value × H) :=
  match P.funcs[f]? with
  | some fn =>
    match fn.body with
    | some c =>
      if fn.name = "runtime.NumGoroutine" then none else
      (code P E rec n c (args ++ Array.replicate (fn.ntmps - args.size) undef) h).bind fun (e, t, h) =>
        match e with
        | .exit _ => none
        | _ => (res P fn t h).map (·, h)
    | none => none
  | none => none
/-- Calls; those of 'iso' are made by themselves: plain values in, plain values out. -/
def call : Nat → Rec
  | 0, _, _, _ => none
  | n + 1, f, args, h =>
    if E.iso f && args.toList.all plainV then
      (body P E (call n) (n + 1) f args (lone E)).bind fun (v, _) => if plainR v then some (v, h) else none
    else body P E (call n) (n + 1) f args h
end
end Go.AM
namespace Go.AM
structure Emb where
  g : Nat
  base : Nat
  lim : Nat
  sz : Nat
def CapR (c c' : Nat) : Prop := (c < U ∧ c' = c) ∨ (U ≤ c ∧ c - U ≤ c')
inductive VR (ι : Nat → Emb) (n : Nat) : Value → Value → Prop
  | bool (b : Bool) : VR ι n (.bool b) (.bool b)
  | int (k : IntKind) (x : Int) : VR ι n (.int k x) (.int k x)
  | string (s : ByteArray) : VR ι n (.string s) (.string s)
  | ptrNil : VR ι n (.pointer none) (.pointer none)
  | ptr {b o : Nat} (hb : b < n) : VR ι n (.pointer (some ⟨b, o, none⟩)) (.pointer (some ⟨(ι b).g, (ι b).base + o, none⟩))
  | slNil : VR ι n (.slice none 0 0) (.slice none 0 0)
  | sl {b o l c c' : Nat} (hb : b < n) (hc : CapR c c') (hk : l ≤ capK c) (hl : o + c' * (ι b).sz ≤ (ι b).lim) :
      VR ι n (.slice (some ⟨b, o, none⟩) l c) (.slice (some ⟨(ι b).g, (ι b).base + o, none⟩) l c')
  | sl0 {b o c : Nat} {ad : Addr} (hb : b < n) (hc : capK c = 0) : VR ι n (.slice (some ⟨b, o, none⟩) 0 c) (.slice (some ad) 0 0)
  | mapNil : VR ι n (.map none) (.map none)
  | map {b : Nat} (hb : b < n) : VR ι n (.map (some b)) (.map (some (ι b).g))
  | nilFunc : VR ι n .nilFunc .nilFunc
  | func {f : FuncId} {xs xs' ys ys' : Array Value} (h1 : xs.size = xs'.size) (h2 : ys.size = ys'.size)
      (h3 : ∀ (i : Nat) (v v' : Value), xs[i]? = some v → xs'[i]? = some v' → VR ι n v v')
      (h4 : ∀ (i : Nat) (v v' : Value), ys[i]? = some v → ys'[i]? = some v' → VR ι n v v') : VR ι n (.func (.func f) xs ys) (.func (.func f) xs' ys')
  | nilIface : VR ι n .nilIface .nilIface
  | agg {xs xs' : Array Value} (h1 : xs.size = xs'.size) (h2 : ∀ (i : Nat) (v v' : Value), xs[i]? = some v → xs'[i]? = some v' → VR ι n v v') :
      VR ι n (.agg xs) (.agg xs')
  | tuple {xs xs' : Array Value} (h1 : xs.size = xs'.size) (h2 : ∀ (i : Nat) (v v' : Value), xs[i]? = some v → xs'[i]? = some v' → VR ι n v v') :
      VR ι n (.tuple xs) (.tuple xs')
  | any (k : IntKind) (x : Int) : VR ι n (.chan none) (.int k x)
/-- Rows of values, one by one. -/
def AR (ι : Nat → Emb) (n : Nat) (xs xs' : Array Value) : Prop :=
  xs.size = xs'.size ∧ ∀ (i : Nat) (v v' : Value), xs[i]? = some v → xs'[i]? = some v' → VR ι n v v'
def LR (ι : Nat → Emb) (n : Nat) (xs xs' : List Value) : Prop :=
  xs.length = xs'.length ∧ ∀ (i : Nat) (v v' : Value), xs[i]? = some v → xs'[i]? = some v' → VR ι n v v'
theorem VR.mono {ι ι' : Nat → Emb} {n n' : Nat} (hn : n ≤ n') (he : ∀ b, b < n → ι' b = ι b) {v v' : Value} (h : VR ι n v v') : VR ι' n' v v' := by
  induction h with
  | bool b => exact .bool b
  | int k x => exact .int k x
  | string s => exact .string s
  | ptrNil => exact .ptrNil
  | ptr hb => rw [← he _ hb]; exact .ptr (Nat.lt_of_lt_of_le hb hn)
  | slNil => exact .slNil
  | sl hb hc hk hl => rw [← he _ hb] at hl ⊢; exact .sl (Nat.lt_of_lt_of_le hb hn) hc hk hl
  | sl0 hb hc => exact .sl0 (Nat.lt_of_lt_of_le hb hn) hc
  | mapNil => exact .mapNil
  | map hb => rw [← he _ hb]; exact .map (Nat.lt_of_lt_of_le hb hn)
  | nilFunc => exact .nilFunc
  | func h1 h2 _ _ i3 i4 => exact .func h1 h2 i3 i4
  | nilIface => exact .nilIface
  | agg h1 _ i2 => exact .agg h1 i2
  | tuple h1 _ i2 => exact .tuple h1 i2
  | any k x => exact .any k x
theorem AR.mono {ι ι' : Nat → Emb} {n n' : Nat} (hn : n ≤ n') (he : ∀ b, b < n → ι' b = ι b) {v v' : Array Value} (h : AR ι n v v') : AR ι' n' v v' :=
  ⟨h.1, fun i x x' hx hx' => (h.2 i x x' hx hx').mono hn he⟩
theorem AR.toList {ι : Nat → Emb} {n : Nat} {v v' : Array Value} (h : AR ι n v v') : LR ι n v.toList v'.toList :=
  ⟨by simpa using h.1, fun i x x' hx hx' => h.2 i x x' (by simpa using hx) (by simpa using hx')⟩
theorem LR.toArray {ι : Nat → Emb} {n : Nat} {v v' : List Value} (h : LR ι n v v') : AR ι n v.toArray v'.toArray :=
  ⟨by simpa using h.1, fun i x x' hx hx' => h.2 i x x' (by simpa using hx) (by simpa using hx')⟩
theorem LR.nil {ι : Nat → Emb} {n : Nat} : LR ι n [] [] := ⟨rfl, fun i x x' h => by simp at h⟩
theorem LR.cons {ι : Nat → Emb} {n : Nat} {x x' : Value} {v v' : List Value} (hx : VR ι n x x') (h : LR ι n v v') : LR ι n (x :: v) (x' :: v') :=
  ⟨by simp [h.1], fun i y y' hy hy' => by
    cases i with
    | zero => simp at hy hy'; subst hy; subst hy'; exact hx
    | succ i => exact h.2 i y y' (by simpa using hy) (by simpa using hy')⟩
theorem LR.uncons {ι : Nat → Emb} {n : Nat} {x : Value} {v u : List Value} (h : LR ι n (x :: v) u) : ∃ x' v', u = x' :: v' ∧ VR ι n x x' ∧ LR ι n v v' := by
  cases u with
  | nil => exact absurd h.1 (by simp)
  | cons x' v' => exact ⟨x', v', rfl, h.2 0 x x' rfl rfl, by simpa using h.1, fun i y y' hy hy' => h.2 (i + 1) y y' (by simpa using hy) (by simpa using hy')⟩
theorem LR.get {ι : Nat → Emb} {n : Nat} {v v' : List Value} (h : LR ι n v v') {i : Nat} {x : Value} (hx : v[i]? = some x) : ∃ x', v'[i]? = some x' ∧ VR ι n x x' := by
  have hi : i < v'.length := by
    have : i < v.length := by
      rcases Nat.lt_or_ge i v.length with h | h
      · exact h
      · rw [List.getElem?_eq_none h] at hx; cases hx
    have := h.1
    omega
  exact ⟨v'[i], by simp [hi], h.2 i x _ hx (by simp [hi])⟩
theorem AR.get {ι : Nat → Emb} {n : Nat} {v v' : Array Value} (h : AR ι n v v') {i : Nat} {x : Value} (hx : v[i]? = some x) : ∃ x', v'[i]? = some x' ∧ VR ι n x x' := by
  obtain ⟨x', h1, h2⟩ := h.toList.get (i := i) (x := x) (by simpa using hx)
  exact ⟨x', by simpa using h1, h2⟩
theorem LR.append {ι : Nat → Emb} {n : Nat} {a a' b b' : List Value} (h : LR ι n a a') (k : LR ι n b b') : LR ι n (a ++ b) (a' ++ b') := by
  refine ⟨by simp [h.1, k.1], fun i x x' hx hx' => ?_⟩
  by_cases hi : i < a.length
  · rw [List.getElem?_append_left hi] at hx
    rw [List.getElem?_append_left (h.1 ▸ hi)] at hx'
    exact h.2 i x x' hx hx'
  · rw [List.getElem?_append_right (by omega)] at hx
    rw [List.getElem?_append_right (by have := h.1; omega), ← h.1] at hx'
    exact k.2 _ x x' hx hx'
theorem LR.map {α : Type} {ι : Nat → Emb} {n : Nat} (f f' : α → Value) (l : List α) (h : ∀ x ∈ l, VR ι n (f x) (f' x)) : LR ι n (l.map f) (l.map f') := by
  refine ⟨by simp, fun i x x' hx hx' => ?_⟩
  simp only [List.getElem?_map] at hx hx'
  cases hl : l[i]? with
  | none => rw [hl] at hx; cases hx
  | some y =>
    rw [hl] at hx hx'
    simp at hx hx'
    subst hx; subst hx'
    exact h y (List.mem_of_getElem? hl)
theorem VR.cells {ι : Nat → Emb} {n : Nat} {v v' : Value} (h : VR ι n v v') : AR ι n v.cells v'.cells := by
  cases h with
  | agg h1 h2 => exact ⟨h1, h2⟩
  | tuple h1 h2 => exact (LR.cons (VR.tuple h1 h2) .nil).toArray
  | func h1 h2 h3 h4 => exact (LR.cons (VR.func h1 h2 h3 h4) .nil).toArray
  | bool b => exact (LR.cons (VR.bool b) .nil).toArray
  | int k x => exact (LR.cons (VR.int k x) .nil).toArray
  | string s => exact (LR.cons (VR.string s) .nil).toArray
  | ptrNil => exact (LR.cons VR.ptrNil .nil).toArray
  | ptr hb => exact (LR.cons (VR.ptr hb) .nil).toArray
  | slNil => exact (LR.cons VR.slNil .nil).toArray
  | sl hb hc hk hl => exact (LR.cons (VR.sl hb hc hk hl) .nil).toArray
  | sl0 hb hc => exact (LR.cons (VR.sl0 hb hc) .nil).toArray
  | mapNil => exact (LR.cons VR.mapNil .nil).toArray
  | map hb => exact (LR.cons (VR.map hb) .nil).toArray
  | nilFunc => exact (LR.cons VR.nilFunc .nil).toArray
  | nilIface => exact (LR.cons VR.nilIface .nil).toArray
  | any k x => exact (LR.cons (VR.any k x) .nil).toArray
theorem VR.scal {ι : Nat → Emb} {n : Nat} {v v' : Value} (h : VR ι n v v') : scal v' = scal v := by
  cases h <;> rfl
/-- A value without any address stands for itself. -/
theorem VR.undef {ι : Nat → Emb} {n : Nat} : VR ι n undef undef := .tuple rfl (fun i v v' h => by simp at h)
section
variable (P : Program)
def BlkR (ι : Nat → Emb) (n : Nat) (w : World) (b : Nat) : Blk → Prop
  | .row c e true => ∃ C E, w.heap[(ι b).g]? = some (.cells C E (0, 0)) ∧ size? P e = some (ι b).sz ∧ c.length ≤ (ι b).lim ∧
      (ι b).base + (ι b).lim ≤ C.size ∧ ∀ (i : Nat) (v : Value), c[i]? = some v → ∃ v', C[(ι b).base + i]? = some v' ∧ VR ι n v v'
  | .row c e false => (ι b).g < w.heap.size ∧ size? P e = some (ι b).sz ∧
      ∀ (i : Nat) (v : Value), c[i]? = some v → ∃ v', w.cell? ⟨(ι b).g, (ι b).base + i, none⟩ = some v' ∧ VR ι n v v'
  | .mp es clk => ∃ es', w.heap[(ι b).g]? = some (.map es' clk) ∧ es.length = es'.size ∧
      ∀ (i : Nat) (e e' : MapEntry), es[i]? = some e → es'[i]? = some e' → VR ι n e.key e'.key ∧ VR ι n e.val e'.val ∧ e.born = e'.born
structure Rel (E : Env) (ι : Nat → Emb) (h : H) (w : World) : Prop where
  dom : ∀ b k, h.blk b = some k → b < h.nx
  blk : ∀ b k, h.blk b = some k → BlkR P ι h.nx w b k
  inj : ∀ b b' k k', h.blk b = some k → h.blk b' = some k' → b ≠ b' → k.own = true → (ι b).g ≠ (ι b').g
  ng : E.NG ≤ h.nx
  glob : ∀ g, g < E.NG → (ι g).g = g ∧ (ι g).base = 0
  globB : ∀ g, g < E.NG → h.blk g = E.G g
  globO : ∀ g k, g < E.NG → E.G g = some k → k.own = false ∧ BlkR P ι E.NG w g k
structure Tr (ι : Nat → Emb) (h : H) (w : World) (ι' : Nat → Emb) (h' : H) (w' : World) : Prop where
  nx : h.nx ≤ h'.nx
  ext : ∀ b, b < h.nx → ι' b = ι b
  os : w'.os = w.os
  tape : w'.tape = w.tape
  output : w'.output = w.output
  size : w.heap.size ≤ w'.heap.size
  fr : ∀ g, g < w.heap.size → (∀ b k, h.blk b = some k → k.own = true → (ι b).g ≠ g) → w'.heap[g]? = w.heap[g]?
  own : ∀ b k, h'.blk b = some k → k.own = true → (∃ b0 k0, h.blk b0 = some k0 ∧ k0.own = true ∧ (ι b0).g = (ι' b).g) ∨ w.heap.size ≤ (ι' b).g
end
theorem Tr.refl (ι : Nat → Emb) (h : H) (w : World) : Tr ι h w ι h w :=
  ⟨Nat.le_refl _, fun _ _ => rfl, rfl, rfl, rfl, Nat.le_refl _, fun _ _ _ => rfl, fun b k hb ho => .inl ⟨b, k, hb, ho, rfl⟩⟩
theorem Tr.trans {ι ι1 ι2 : Nat → Emb} {h h1 h2 : H} {w w1 w2 : World} (a : Tr ι h w ι1 h1 w1) (b : Tr ι1 h1 w1 ι2 h2 w2) : Tr ι h w ι2 h2 w2 where
  nx := Nat.le_trans a.nx b.nx
  ext := fun i hi => (b.ext i (Nat.lt_of_lt_of_le hi a.nx)).trans (a.ext i hi)
  os := b.os.trans a.os
  tape := b.tape.trans a.tape
  output := b.output.trans a.output
  size := Nat.le_trans a.size b.size
  fr := fun g hg hn => by
    have h1 := a.fr g hg hn
    rw [← h1]
    refine b.fr g (Nat.lt_of_lt_of_le hg a.size) fun i k hi ho he => ?_
    rcases a.own i k hi ho with ⟨b0, k0, hb0, ho0, e⟩ | hge
    · exact hn b0 k0 hb0 ho0 (e.trans he)
    · omega
  own := fun i k hi ho => by
    rcases b.own i k hi ho with ⟨b0, k0, hb0, ho0, e⟩ | hge
    · rcases a.own b0 k0 hb0 ho0 with ⟨b1, k1, hb1, ho1, e1⟩ | hge
      · exact .inl ⟨b1, k1, hb1, ho1, e1.trans e⟩
      · exact .inr (e ▸ hge)
    · exact .inr (Nat.le_trans a.size hge)
/-- A draw turns nothing. -/
theorem BlkR.congr {P : Program} {ι : Nat → Emb} {n : Nat} {w w' : World} {b : Nat} {k : Blk} (h : BlkR P ι n w b k) (hw : w'.heap[(ι b).g]? = w.heap[(ι b).g]?) (hs : w.heap.size ≤ w'.heap.size) :
    BlkR P ι n w' b k := by
  unfold BlkR at *
  split
  · obtain ⟨C, E, h1, h2⟩ := h
    exact ⟨C, E, hw.trans h1, h2⟩
  · obtain ⟨h1, h2, h3⟩ := h
    refine ⟨Nat.lt_of_lt_of_le h1 hs, h2, fun i v hv => ?_⟩
    obtain ⟨v', hc, hr⟩ := h3 i v hv
    refine ⟨v', ?_, hr⟩
    rw [← hc]
    simp only [World.cell?, hw]
  · obtain ⟨es', h1, h2⟩ := h
    exact ⟨es', hw.trans h1, h2⟩
theorem BlkR.lt {P : Program} {ι : Nat → Emb} {n : Nat} {w : World} {b : Nat} {k : Blk} (h : BlkR P ι n w b k) : (ι b).g < w.heap.size := by
  have key : ∀ o : Obj, w.heap[(ι b).g]? = some o → (ι b).g < w.heap.size := fun o ho => by
    rcases Nat.lt_or_ge (ι b).g w.heap.size with h | h
    · exact h
    · rw [Array.getElem?_eq_none h] at ho; cases ho
  unfold BlkR at h
  split at h
  · obtain ⟨C, E, h1, _⟩ := h; exact key _ h1
  · exact h.1
  · obtain ⟨es', h1, _⟩ := h; exact key _ h1
theorem BlkR.mono {P : Program} {ι ι' : Nat → Emb} {n n' : Nat} {w : World} {b : Nat} {k : Blk} (h : BlkR P ι n w b k) (hn : n ≤ n') (he : ∀ b, b < n → ι' b = ι b) (hb : ι' b = ι b) :
    BlkR P ι' n' w b k := by
  unfold BlkR at *
  rw [hb]
  split
  · obtain ⟨C, E, h1, h2, h3, h4, h5⟩ := h
    exact ⟨C, E, h1, h2, h3, h4, fun i v hv => let ⟨v', a, r⟩ := h5 i v hv; ⟨v', a, r.mono hn he⟩⟩
  · obtain ⟨h1, h2, h3⟩ := h
    exact ⟨h1, h2, fun i v hv => let ⟨v', a, r⟩ := h3 i v hv; ⟨v', a, r.mono hn he⟩⟩
  · obtain ⟨es', h1, h2, h3⟩ := h
    exact ⟨es', h1, h2, fun i e e' a b => let ⟨p, q, r⟩ := h3 i e e' a b; ⟨p.mono hn he, q.mono hn he, r⟩⟩
theorem Rel.drew {P : Program} {E : Env} {ι : Nat → Emb} {h : H} {w : World} (r : Rel P E ι h w) (k : Nat) : Rel P E ι h { w with drawn := k } :=
  ⟨r.dom, fun b k hb => (r.blk b k hb).congr rfl (Nat.le_refl _), r.inj, r.ng, r.glob, r.globB, fun g k hg hk => ⟨(r.globO g k hg hk).1, (r.globO g k hg hk).2.congr rfl (Nat.le_refl _)⟩⟩
/-- A cell that the abstract heap has. -/
theorem Rel.cell {P : Program} {E : Env} {ι : Nat → Emb} {h : H} {w : World} (r : Rel P E ι h w) {b o : Nat} {v : Value} (hc : h.cell b o = some v) :
    ∃ v', w.cell? ⟨(ι b).g, (ι b).base + o, none⟩ = some v' ∧ VR ι h.nx v v' := by
  unfold H.cell at hc
  split at hc
  · rename_i c e own hb
    have hR := r.blk b _ hb
    cases own with
    | true =>
      obtain ⟨C, E, h1, _, _, _, h5⟩ := hR
      obtain ⟨v', hv', hr⟩ := h5 o v hc
      exact ⟨v', by simp [World.cell?, h1, hv'], hr⟩
    | false => exact hR.2.2 o v hc
  · cases hc
theorem Rel.rd {P : Program} {E : Env} {ι : Nat → Emb} {h : H} {w : World} (r : Rel P E ι h w) {b o n : Nat} {l : List Value} (hc : h.rd b o n = some l) :
    l.length = n ∧ ∃ l', LR ι h.nx l l' ∧ ∀ j v, l'[j]? = some v → w.cell? ⟨(ι b).g, (ι b).base + o + j, none⟩ = some v := by
  unfold H.rd at hc
  split at hc
  · rename_i c e own hb
    split at hc
    · rename_i hle
      cases hc
      have hlen : ((c.drop o).take n).length = n := by simp; omega
      refine ⟨hlen, ?_⟩
      have hcell : ∀ j, j < n → ∃ v', w.cell? ⟨(ι b).g, (ι b).base + (o + j), none⟩ = some v' ∧ VR ι h.nx (c.getD (o + j) Go.undef) v' := by
        intro j hj
        have hlt : o + j < c.length := by omega
        refine r.cell ?_
        simp [H.cell, hb, List.getD, hlt]
      have hex : ∃ f : Nat → Value, ∀ j, j < n → w.cell? ⟨(ι b).g, (ι b).base + (o + j), none⟩ = some (f j) ∧ VR ι h.nx (c.getD (o + j) Go.undef) (f j) := by
        refine ⟨fun j => if hj : j < n then (hcell j hj).choose else Go.undef, fun j hj => ?_⟩
        simp only [hj, dif_pos]
        exact (hcell j hj).choose_spec
      obtain ⟨f, hf⟩ := hex
      refine ⟨(List.range n).map f, ⟨by simp; omega, fun i v v' hv hv' => ?_⟩, fun j v hv => ?_⟩
      · simp only [List.getElem?_map] at hv'
        have hi : i < n := by
          rcases Nat.lt_or_ge i n with h | h
          · exact h
          · rw [List.getElem?_eq_none (by simpa using h)] at hv'; cases hv'
        rw [List.getElem?_range hi] at hv'
        simp at hv'
        subst hv'
        have := (hf i hi).2
        rw [List.getElem?_take_of_lt hi, List.getElem?_drop] at hv
        simpa [List.getD, hv] using this
      · simp only [List.getElem?_map] at hv
        have hi : j < n := by
          rcases Nat.lt_or_ge j n with h | h
          · exact h
          · rw [List.getElem?_eq_none (by simpa using h)] at hv; cases hv
        rw [List.getElem?_range hi] at hv
        simp at hv
        subst hv
        have := (hf j hi).1
        rw [Nat.add_assoc]
        exact this
    · cases hc
  · cases hc
end Go.AM
namespace Go.AM
section
variable {P : Program} {E : Env} {ι : Nat → Emb} {h : H} {w : World}
/-- A new block. -/
def Emb.new (ι : Nat → Emb) (n : Nat) (e : Emb) : Nat → Emb := fun b => if b = n then e else ι b
theorem Emb.new_at (ι : Nat → Emb) (n : Nat) (e : Emb) : Emb.new ι n e n = e := by simp [Emb.new]
theorem Emb.new_lt (ι : Nat → Emb) (n : Nat) (e : Emb) {b : Nat} (hb : b < n) : Emb.new ι n e b = ι b := by simp [Emb.new, Nat.ne_of_lt hb]
theorem heap_push_lt (w : World) (o : Obj) {k : Nat} (hk : k < w.heap.size) : (w.alloc o).heap[k]? = w.heap[k]? := by
  show (w.heap.push o)[k]? = _
  rw [Array.getElem?_push, if_neg (by omega)]
theorem heap_push_at (w : World) (o : Obj) : (w.alloc o).heap[w.heap.size]? = some o := by
  show (w.heap.push o)[w.heap.size]? = _
  rw [Array.getElem?_push, if_pos rfl]
theorem heap_push_size (w : World) (o : Obj) : (w.alloc o).heap.size = w.heap.size + 1 := by
  show (w.heap.push o).size = _
  simp
/-- A new block of whatever kind. -/
theorem Rel.alloc (r : Rel P E ι h w) (k : Blk) (o : Obj) (e : Emb) (he : e.g = w.heap.size)
    (hb : BlkR P (Emb.new ι h.nx e) (h.nx + 1) (w.alloc o) h.nx k) :
    Tr ι h w (Emb.new ι h.nx e) (h.new k) (w.alloc o) ∧ Rel P E (Emb.new ι h.nx e) (h.new k) (w.alloc o) := by
  have hlt : ∀ {b}, b < h.nx → Emb.new ι h.nx e b = ι b := fun hb => Emb.new_lt ι _ e hb
  have hsz : w.heap.size ≤ (w.alloc o).heap.size := by rw [heap_push_size]; omega
  have hold : ∀ b k', h.blk b = some k' → (ι b).g < w.heap.size := fun b k' hb => (r.blk b k' hb).lt
  refine ⟨⟨by simp [H.new], fun b hb => hlt hb, rfl, rfl, rfl, hsz, fun g hg _ => heap_push_lt w o hg, fun b k' hb' ho => ?_⟩, ⟨?_, ?_, ?_, ?_, ?_, ?_, ?_⟩⟩
  · simp only [H.new] at hb'
    split at hb'
    · rename_i hbn
      subst hbn
      exact .inr (by rw [Emb.new_at, he]; exact Nat.le_refl _)
    · exact .inl ⟨b, k', hb', ho, by rw [hlt (r.dom b k' hb')]⟩
  · intro b k' hb'
    simp only [H.new] at hb' ⊢
    split at hb'
    · omega
    · have := r.dom b k' hb'; omega
  · intro b k' hb'
    simp only [H.new] at hb' ⊢
    split at hb'
    · rename_i hbn; subst hbn; cases hb'; exact hb
    · have hbl := r.dom b k' hb'
      have h1 := (r.blk b k' hb').mono (Nat.le_succ h.nx) (fun b hb => hlt hb) (hlt hbl)
      exact h1.congr (by rw [hlt hbl]; exact heap_push_lt w o (hold b k' hb')) hsz
  · intro b b' k1 k2 h1 h2 hne ho
    simp only [H.new] at h1 h2
    split at h1 <;> split at h2
    · omega
    · rename_i e1 e2
      subst e1
      rw [Emb.new_at, hlt (r.dom b' k2 h2), he]
      exact Nat.ne_of_gt (hold b' k2 h2)
    · rename_i e1 e2
      subst e2
      rw [Emb.new_at, hlt (r.dom b k1 h1), he]
      exact Nat.ne_of_lt (hold b k1 h1)
    · rw [hlt (r.dom b k1 h1), hlt (r.dom b' k2 h2)]
      exact r.inj b b' k1 k2 h1 h2 hne ho
  · simp only [H.new]; exact Nat.le_succ_of_le r.ng
  · intro g hg
    rw [hlt (Nat.lt_of_lt_of_le hg r.ng)]
    exact r.glob g hg
  · intro g hg
    simp only [H.new]
    rw [if_neg (by have := r.ng; omega)]
    exact r.globB g hg
  · intro g k' hg hk'
    obtain ⟨h1, h2⟩ := r.globO g k' hg hk'
    have hgl := Nat.lt_of_lt_of_le hg r.ng
    refine ⟨h1, ?_⟩
    have h3 := h2.mono (Nat.le_refl _) (fun b hb => hlt (Nat.lt_of_lt_of_le hb r.ng)) (hlt hgl)
    exact h3.congr (by rw [hlt hgl]; exact heap_push_lt w o h2.lt) hsz
/-- A new row: each cell stands for one. -/
theorem Rel.row (r : Rel P E ι h w) (c : List Value) (C : Array Value) (t T : TypeId) (s : Nat) (hs : size? P t = some s) (hl : c.length ≤ C.size)
    (hv : ∀ (i : Nat) (v : Value), c[i]? = some v → ∃ v', C[i]? = some v' ∧ VR ι h.nx v v') :
    ∃ ι', Tr ι h w ι' (h.new (.row c t true)) (w.alloc (.cells C T (0, 0))) ∧ Rel P E ι' (h.new (.row c t true)) (w.alloc (.cells C T (0, 0))) ∧
      ι' h.nx = ⟨w.heap.size, 0, C.size, s⟩ := by
  refine ⟨Emb.new ι h.nx ⟨w.heap.size, 0, C.size, s⟩, ?_⟩
  have := r.alloc (.row c t true) (.cells C T (0, 0)) ⟨w.heap.size, 0, C.size, s⟩ rfl ?_
  · exact ⟨this.1, this.2, Emb.new_at _ _ _⟩
  · refine ⟨C, T, ?_, ?_, ?_, ?_, ?_⟩
    · rw [Emb.new_at]; exact heap_push_at w _
    · rw [Emb.new_at]; exact hs
    · rw [Emb.new_at]; exact hl
    · rw [Emb.new_at]; simp
    · intro i v hi
      obtain ⟨v', h1, h2⟩ := hv i v hi
      exact ⟨v', by rw [Emb.new_at]; simpa using h1, h2.mono (Nat.le_succ _) (fun b hb => Emb.new_lt _ _ _ hb)⟩
/-- One block of one's own is laid anew in its place; another block id may stand for it from now on. -/
theorem Rel.upd (r : Rel P E ι h w) {b : Nat} {k : Blk} (hb : h.blk b = some k) (ho : k.own = true) (h' : H) (ι' : Nat → Emb) (w' : World) (b' : Nat) (k' : Blk)
    (hh : ∀ i, h'.blk i = if i = b' then some k' else if i = b then none else h.blk i) (hn : h.nx ≤ h'.nx) (hb' : b' < h'.nx) (hbb : b' = b ∨ h.nx ≤ b')
    (hι : ∀ i, i < h.nx → ι' i = ι i) (hg : (ι' b').g = (ι b).g) (hsz : w'.heap.size = w.heap.size) (hw : ∀ g, g ≠ (ι b).g → w'.heap[g]? = w.heap[g]?)
    (hos : w'.os = w.os) (htp : w'.tape = w.tape) (hout : w'.output = w.output) (hR : BlkR P ι' h'.nx w' b' k') :
    Tr ι h w ι' h' w' ∧ Rel P E ι' h' w' := by
  have hbl := r.dom b k hb
  have hother : ∀ i j, h'.blk i = some j → i ≠ b' → i ≠ b ∧ h.blk i = some j := by
    intro i j hi hne
    rw [hh, if_neg hne] at hi
    split at hi
    · cases hi
    · exact ⟨by assumption, hi⟩
  have hgne : ∀ i j, h.blk i = some j → i ≠ b → (ι i).g ≠ (ι b).g := fun i j hi hne he => r.inj b i k j hb hi (Ne.symm hne) ho he.symm
  have hnown : ∀ g k2, g < E.NG → E.G g = some k2 → g ≠ b := by
    intro g k2 hgl hG he
    subst he
    have h1 := r.globB g hgl
    rw [hG, hb] at h1
    cases h1
    rw [(r.globO g k hgl hG).1] at ho
    cases ho
  refine ⟨⟨hn, hι, hos, htp, hout, Nat.le_of_eq hsz.symm, fun g hgl hno => hw g fun he => hno b k hb ho he.symm, fun i j hi hjo => ?_⟩, ⟨?_, ?_, ?_, ?_, ?_, ?_, ?_⟩⟩
  · by_cases hib : i = b'
    · subst hib; exact .inl ⟨b, k, hb, ho, hg.symm⟩
    · obtain ⟨h1, h2⟩ := hother i j hi hib
      exact .inl ⟨i, j, h2, hjo, by rw [hι i (r.dom i j h2)]⟩
  · intro i j hi
    by_cases hib : i = b'
    · subst hib; exact hb'
    · exact Nat.lt_of_lt_of_le (r.dom i j (hother i j hi hib).2) hn
  · intro i j hi
    by_cases hib : i = b'
    · subst hib
      rw [hh, if_pos rfl] at hi
      cases hi
      exact hR
    · obtain ⟨h1, h2⟩ := hother i j hi hib
      have hil := r.dom i j h2
      exact ((r.blk i j h2).mono hn hι (hι i hil)).congr (by rw [hι i hil]; exact hw _ (hgne i j h2 h1)) (Nat.le_of_eq hsz.symm)
  · intro i i2 j j2 hi hi2 hne hjo
    by_cases e1 : i = b' <;> by_cases e2 : i2 = b'
    · omega
    · subst e1
      obtain ⟨h1, h2⟩ := hother i2 j2 hi2 e2
      rw [hg, hι i2 (r.dom i2 j2 h2)]
      exact (hgne i2 j2 h2 h1).symm
    · subst e2
      obtain ⟨h1, h2⟩ := hother i j hi e1
      rw [hg, hι i (r.dom i j h2)]
      exact hgne i j h2 h1
    · obtain ⟨h1, h2⟩ := hother i j hi e1
      obtain ⟨h3, h4⟩ := hother i2 j2 hi2 e2
      rw [hι i (r.dom i j h2), hι i2 (r.dom i2 j2 h4)]
      exact r.inj i i2 j j2 h2 h4 hne hjo
  · exact Nat.le_trans r.ng hn
  · intro g hgl
    rw [hι g (Nat.lt_of_lt_of_le hgl r.ng)]
    exact r.glob g hgl
  · intro g hgl
    have hgn := Nat.lt_of_lt_of_le hgl r.ng
    cases hG : E.G g with
    | none =>
      have h1 := r.globB g hgl
      rw [hG] at h1
      rw [hh]
      have h2 : g ≠ b := fun e => by subst e; rw [h1] at hb; cases hb
      rw [if_neg (by rcases hbb with e | e <;> omega), if_neg h2, h1]
    | some k2 =>
      have h2 := hnown g k2 hgl hG
      rw [hh, if_neg (by rcases hbb with e | e <;> omega), if_neg h2, r.globB g hgl, hG]
  · intro g k2 hgl hG
    obtain ⟨h1, h2⟩ := r.globO g k2 hgl hG
    have hgn := Nat.lt_of_lt_of_le hgl r.ng
    refine ⟨h1, ?_⟩
    have h3 := h2.mono (Nat.le_refl _) (fun i hi => hι i (Nat.lt_of_lt_of_le hi r.ng)) (hι g hgn)
    refine h3.congr ?_ (Nat.le_of_eq hsz.symm)
    rw [hι g hgn]
    have h4 := r.globB g hgl
    rw [hG] at h4
    exact hw _ (hgne g k2 h4 (hnown g k2 hgl hG))
theorem setRow_size (w : World) (g : Nat) (cs : Array Value) : (w.setRow g cs).heap.size = w.heap.size := by simp [World.setRow]
/-- A row of one's own is written. -/
theorem Rel.set (r : Rel P E ι h w) {b : Nat} {c c' : List Value} {e : TypeId} (hb : h.blk b = some (.row c e true)) {C : Array Value} {T : TypeId}
    (hC : w.heap[(ι b).g]? = some (.cells C T (0, 0))) (C' : Array Value) (hsz : C'.size = C.size) (hl : c'.length ≤ (ι b).lim)
    (hv : ∀ (i : Nat) (v : Value), c'[i]? = some v → ∃ v', C'[(ι b).base + i]? = some v' ∧ VR ι h.nx v v') :
    Tr ι h w ι (h.set b (.row c' e true)) (w.setRow (ι b).g C') ∧ Rel P E ι (h.set b (.row c' e true)) (w.setRow (ι b).g C') := by
  have hR := r.blk b _ hb
  obtain ⟨C0, T0, h1, h2, h3, h4, h5⟩ := hR
  rw [hC] at h1
  cases h1
  refine r.upd hb rfl _ ι _ b (.row c' e true) (fun i => ?_) (Nat.le_refl _) (r.dom b _ hb) (.inl rfl) (fun _ _ => rfl) rfl (setRow_size _ _ _) (fun g hg => setRow_other w _ _ _ hg) rfl rfl rfl ?_
  · simp only [H.set]
    split <;> rfl
  · refine ⟨C', T, setRow_heap w _ _ _ _ _ hC, h2, hl, by rw [hsz]; exact h4, fun i v hi => ?_⟩
    exact hv i v hi
end
end Go.AM
namespace Go.AM
section
variable {P : Program}
theorem run_sizeOf' {t : TypeId} {n : Nat} (h : size? P t = some n) (w : World) : (sizeOf t).run P w = .ok n w := by
  unfold size? at h
  cases hi : P.info? t with
  | none => rw [hi] at h; cases h
  | some i => rw [hi] at h; simp at h; simp [sizeOf, typeInfo, hi, h]
theorem run_typeInfo {t : TypeId} {i : TypeInfo} (h : P.info? t = some i) (w : World) : (typeInfo t).run P w = .ok i w := by
  simp [typeInfo, h]
theorem run_zero {t : TypeId} {z : Value} (h : zero? P t = some z) (w : World) : (zeroValue t).run P w = .ok z w := by
  unfold zero? at h
  cases hi : P.info? t with
  | none => rw [hi] at h; cases h
  | some i =>
    rw [hi] at h
    simp only [Option.bind_some] at h
    cases hz : i.zero with
    | none => rw [hz] at h; cases h
    | some z' =>
      rw [hz] at h
      simp only [Option.bind_some] at h
      split at h
      · cases h; simp [zeroValue, typeInfo, hi, hz]
      · cases h
theorem closedV_rel {ι : Nat → Emb} {n : Nat} : ∀ (d : Nat) (v : Value), closedV d v = true → VR ι n v v := by
  intro d
  induction d with
  | zero =>
    intro v h
    unfold closedV at h
    split at h <;> first | (cases h; done) | (exfalso; omega) | constructor
  | succ d ih =>
    intro v h
    unfold closedV at h
    split at h
    case h_9 =>
      rename_i cs _ e
      cases e
      exact .agg rfl fun i v v' hv hv' => by
        rw [hv] at hv'; cases hv'
        exact ih v (List.all_eq_true.1 h v (by simpa using Array.mem_of_getElem? hv))
    case h_10 =>
      rename_i cs _ e
      cases e
      exact .tuple rfl fun i v v' hv hv' => by
        rw [hv] at hv'; cases hv'
        exact ih v (List.all_eq_true.1 h v (by simpa using Array.mem_of_getElem? hv))
    all_goals first | (cases h; done) | constructor
theorem zero_rel {ι : Nat → Emb} {n : Nat} {t : TypeId} {z : Value} (h : zero? P t = some z) : VR ι n z z := by
  unfold zero? at h
  cases hi : P.info? t with
  | none => rw [hi] at h; cases h
  | some i =>
    rw [hi] at h
    simp only [Option.bind_some] at h
    cases hz : i.zero with
    | none => rw [hz] at h; cases h
    | some z' =>
      rw [hz] at h
      simp only [Option.bind_some] at h
      split at h
      · rename_i hc; cases h; exact closedV_rel 5 _ hc
      · cases h
theorem run_isAgg' {t : TypeId} {g : Bool} (h : aggT P t = some g) (w : World) : (isAgg t).run P w = .ok g w := by
  unfold aggT at h
  cases hu : P.underlying t with
  | none => rw [hu] at h; cases h
  | some d =>
    rw [hu] at h
    simp only [Option.map_some, Option.some.injEq] at h
    simp only [isAgg, Sem.run_bind, run_underlying hu, Result.andThen_ok]
    subst h
    cases d <;> rfl
theorem addr_add (b o k : Nat) : (⟨b, o, none⟩ : Addr).add k = ⟨b, o + k, none⟩ := by
  unfold Addr.add
  split
  · rename_i h; subst h; rfl
  · rfl
theorem bind_some {α β : Type} {x : Option α} {f : α → Option β} {b : β} (h : x.bind f = some b) : ∃ a, x = some a ∧ f a = some b := by
  cases x with
  | none => cases h
  | some a => exact ⟨a, rfl, h⟩
theorem map_some {α β : Type} {x : Option α} {f : α → β} {b : β} (h : x.map f = some b) : ∃ a, x = some a ∧ f a = b := by
  cases x with
  | none => cases h
  | some a => exact ⟨a, rfl, by simpa using h⟩
variable {E : Env} {ι : Nat → Emb} {h : H} {w : World}
theorem load_run (r : Rel P E ι h w) {t : TypeId} {x x' v : Value} (hx : VR ι h.nx x x') (hl : load P t x h = some v) :
    ∃ v', (Instr.loadAt t x').run P w = .ok v' w ∧ VR ι h.nx v v' := by
  unfold load at hl
  split at hl
  · rename_i b o
    cases hx
    simp only [Instr.loadAt, Instr.sureAddr, Sem.run_bind, Sem.run_pure, Result.andThen_ok, loadVar]
    cases ha : aggT P t with
    | none => rw [ha] at hl; cases hl
    | some g =>
      rw [ha] at hl
      simp only [run_isAgg' ha, Result.andThen_ok]
      cases g with
      | true =>
        obtain ⟨n, hn, hl⟩ := bind_some hl
        obtain ⟨l, hr, rfl⟩ := map_some hl
        obtain ⟨h1, l', h2, h3⟩ := r.rd hr
        simp only [if_true, Sem.run_bind, run_sizeOf' hn, Result.andThen_ok]
        have hrun := run_loadCells_list (P := P) w ⟨(ι b).g, (ι b).base + o, none⟩ l' (fun j v hv => by rw [addr_add]; exact h3 j v hv)
        rw [← h2.1, h1] at hrun
        simp only [hrun, Result.andThen_ok, Sem.run_pure]
        exact ⟨_, rfl, .agg h2.toArray.1 h2.toArray.2⟩
      | false =>
        obtain ⟨v', h1, h2⟩ := r.cell hl
        simp only [Bool.false_eq_true, if_false, run_load, h1]
        exact ⟨v', rfl, h2⟩
  · cases hl
theorem part_run {t : TypeId} {n : Nat} {cs cs' : Array Value} (hc : AR ι n cs cs') {off : Nat} {v : Value} (hl : part P t cs off = some v) :
    ∃ v', (∀ w, (Go.part t cs' off).run P w = .ok v' w) ∧ VR ι n v v' := by
  unfold part at hl
  cases ha : aggT P t with
  | none => rw [ha] at hl; cases hl
  | some g =>
    rw [ha] at hl
    cases g with
    | true =>
      obtain ⟨k, hk, rfl⟩ := map_some hl
      refine ⟨.agg (cs'.extract off (off + k)), fun w => ?_, .agg ?_ ?_⟩
      · simp only [Go.part, Sem.run_bind, run_isAgg' ha, Result.andThen_ok, if_true, run_sizeOf' hk, Sem.run_pure]
      · simp [hc.1]
      · intro i v v' hv hv'
        rw [Array.getElem?_extract] at hv hv'
        split at hv
        · split at hv'
          · exact hc.2 _ v v' hv hv'
          · cases hv'
        · cases hv
    | false =>
      simp only at hl
      obtain ⟨v', h1, h2⟩ := hc.get hl
      refine ⟨v', fun w => ?_, h2⟩
      simp only [Go.part, Sem.run_bind, run_isAgg' ha, Result.andThen_ok, Bool.false_eq_true, if_false, h1, Sem.run_pure]
theorem fieldAddr_run {n : Nat} {s : TypeId} {x x' v : Value} {f : Nat} (hx : VR ι n x x') (hl : fieldAddr P s x f = some v) (w : World) :
    ∃ v', (Instr.fieldAt s x' f).run P w = .ok v' w ∧ VR ι n v v' := by
  unfold fieldAddr at hl
  split at hl
  · rename_i fs b o hu
    obtain ⟨f', hf, hl⟩ := bind_some hl
    obtain ⟨k, hk, hl⟩ := bind_some hl
    split at hl
    · cases hl
    · rename_i hk0
      cases hl
      cases hx
      rename_i hb
      refine ⟨_, ?_, .ptr hb⟩
      simp only [Instr.fieldAt, Sem.run_bind, run_underlying hu, Result.andThen_ok, hf, Instr.sureAddr, Sem.run_pure, fieldPlace, run_sizeOf' hk, hk0, if_false, addr_add,
        Nat.add_assoc]
  · cases hl
theorem field_run {n : Nat} {t : TypeId} {x x' v : Value} {f : Nat} (hx : VR ι n x x') (hl : field P t x f = some v) (w : World) :
    ∃ v', (Instr.field t x' f).run P w = .ok v' w ∧ VR ι n v v' := by
  unfold field at hl
  split at hl
  · rename_i fs cs hu
    obtain ⟨f', hf, hl⟩ := bind_some hl
    cases hx
    rename_i xs' h1 h2
    obtain ⟨v', hr, hv⟩ := part_run (P := P) (ι := ι) (n := n) (cs := cs) (cs' := xs') ⟨h1, h2⟩ hl
    refine ⟨v', ?_, hv⟩
    simp only [Instr.field, Sem.run_bind, run_underlying hu, Result.andThen_ok, hf, asAgg, Sem.run_pure, hr]
  · cases hl
theorem indexAddr_run {n : Nat} {t : TypeId} {x x' i i' v : Value} (hx : VR ι n x x') (hi : VR ι n i i') (hl : indexAddr P t x i = some v) (w : World) :
    ∃ v', (Instr.indexAt t x' i').run P w = .ok v' w ∧ VR ι n v v' := by
  unfold indexAddr at hl
  split at hl
  · rename_i e b o l c k j hu
    split at hl
    · rename_i hj
      obtain ⟨s, hs, rfl⟩ := map_some hl
      cases hi
      cases hx with
      | sl hb hc hk hlim =>
        refine ⟨_, ?_, .ptr hb⟩
        simp only [Instr.indexAt, asIntOf, Sem.run_bind, Sem.run_pure, run_underlying hu, Result.andThen_ok]
        rw [if_pos (by exact hj)]
        simp only [Sem.run_bind, run_sizeOf' hs, Result.andThen_ok, Sem.run_pure, addr_add, Nat.add_assoc]
      | sl0 hb hc => simp at hj; omega
    · cases hl
  · rename_i m e b o k j hu
    split at hl
    · rename_i hj
      obtain ⟨s, hs, rfl⟩ := map_some hl
      cases hi
      cases hx with
      | ptr hb =>
        refine ⟨_, ?_, .ptr hb⟩
        simp only [Instr.indexAt, asIntOf, Sem.run_bind, Sem.run_pure, run_underlying hu, Result.andThen_ok, Instr.sureAddr]
        rw [if_pos (by exact hj)]
        simp only [Sem.run_bind, run_sizeOf' hs, Result.andThen_ok, Sem.run_pure, addr_add, Nat.add_assoc]
    · cases hl
  · cases hl
theorem index_run {n : Nat} {t : TypeId} {x x' i i' v : Value} (hx : VR ι n x x') (hi : VR ι n i i') (hl : index P t x i = some v) (w : World) :
    ∃ v', (Instr.index t x' i').run P w = .ok v' w ∧ VR ι n v v' := by
  unfold index at hl
  split at hl
  · rename_i m e cs k j hu
    split at hl
    · rename_i hj
      obtain ⟨s, hs, hl⟩ := bind_some hl
      cases hi
      cases hx
      rename_i xs' h1 h2
      obtain ⟨v', hr, hv⟩ := part_run (P := P) (ι := ι) (n := n) (cs := cs) (cs' := xs') ⟨h1, h2⟩ hl
      refine ⟨v', ?_, hv⟩
      simp only [Instr.index, asIntOf, Sem.run_bind, Sem.run_pure, run_underlying hu, Result.andThen_ok]
      rw [if_pos (by exact hj)]
      simp only [Sem.run_bind, run_sizeOf' hs, Result.andThen_ok, hr]
    · cases hl
  · cases hl
theorem convert_run {n : Nat} {s d : TypeId} {x x' v : Value} (hx : VR ι n x x') (hl : convert P s d x = some v) (w : World) :
    ∃ v', (Go.convert s d x').run P w = .ok v' w ∧ VR ι n v v' := by
  unfold convert at hl
  split at hl
  · rename_i u k k' m h1 h2
    cases hl
    cases hx
    refine ⟨_, ?_, .int _ _⟩
    simp only [Go.convert, Sem.run_bind, run_underlying h1, run_underlying h2, Result.andThen_ok, Conv.intToInt, Sem.run_pure]
  · cases hl
theorem unOp_run {n : Nat} {op : UnOp} {x x' v : Value} (hx : VR ι n x x') (hl : unOp op x = some v) (w : World) :
    ∃ v', (Op.unary op x').run P w = .ok v' w ∧ VR ι n v v' := by
  unfold unOp at hl
  split at hl
  · cases hl; cases hx; exact ⟨_, by simp [Op.unary, Op.intArith], .int _ _⟩
  · rename_i k m
    cases hx
    simp only [intBin] at hl
    cases hl
    exact ⟨_, by simp [Op.unary, Op.intBits], .int _ _⟩
  · cases hl; cases hx; exact ⟨_, by simp [Op.unary], .bool _⟩
  · cases hl
theorem intBin_run {op : BinOp} {k : IntKind} {a b : Int} {v : Value} (hl : intBin op k a b = some v) (w : World) {T : TypeId} :
    (Go.binOp op T (.int k a) (.int k b)).run P w = .ok v w ∧ ∀ n, VR ι n v v := by
  cases op <;> simp only [intBin] at hl
  case quo =>
    split at hl
    · cases hl
    · cases hl; rename_i hb; exact ⟨by simp [Go.binOp, Op.intDiv, hb], fun n => .int _ _⟩
  case rem =>
    split at hl
    · cases hl
    · cases hl; rename_i hb; exact ⟨by simp [Go.binOp, Op.intDiv, hb], fun n => .int _ _⟩
  all_goals first
    | (cases hl; done)
    | (cases hl; exact ⟨by simp [Go.binOp, Op.intArith, Op.intBits, Op.intCmp], fun n => by first | exact .int _ _ | exact .bool _⟩)
end
end Go.AM
namespace Go.AM
section
variable {P : Program} {ι : Nat → Emb} {n : Nat}
/-- The fields of two structs, one after the other. -/
theorem run_eqFields (d : Nat) (w : World) (ih : ∀ (t : TypeId) (x x' y y' : Value) (q : Bool), eqV P d t x y = some q → VR ι n x x' → VR ι n y y' → ∀ D, d ≤ D → (Op.equalIn D t x' y').run P w = .ok q w)
    {xs xs' ys ys' : Array Value} (hx : AR ι n xs xs') (hy : AR ι n ys ys') (D : Nat) (hD : d ≤ D) : ∀ (fs : List Field) (q : Bool),
    fs.foldr (fun f r => if f.name ≠ "_" then
          (part P f.type xs f.offset).bind fun a => (part P f.type ys f.offset).bind fun b =>
            (eqV P d f.type a b).bind fun q => if q then r else some false
        else none) (some true) = some q →
    (forIn fs ((none : Option Bool), PUnit.unit) (fun (f : Field) (_ : Option Bool × PUnit) =>
      if f.name ≠ "_" then do
        let a ← Go.part f.type xs' f.offset
        let b ← Go.part f.type ys' f.offset
        let q ← Op.equalIn D f.type a b
        if (!q) = true then pure (ForInStep.done ((some false : Option Bool), PUnit.unit)) else pure (ForInStep.yield ((none : Option Bool), PUnit.unit))
      else pure (ForInStep.yield ((none : Option Bool), PUnit.unit))) : Sem (Option Bool × PUnit)).run P w = .ok (if q then none else some false, PUnit.unit) w := by
  intro fs
  induction fs with
  | nil => intro q hq; cases hq; rfl
  | cons f fs ihf =>
    intro q hq
    simp only [List.foldr_cons] at hq
    split at hq
    · rename_i hn
      obtain ⟨a, ha, hq⟩ := bind_some hq
      obtain ⟨b, hb, hq⟩ := bind_some hq
      obtain ⟨p, hp, hq⟩ := bind_some hq
      obtain ⟨a', ra, va⟩ := part_run hx ha
      obtain ⟨b', rb, vb⟩ := part_run hy hb
      have hrun := ih f.type a a' b b' p hp va vb D hD
      simp only [List.forIn_cons]
      rw [if_pos hn]
      simp only [Sem.run_bind, ra w, rb w, Result.andThen_ok, hrun]
      cases p with
      | true => simp only [Bool.not_true, Bool.false_eq_true, if_false, Sem.run_pure, Result.andThen_ok]; exact ihf q hq
      | false =>
        have hq' : false = q := by simpa using hq
        subst hq'
        rfl
    · cases hq
theorem run_eqElems (d : Nat) (w : World) (ih : ∀ (t : TypeId) (x x' y y' : Value) (q : Bool), eqV P d t x y = some q → VR ι n x x' → VR ι n y y' → ∀ D, d ≤ D → (Op.equalIn D t x' y').run P w = .ok q w)
    {xs xs' ys ys' : Array Value} (hx : AR ι n xs xs') (hy : AR ι n ys ys') (D : Nat) (hD : d ≤ D) (e : TypeId) (s : Nat) : ∀ (is : List Nat) (q : Bool),
    is.foldr (fun i r =>
          (part P e xs (i * s)).bind fun a => (part P e ys (i * s)).bind fun b =>
            (eqV P d e a b).bind fun q => if q then r else some false) (some true) = some q →
    (forIn is ((none : Option Bool), PUnit.unit) (fun (i : Nat) (_ : Option Bool × PUnit) => do
        let a ← Go.part e xs' (i * s)
        let b ← Go.part e ys' (i * s)
        let q ← Op.equalIn D e a b
        if (!q) = true then pure (ForInStep.done ((some false : Option Bool), PUnit.unit)) else pure (ForInStep.yield ((none : Option Bool), PUnit.unit))) : Sem (Option Bool × PUnit)).run P w
      = .ok (if q then none else some false, PUnit.unit) w := by
  intro is
  induction is with
  | nil => intro q hq; cases hq; rfl
  | cons i is ihf =>
    intro q hq
    simp only [List.foldr_cons] at hq
    obtain ⟨a, ha, hq⟩ := bind_some hq
    obtain ⟨b, hb, hq⟩ := bind_some hq
    obtain ⟨p, hp, hq⟩ := bind_some hq
    obtain ⟨a', ra, va⟩ := part_run hx ha
    obtain ⟨b', rb, vb⟩ := part_run hy hb
    have hrun := ih e a a' b b' p hp va vb D hD
    simp only [List.forIn_cons, Sem.run_bind, ra w, rb w, Result.andThen_ok, hrun]
    cases p with
    | true => simp only [Bool.not_true, Bool.false_eq_true, if_false, Sem.run_pure, Result.andThen_ok]; exact ihf q hq
    | false =>
      have hq' : false = q := by simpa using hq
      subst hq'
      rfl
theorem eqV_run (w : World) : ∀ (d : Nat) (t : TypeId) (x x' y y' : Value) (q : Bool), eqV P d t x y = some q → VR ι n x x' → VR ι n y y' →
    ∀ D, d ≤ D → (Op.equalIn D t x' y').run P w = .ok q w := by
  intro d
  induction d with
  | zero => intro t x x' y y' q h; cases h
  | succ d ih =>
    intro t x x' y y' q hq hx hy D hD
    obtain ⟨D, rfl⟩ : ∃ k, D = k + 1 := ⟨D - 1, by omega⟩
    have hD' : d ≤ D := by omega
    unfold eqV at hq
    split at hq
    · rename_i hu; cases hq; cases hx; cases hy
      simp only [Op.equalIn, Sem.run_bind, run_underlying hu, Result.andThen_ok, Sem.run_pure]
    · rename_i hu
      split at hq
      · cases hq; cases hx; cases hy
        rename_i hk
        simp only [Op.equalIn, Sem.run_bind, run_underlying hu, Result.andThen_ok, hk, if_true, Sem.run_pure]
      · cases hq
    · rename_i fs xs ys hu
      split at hq
      · cases hq
      · rename_i hst
        cases hx with
        | agg h1 h2 =>
          cases hy with
          | agg h3 h4 =>
            have := run_eqFields (P := P) (ι := ι) (n := n) d w ih ⟨h1, h2⟩ ⟨h3, h4⟩ D hD' fs.toList q hq
            simp only [Op.equalIn, Sem.run_bind, run_underlying hu, Result.andThen_ok, run_program, hst, Bool.false_eq_true, if_false]
            rw [← Array.forIn_toList]
            simp only [ne_eq] at this ⊢
            rw [this]
            cases q <;> rfl
    · rename_i len e xs ys hu
      obtain ⟨s, hs, hq⟩ := bind_some hq
      cases hx with
      | agg h1 h2 =>
        cases hy with
        | agg h3 h4 =>
          have := run_eqElems (P := P) (ι := ι) (n := n) d w ih ⟨h1, h2⟩ ⟨h3, h4⟩ D hD' e s (List.range len) q hq
          simp only [Op.equalIn, Sem.run_bind, run_underlying hu, Result.andThen_ok, run_sizeOf' hs]
          simp only [Std.Legacy.Range.forIn_eq_forIn_range', Std.Legacy.Range.size, Nat.sub_zero, Nat.add_one_sub_one, Nat.div_one]
          rw [← List.range_eq_range']
          rw [this]
          cases q <;> rfl
    · rename_i hu; cases hq; cases hx; cases hy <;>
        simp [Op.equalIn, Sem.run_bind, run_underlying hu, Result.andThen_ok, Sem.run_pure]
    · rename_i hu; cases hq; cases hy; cases hx <;>
        simp [Op.equalIn, Sem.run_bind, run_underlying hu, Result.andThen_ok, Sem.run_pure]
    · rename_i hu; cases hq; cases hx; cases hy <;>
        simp [Op.equalIn, Sem.run_bind, run_underlying hu, Result.andThen_ok, Sem.run_pure]
    · rename_i hu; cases hq; cases hy; cases hx <;>
        simp [Op.equalIn, Sem.run_bind, run_underlying hu, Result.andThen_ok, Sem.run_pure]
    · rename_i hu; cases hq; cases hx; cases hy
      simp [Op.equalIn, Sem.run_bind, run_underlying hu, Result.andThen_ok, Sem.run_pure]
    · rename_i hu; cases hq; cases hx; cases hy
      simp [Op.equalIn, Sem.run_bind, run_underlying hu, Result.andThen_ok, Sem.run_pure]
    · rename_i hu; cases hq; cases hx; cases hy
      simp [Op.equalIn, Sem.run_bind, run_underlying hu, Result.andThen_ok, Sem.run_pure]
    · cases hq
theorem equal_run (w : World) {t : TypeId} {x x' y y' : Value} {q : Bool} (hq : eqV P 10 t x y = some q) (hx : VR ι n x x') (hy : VR ι n y y') :
    (Op.equal t x' y').run P w = .ok q w := eqV_run w 10 t x x' y y' q hq hx hy Op.maxDepth (by unfold Op.maxDepth; omega)
end
end Go.AM
namespace Go.AM
section
variable {P : Program} {E : Env} {ι : Nat → Emb} {n : Nat}
theorem eqGuard_run (w : World) {op : BinOp} {t : TypeId} {x x' y y' v : Value} (hb : binOp P op t x y = some v) (hx : VR ι n x x') (hy : VR ι n y y') (ox oy : Operand) :
    (eqGuard op t ox oy x' y').run P w = .ok () w := by
  by_cases ho : op = .eql ∨ op = .neq
  · unfold eqGuard
    rw [if_neg (by rcases ho with rfl | rfl <;> simp)]
    cases hx <;> cases hy <;> try rfl
    · exfalso
      rcases ho with rfl | rfl
      all_goals
        simp only [binOp] at hb
        obtain ⟨q, hq, _⟩ := map_some hb
        unfold eqV at hq
        split at hq <;> simp_all
    · simp only [Sem.run_bind, run_program, Result.andThen_ok]
      simp only [binOp] at hb
      split at hb
      · cases hb
      · rename_i hg
        rw [if_pos (by simpa using hg)]
        rfl
  · cases op <;> first | exact absurd (.inl rfl) ho | exact absurd (.inr rfl) ho | rfl
theorem binOp_run (w : World) {op : BinOp} {t : TypeId} {x x' y y' v : Value} (hb : binOp P op t x y = some v) (hx : VR ι n x x') (hy : VR ι n y y') :
    ∃ v', (Go.binOp op t x' y').run P w = .ok v' w ∧ VR ι n v v' := by
  unfold binOp at hb
  split at hb
  · rename_i k a k' b
    cases hx; cases hy
    split at hb
    · split at hb
      · cases hb
      · rename_i hlt
        cases hb
        exact ⟨_, by simp only [Go.binOp, Op.shift]; rw [if_neg hlt]; rfl, .int _ _⟩
    · split at hb
      · cases hb
      · rename_i hlt
        cases hb
        exact ⟨_, by simp only [Go.binOp, Op.shift]; rw [if_neg hlt]; rfl, .int _ _⟩
    · split at hb
      · rename_i hk
        subst hk
        exact ⟨v, (intBin_run (ι := ι) hb w).1, (intBin_run (ι := ι) (P := P) hb w (T := t)).2 n⟩
      · cases hb
  · rename_i a b
    split at hb
    · cases hb
    · cases hx; cases hy
      rename_i h1 h2 _ h3 h4
      split at hb
      · obtain ⟨q, hq, rfl⟩ := map_some hb
        exact ⟨_, by simp only [Go.binOp, Sem.run_bind, equal_run w hq (.agg h1 h2) (.agg h3 h4), Result.andThen_ok, Sem.run_pure], .bool _⟩
      · obtain ⟨q, hq, rfl⟩ := map_some hb
        exact ⟨_, by simp only [Go.binOp, Sem.run_bind, equal_run w hq (.agg h1 h2) (.agg h3 h4), Result.andThen_ok, Sem.run_pure], .bool _⟩
      · cases hb
  · rename_i hni hna
    split at hb
    · obtain ⟨q, hq, rfl⟩ := map_some hb
      have he := equal_run w hq hx hy
      refine ⟨.bool q, ?_, .bool _⟩
      have : Go.binOp .eql t x' y' = (do pure (.bool (← Op.equal t x' y'))) := by
        cases hx <;> cases hy <;> first | rfl | (exfalso; simp_all [eqV]; done) | (exfalso; unfold eqV at hq; split at hq <;> simp_all; done)
      rw [this]
      simp only [Sem.run_bind, he, Result.andThen_ok, Sem.run_pure]
    · obtain ⟨q, hq, rfl⟩ := map_some hb
      have he := equal_run w hq hx hy
      refine ⟨.bool (!q), ?_, .bool _⟩
      have : Go.binOp .neq t x' y' = (do pure (.bool (!(← Op.equal t x' y')))) := by
        cases hx <;> cases hy <;> first | rfl | (exfalso; simp_all [eqV]; done) | (exfalso; unfold eqV at hq; split at hq <;> simp_all; done)
      rw [this]
      simp only [Sem.run_bind, he, Result.andThen_ok, Sem.run_pure]
    · cases hb
/-- Filling a row's parts. -/
theorem foldl_set (off : Nat) : ∀ (l l' : List Value) (k : Nat) (cs cs' : Array Value), LR ι n l l' → AR ι n cs cs' →
    AR ι n ((l.zipIdx k).foldl (fun cs (cj : Value × Nat) => cs.setIfInBounds (off + cj.2) cj.1) cs) ((l'.zipIdx k).foldl (fun cs (cj : Value × Nat) => cs.setIfInBounds (off + cj.2) cj.1) cs') := by
  intro l
  induction l with
  | nil =>
    intro l' k cs cs' hl hc
    cases l' with
    | nil => exact hc
    | cons a b => exact absurd hl.1 (by simp)
  | cons x l ih =>
    intro l' k cs cs' hl hc
    obtain ⟨x', l', rfl, hx, hl⟩ := hl.uncons
    simp only [List.zipIdx_cons, List.foldl_cons]
    refine ih l' (k + 1) _ _ hl ⟨by simp [hc.1], fun i v v' hv hv' => ?_⟩
    rw [Array.getElem?_setIfInBounds] at hv hv'
    by_cases hi : off + k = i
    · rw [if_pos hi] at hv hv'
      split at hv
      · split at hv'
        · cases hv; cases hv'; exact hx
        · cases hv'
      · cases hv
    · rw [if_neg hi] at hv hv'
      exact hc.2 i v v' hv hv'
theorem fill_rel (place : Nat → Option (Nat × Nat)) (e e' : Operand → Value) : ∀ (l : List (Nat × Operand)) (cs cs' r : Array Value), (∀ p ∈ l, VR ι n (e p.2) (e' p.2)) → AR ι n cs cs' →
    Instr.fill place cs (l.map fun (i, x) => (i, e x)) = some r → ∃ r', Instr.fill place cs' (l.map fun (i, x) => (i, e' x)) = some r' ∧ AR ι n r r' := by
  intro l
  induction l with
  | nil => intro cs cs' r _ hc h; cases h; exact ⟨cs', rfl, hc⟩
  | cons p l ih =>
    intro cs cs' r he hc h
    obtain ⟨i, x⟩ := p
    simp only [List.map_cons, Instr.fill] at h ⊢
    have hx : AR ι n (e x).cells (e' x).cells := (he (i, x) (by simp)).cells
    cases hp : place i with
    | none => rw [hp] at h; cases h
    | some q =>
      obtain ⟨off, size⟩ := q
      rw [hp] at h
      simp only at h ⊢
      split at h
      · cases h
      · rename_i hc1
        rw [if_neg (by rw [← hx.1, ← hc.1]; exact hc1)]
        refine ih _ _ r (fun p hp => he p (by simp [hp])) ?_ h
        have := foldl_set (ι := ι) (n := n) off (e x).cells.toList (e' x).cells.toList 0 cs cs' hx.toList hc
        rw [← Array.foldl_toList, ← Array.foldl_toList]
        simpa [Array.toList_zipIdx] using this
theorem places_run : ∀ (fs : List Field) (ps : List (Nat × Nat)) (w : World), places P fs = some ps →
    (fs.mapM (fun f => do pure (f.offset, ← sizeOf f.type)) : Sem (List (Nat × Nat))).run P w = .ok ps w := by
  intro fs
  induction fs with
  | nil => intro ps w h; cases h; rfl
  | cons f fs ih =>
    intro ps w h
    unfold places at h ih
    simp only [List.mapM_cons] at h ⊢
    obtain ⟨a, ha, h⟩ := bind_some h
    obtain ⟨s, hs, rfl⟩ := map_some ha
    obtain ⟨as_, has, h⟩ := bind_some h
    cases h
    simp only [Sem.run_bind, run_sizeOf' hs, Result.andThen_ok, Sem.run_pure, ih as_ w has]
theorem build_run (w : World) {t : TypeId} (l : List (Nat × Operand)) (e e' : Operand → Value) {v : Value} (he : ∀ p ∈ l, VR ι n (e p.2) (e' p.2))
    (hb : build P t (l.map fun (i, x) => (i, e x)) = some v) : ∃ v', (Instr.build t (l.map fun (i, x) => (i, e' x)).toArray).run P w = .ok v' w ∧ VR ι n v v' := by
  unfold build at hb
  obtain ⟨z, hz, hb⟩ := bind_some hb
  split at hb
  · rename_i fs hu
    obtain ⟨ps, hps, hb⟩ := bind_some hb
    obtain ⟨r, hr, rfl⟩ := map_some hb
    obtain ⟨r', hr', hrr⟩ := fill_rel (ι := ι) (n := n) _ e e' l _ _ r he (VR.cells (zero_rel (ι := ι) (n := n) hz)) hr
    refine ⟨.agg r', ?_, .agg hrr.1 hrr.2⟩
    have hm : (fs.mapM (fun f => do pure (f.offset, ← sizeOf f.type)) : Sem (Array (Nat × Nat))).run P w = .ok ps.toArray w := by
      rw [Array.mapM_eq_mapM_toList]
      simp only [Sem.run_map, places_run fs.toList ps w hps, Result.andThen_ok]
    simp only [Instr.build, Sem.run_bind, run_zero hz, Result.andThen_ok, run_underlying hu, hm]
    have hpl : (fun i : Nat => ps.toArray[i]?) = (fun i : Nat => ps[i]?) := by funext i; simp
    rw [hpl, hr']
    rfl
  · rename_i m e1 hu
    obtain ⟨s, hs, hb⟩ := bind_some hb
    obtain ⟨r, hr, rfl⟩ := map_some hb
    obtain ⟨r', hr', hrr⟩ := fill_rel (ι := ι) (n := n) _ e e' l _ _ r he (VR.cells (zero_rel (ι := ι) (n := n) hz)) hr
    refine ⟨.agg r', ?_, .agg hrr.1 hrr.2⟩
    simp only [Instr.build, Sem.run_bind, run_zero hz, Result.andThen_ok, run_underlying hu, run_sizeOf' hs, hr']
    rfl
  · cases hb
end
end Go.AM
end
