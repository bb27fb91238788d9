/- Loops that leave where a test fails first; loops that find something. -/
import Derived.Test.YtphchobmencipaaDoorAmSim

namespace Go.AM

section
variable {α : Type} {F : List Value → H → Option (Ex × List Value × H)} {k : Nat} {l : List α} {h : H}

/-- A loop over a list that leaves where a test fails first; the heap stays the same. -/
theorem lp_all (enc : Nat → List Value) (ok : Nat → α → Bool) (ow : Nat → List Value) (oj : Nat) (on : List Value) {ws : List Value} (hws : enc 0 = ws) (hk : l.length < k)
    (fin : F (enc l.length) h = some (.exit oj, on, h))
    (step : ∀ i x, l[i]? = some x → F (enc i) h = if ok i x = true then some (.normal, enc (i + 1), h) else some (.ret, ow i, h)) :
    (∃ i x, l[i]? = some x ∧ ok i x = false ∧ (∀ j y, j < i → l[j]? = some y → ok j y = true) ∧ lpGo F k ws h = some (.ret, ow i, h)) ∨ ((∀ i x, l[i]? = some x → ok i x = true) ∧ lpGo F k ws h = some (.exit oj, on, h)) := by
  obtain ⟨e, ws', h', hl, hq⟩ := lpGo_inv (F := F)
    (fun d ws g => ∃ i, i + d = l.length ∧ ws = enc i ∧ g = h ∧ ∀ j y, j < i → l[j]? = some y → ok j y = true)
    (fun e ws g => (∃ i x, l[i]? = some x ∧ ok i x = false ∧ (∀ j y, j < i → l[j]? = some y → ok j y = true) ∧ e = .ret ∧ ws = ow i ∧ g = h) ∨ ((∀ i x, l[i]? = some x → ok i x = true) ∧ e = .exit oj ∧ ws = on ∧ g = h))
    (by
      rintro d ws g ⟨i, hd, rfl, rfl, hok⟩
      by_cases hd0 : d = 0
      · have hi : i = l.length := by omega
        subst hi
        exact ⟨_, _, _, fin, .inr ⟨by simp, .inr ⟨fun j y hy => hok j y (List.getElem?_eq_some_iff.1 hy).1 hy, rfl, rfl, rfl⟩⟩⟩
      · have hx := List.getElem?_eq_getElem (show i < l.length by omega)
        have hs := step i _ hx
        cases hc : ok i l[i] with
        | true =>
          rw [hc, if_pos rfl] at hs
          refine ⟨_, _, _, hs, .inl ⟨rfl, d - 1, by omega, i + 1, by omega, rfl, rfl, fun j y hj hy => ?_⟩⟩
          by_cases hji : j = i
          · subst hji
            rw [hx] at hy
            cases hy
            exact hc
          · exact hok j y (by omega) hy
        | false =>
          rw [hc, if_neg (by simp)] at hs
          exact ⟨_, _, _, hs, .inr ⟨by simp, .inl ⟨i, _, hx, hc, hok, rfl, rfl, rfl⟩⟩⟩)
    l.length k hk ⟨0, by omega, hws.symm, rfl, by simp⟩
  rcases hq with ⟨i, x, h1, h2, h3, rfl, rfl, rfl⟩ | ⟨h1, rfl, rfl, rfl⟩
  · exact .inl ⟨i, x, h1, h2, h3, hl⟩
  · exact .inr ⟨h1, hl⟩

/-- The same, where the heap may grow. -/
theorem lp_allX (enc : Nat → List Value) (ok : Nat → α → Bool) (ow : Nat → List Value) (oj : Nat) (on : List Value) {ws : List Value} (hws : enc 0 = ws) (hk : l.length < k)
    (fin : ∀ g, Ext h g → F (enc l.length) g = some (.exit oj, on, g))
    (step : ∀ i x g, l[i]? = some x → Ext h g → ∃ g', Ext g g' ∧ F (enc i) g = if ok i x = true then some (.normal, enc (i + 1), g') else some (.ret, ow i, g')) :
    ∃ h', Ext h h' ∧ ((∃ i x, l[i]? = some x ∧ ok i x = false ∧ (∀ j y, j < i → l[j]? = some y → ok j y = true) ∧ lpGo F k ws h = some (.ret, ow i, h')) ∨ ((∀ i x, l[i]? = some x → ok i x = true) ∧ lpGo F k ws h = some (.exit oj, on, h'))) := by
  obtain ⟨e, ws', h', hl, xh, hq⟩ := lpGo_inv (F := F)
    (fun d ws g => ∃ i, i + d = l.length ∧ ws = enc i ∧ Ext h g ∧ ∀ j y, j < i → l[j]? = some y → ok j y = true)
    (fun e ws g => Ext h g ∧ ((∃ i x, l[i]? = some x ∧ ok i x = false ∧ (∀ j y, j < i → l[j]? = some y → ok j y = true) ∧ e = .ret ∧ ws = ow i) ∨ ((∀ i x, l[i]? = some x → ok i x = true) ∧ e = .exit oj ∧ ws = on)))
    (by
      rintro d ws g ⟨i, hd, rfl, xg, hok⟩
      by_cases hd0 : d = 0
      · have hi : i = l.length := by omega
        subst hi
        exact ⟨_, _, _, fin g xg, .inr ⟨by simp, xg, .inr ⟨fun j y hy => hok j y (List.getElem?_eq_some_iff.1 hy).1 hy, rfl, rfl⟩⟩⟩
      · have hx := List.getElem?_eq_getElem (show i < l.length by omega)
        obtain ⟨g', x', hs⟩ := step i _ g hx xg
        cases hc : ok i l[i] with
        | true =>
          rw [hc, if_pos rfl] at hs
          refine ⟨_, _, _, hs, .inl ⟨rfl, d - 1, by omega, i + 1, by omega, rfl, xg.trans x', fun j y hj hy => ?_⟩⟩
          by_cases hji : j = i
          · subst hji
            rw [hx] at hy
            cases hy
            exact hc
          · exact hok j y (by omega) hy
        | false =>
          rw [hc, if_neg (by simp)] at hs
          exact ⟨_, _, _, hs, .inr ⟨by simp, xg.trans x', .inl ⟨i, _, hx, hc, hok, rfl, rfl⟩⟩⟩)
    l.length k hk ⟨0, by omega, hws.symm, .refl _, by simp⟩
  refine ⟨h', xh, ?_⟩
  rcases hq with ⟨i, x, h1, h2, h3, rfl, rfl⟩ | ⟨h1, rfl, rfl⟩
  · exact .inl ⟨i, x, h1, h2, h3, hl⟩
  · exact .inr ⟨h1, hl⟩

/-- On where there is nothing, and out with what is found. -/
def stO {β : Type} : Option β → Unit ⊕ β
  | none => .inl ()
  | some r => .inr r

theorem itL_find {α β : Type} {F : α → Option β} : ∀ (l : List α) (i : Nat), itL (σ := Unit) (ρ := β) (fun _ x _ => stO (F x)) l i () = stO (l.findSome? F) := by
  intro l
  induction l with
  | nil => intro i; rfl
  | cons x l ih =>
    intro i
    simp only [itL, List.findSome?_cons]
    cases F x with
    | none => exact ih _
    | some r => rfl

theorem SlR.keepB {h h' : H} {e : TypeId} {s : Nat} {v : Value} {l : List (List Value)} (a : SlR h e s v l) (hn : h.nx ≤ h'.nx) (hb : ∀ b, blkOf v = some b → h'.blk b = h.blk b) : SlR h' e s v l := by
  cases a with
  | nil => exact .nil
  | at_ hb' hr hk hc hl hx => exact .at_ (Nat.lt_of_lt_of_le hb' hn) ((hb _ rfl).trans hr) hk hc hl hx

theorem range_get {n i x : Nat} (h : (List.range n)[i]? = some x) : i < n ∧ x = i := by
  have hi := (List.getElem?_eq_some_iff.1 h).1
  rw [List.length_range] at hi
  rw [List.getElem?_range hi] at h
  cases h
  exact ⟨hi, rfl⟩

theorem same_self (h : H) : same h h = true := by simp [same]

end

end Go.AM
