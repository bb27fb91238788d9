/- Laws for reading staged forms by simp. -/
/- Loops over lists, with what is known of the heap; rows of numbers. -/
/- Whole numbers as sets: the machine's operations on them. -/
/- A slice that grows and shrinks at its end. -/
import Derived.Test.YthmfjfblndophaaAmRun
import Derived.Test.YthmfjfblndophaaAmKit

namespace Go.AM

section
variable {P : Program} {R : Type} {h : H} {b o n : Nat} {v : Value} {t : TypeId}

theorem ld_scS {K : Value → Option R} (ht : aggT P t = some false) : ld P h t b o K = (h.cell b o).bind K := by
  simp [ld, load, ht]

theorem ld_agS {K : Value → Option R} (ht : aggT P t = some true) (hs : size? P t = some n) : ld P h t b o K = (h.rd b o n).bind fun l => K (.agg l.toArray) := by
  simp only [ld, load, ht, hs, Option.bind_some]
  cases h.rd b o n <;> rfl

/-- A value is written. -/
def wrc (n : Nat) (h : H) (b o : Nat) (v : Value) : Option H :=
  match h.blk b with
  | some (.row c e true) => if n = v.cells.size ∧ o + v.cells.size ≤ c.length ∧ v.cells.toList.all scal = true then some (h.set b (.row (setAt c o v.cells.toList) e true)) else none
  | _ => none

theorem st_S {K : H → Option R} (hs : size? P t = some n) : st P h t b o v K = (wrc n h b o v).bind K := by
  simp only [st, store, wrc, hs, Option.some.injEq]
  cases hb : h.blk b with
  | none => rfl
  | some k =>
    cases k with
    | row c e o => cases o <;> rfl
    | mp => rfl

/-- One cell is written. -/
theorem wrc_one {c : List Value} {e : TypeId} (hb : h.blk b = some (.row c e true)) (hv : v.cells = #[v]) (hs : scal v = true) (ho : o < c.length) : wrc 1 h b o v = some (h.set b (.row (c.set o v) e true)) := by
  simp only [wrc, hb, hv]
  rw [if_pos ⟨rfl, by simp; omega, by simp [hs]⟩]
  rfl

theorem blk_new (k : Blk) (i : Nat) : (h.new k).blk i = if i = h.nx then some k else h.blk i := rfl
theorem blk_set (k : Blk) (i : Nat) : (h.set b k).blk i = if i = b then some k else h.blk i := rfl

theorem cell_of {c : List Value} {e : TypeId} {w : Bool} (hb : h.blk b = some (.row c e w)) : h.cell b o = c[o]? := by simp [H.cell, hb]
theorem rd_of {c : List Value} {e : TypeId} {w : Bool} (hb : h.blk b = some (.row c e w)) : h.rd b o n = if o + n ≤ c.length then some ((c.drop o).take n) else none := by simp [H.rd, hb]

theorem cell_new {c : List Value} {e : TypeId} {w : Bool} : (h.new (.row c e w)).cell b o = if b = h.nx then c[o]? else h.cell b o := by
  by_cases hb : b = h.nx <;> simp [H.cell, blk_new, hb]
theorem cell_set {c : List Value} {e : TypeId} {w : Bool} {i : Nat} : (h.set i (.row c e w)).cell b o = if b = i then c[o]? else h.cell b o := by
  by_cases hb : b = i <;> simp [H.cell, blk_set, hb]
theorem rd_new {c : List Value} {e : TypeId} {w : Bool} : (h.new (.row c e w)).rd b o n = if b = h.nx then (if o + n ≤ c.length then some ((c.drop o).take n) else none) else h.rd b o n := by
  by_cases hb : b = h.nx <;> simp [H.rd, blk_new, hb]
theorem rd_set {c : List Value} {e : TypeId} {w : Bool} {i : Nat} : (h.set i (.row c e w)).rd b o n = if b = i then (if o + n ≤ c.length then some ((c.drop o).take n) else none) else h.rd b o n := by
  by_cases hb : b = i <;> simp [H.rd, blk_set, hb]

theorem rd_all {c : List Value} {e : TypeId} {w : Bool} (hb : h.blk b = some (.row c e w)) (hl : c.length = n) : h.rd b 0 n = some c := by
  rw [rd_of hb, if_pos (by omega), List.drop_zero, List.take_of_length_le (by omega)]

theorem lt_ne {a b : Nat} (h : a < b) : (a = b) = False := eq_false (Nat.ne_of_lt h)
theorem lt_ne1 {a b k : Nat} (h : a < b) : (a = b + k) = False := eq_false (by omega)
theorem lt_ne' {a b : Nat} (h : a < b) : (b = a) = False := eq_false (Nat.ne_of_gt h)

theorem set_new_self (k k' : Blk) : ((h.new k).set h.nx k').blk = (h.new k').blk := by
  funext i
  simp only [blk_set, blk_new]
  split <;> rfl

end

/-- A range loop: rounds 0 to n - 1 keep an invariant, or leave; round n leaves. -/
theorem lp_range {F : List Value → H → Option (Ex × List Value × H)} {k n : Nat} (I : Nat → List Value → H → Prop) (Q : Ex → List Value → H → Prop)
    (step : ∀ i ws h, i < n → I i ws h → ∃ e ws' h', F ws h = some (e, ws', h') ∧ ((e = .normal ∧ I (i + 1) ws' h') ∨ (e ≠ .normal ∧ Q e ws' h')))
    (fin : ∀ ws h, I n ws h → ∃ e ws' h', F ws h = some (e, ws', h') ∧ e ≠ .normal ∧ Q e ws' h')
    {ws : List Value} {h : H} (hk : n < k) (h0 : I 0 ws h) : ∃ e ws' h', lpGo F k ws h = some (e, ws', h') ∧ Q e ws' h' :=
  lpGo_inv (fun d ws h => ∃ i, i + d = n ∧ I i ws h) Q (by
    rintro d ws h ⟨i, hd, hI⟩
    by_cases hi : i = n
    · subst hi
      obtain ⟨e, ws', h', p1, p2, p3⟩ := fin ws h hI
      exact ⟨e, ws', h', p1, .inr ⟨p2, p3⟩⟩
    · obtain ⟨e, ws', h', p1, p2⟩ := step i ws h (by omega) hI
      refine ⟨e, ws', h', p1, ?_⟩
      rcases p2 with ⟨p2, p3⟩ | p2
      · exact .inl ⟨p2, d - 1, by omega, i + 1, by omega, p3⟩
      · exact .inr p2) n k hk ⟨0, by omega, h0⟩

/-- A range loop over a state: every round makes a step, and the last one leaves. -/
theorem lp_fold {σ : Type} {F : List Value → H → Option (Ex × List Value × H)} {k n j : Nat} (enc : Nat → σ → List Value) (f : Nat → σ → σ) (out : σ → List Value) {h : H}
    (step : ∀ i s, i < n → F (enc i s) h = some (.normal, enc (i + 1) (f i s), h)) (fin : ∀ s, F (enc n s) h = some (.exit j, out s, h)) (hk : n < k) (s0 : σ) :
    lpGo F k (enc 0 s0) h = some (.exit j, out ((List.range n).foldl (fun s i => f i s) s0), h) := by
  have key : ∀ (d i m : Nat) (s : σ), i + d = n → d < m → lpGo F m (enc i s) h = some (.exit j, out ((List.range' i d).foldl (fun s i => f i s) s), h) := by
    intro d
    induction d with
    | zero =>
      intro i m s hi hm
      cases m with
      | zero => omega
      | succ m =>
        have : i = n := by omega
        subst this
        rw [lpGo_exit (fin s)]
        rfl
    | succ d ih =>
      intro i m s hi hm
      cases m with
      | zero => omega
      | succ m =>
        rw [lpGo_next (step i s (by omega)), ih (i + 1) m _ (by omega) (by omega)]
        rfl
  have := key n 0 k s0 (by omega) hk
  rw [this, List.range_eq_range']

/-- Rounds over a list, until one leaves. -/
def itL {α σ ρ : Type} (f : Nat → α → σ → σ ⊕ ρ) : List α → Nat → σ → σ ⊕ ρ
  | [], _, s => .inl s
  | x :: l, i, s => match f i x s with
    | .inl s' => itL f l (i + 1) s'
    | .inr r => .inr r

/-- What a round answers. -/
def rnd {σ ρ : Type} (enc : Nat → σ → List Value) (oe : ρ → Ex) (ow : ρ → List Value) (i : Nat) (h : H) : σ ⊕ ρ → Option (Ex × List Value × H)
  | .inl s => some (.normal, enc (i + 1) s, h)
  | .inr r => some (oe r, ow r, h)

/-- A range loop that keeps what was there: each round makes a step of a plain state, or leaves. -/
theorem lp_list {α σ ρ : Type} {F : List Value → H → Option (Ex × List Value × H)} {k : Nat} {l : List α} (enc : Nat → σ → List Value) (f : Nat → α → σ → σ ⊕ ρ) (I : Nat → σ → Prop) (oe : ρ → Ex) (ow : ρ → List Value) (oj : Nat) (on : σ → List Value) {h1 : H}
    {ws : List Value} {s0 : σ} (hws : enc 0 s0 = ws) (h0 : I 0 s0) (hk : l.length < k) (hne : ∀ r, oe r ≠ .normal)
    (fin : ∀ s h, I l.length s → Ext h1 h → F (enc l.length s) h = some (.exit oj, on s, h))
    (step : ∀ i x s h, l[i]? = some x → I i s → Ext h1 h → (∀ s', f i x s = .inl s' → I (i + 1) s') ∧ ∃ h', Ext h h' ∧ F (enc i s) h = rnd enc oe ow i h' (f i x s)) :
    ∃ h', Ext h1 h' ∧ (match itL f l 0 s0 with
      | .inl s => lpGo F k ws h1 = some (.exit oj, on s, h') ∧ I l.length s
      | .inr r => lpGo F k ws h1 = some (oe r, ow r, h')) := by
  have key : ∀ (d i m : Nat) (s : σ) (h : H), i + d = l.length → d < m → I i s → Ext h1 h → ∃ h', Ext h1 h' ∧ (match itL f (l.drop i) i s with
      | .inl s' => lpGo F m (enc i s) h = some (.exit oj, on s', h') ∧ I l.length s'
      | .inr r => lpGo F m (enc i s) h = some (oe r, ow r, h')) := by
    intro d
    induction d with
    | zero =>
      intro i m s h hi hm hI hx
      cases m with
      | zero => omega
      | succ m =>
        have : i = l.length := by omega
        subst this
        rw [List.drop_of_length_le (Nat.le_refl _)]
        exact ⟨h, hx, lpGo_exit (fin s h hI hx), hI⟩
    | succ d ih =>
      intro i m s h hi hm hI hx
      cases m with
      | zero => omega
      | succ m =>
        have hil : i < l.length := by omega
        obtain ⟨hn, h', x', hs⟩ := step i l[i] s h (List.getElem?_eq_getElem hil) hI hx
        rw [List.drop_eq_getElem_cons hil]
        simp only [itL]
        cases hf : f i l[i] s with
        | inl s' =>
          rw [hf] at hs
          simp only [rnd] at hs ⊢
          rw [lpGo_next hs]
          exact ih (i + 1) m s' h' (by omega) (by omega) (hn s' hf) (hx.trans x')
        | inr r =>
          rw [hf] at hs
          simp only [rnd] at hs ⊢
          refine ⟨h', hx.trans x', ?_⟩
          have hn := hne r
          cases he : oe r with
          | normal => exact absurd he hn
          | exit j => rw [he] at hs; exact lpGo_exit hs
          | ret => rw [he] at hs; exact lpGo_ret hs
  have := key l.length 0 k s0 h1 (by omega) hk h0 (.refl _)
  rw [← hws]
  exact this

/-- The same, where the heap stays the same. -/
theorem lp_same {α σ ρ : Type} {F : List Value → H → Option (Ex × List Value × H)} {k : Nat} {l : List α} (enc : Nat → σ → List Value) (f : Nat → α → σ → σ ⊕ ρ) (I : Nat → σ → Prop) (oe : ρ → Ex) (ow : ρ → List Value) (oj : Nat) (on : σ → List Value) {h : H}
    {ws : List Value} {s0 : σ} (hws : enc 0 s0 = ws) (h0 : I 0 s0) (hk : l.length < k) (hne : ∀ r, oe r ≠ .normal)
    (fin : ∀ s, I l.length s → F (enc l.length s) h = some (.exit oj, on s, h))
    (step : ∀ i x s, l[i]? = some x → I i s → (∀ s', f i x s = .inl s' → I (i + 1) s') ∧ F (enc i s) h = rnd enc oe ow i h (f i x s)) :
    (match itL f l 0 s0 with
      | .inl s => lpGo F k ws h = some (.exit oj, on s, h) ∧ I l.length s
      | .inr r => lpGo F k ws h = some (oe r, ow r, h)) := by
  have key : ∀ (d i m : Nat) (s : σ), i + d = l.length → d < m → I i s → (match itL f (l.drop i) i s with
      | .inl s' => lpGo F m (enc i s) h = some (.exit oj, on s', h) ∧ I l.length s'
      | .inr r => lpGo F m (enc i s) h = some (oe r, ow r, h)) := by
    intro d
    induction d with
    | zero =>
      intro i m s hi hm hI
      cases m with
      | zero => omega
      | succ m =>
        have : i = l.length := by omega
        subst this
        rw [List.drop_of_length_le (Nat.le_refl _)]
        exact ⟨lpGo_exit (fin s hI), hI⟩
    | succ d ih =>
      intro i m s hi hm hI
      cases m with
      | zero => omega
      | succ m =>
        have hil : i < l.length := by omega
        obtain ⟨hn, hs⟩ := step i l[i] s (List.getElem?_eq_getElem hil) hI
        rw [List.drop_eq_getElem_cons hil]
        simp only [itL]
        cases hf : f i l[i] s with
        | inl s' =>
          rw [hf] at hs
          simp only [rnd] at hs ⊢
          rw [lpGo_next hs]
          exact ih (i + 1) m s' (by omega) (by omega) (hn s' hf)
        | inr r =>
          rw [hf] at hs
          simp only [rnd] at hs ⊢
          have hn := hne r
          cases he : oe r with
          | normal => exact absurd he hn
          | exit j => rw [he] at hs; exact lpGo_exit hs
          | ret => rw [he] at hs; exact lpGo_ret hs
  have := key l.length 0 k s0 (by omega) hk h0
  rw [← hws]
  exact this

/-- Rounds that leave where a property fails first. -/
theorem itL_all {α σ ρ : Type} {ok : Nat → α → Bool} {g : Nat → α → ρ} {s0 : σ} : ∀ (l : List α) (i : Nat), (∃ r, itL (σ := σ) (ρ := ρ) (fun i x s => if ok i x = true then .inl s else .inr (g i x)) l i s0 = .inr r) ∧ (∃ j x, l[j]? = some x ∧ ok (i + j) x = false) ∨
    itL (σ := σ) (ρ := ρ) (fun i x s => if ok i x = true then .inl s else .inr (g i x)) l i s0 = .inl s0 ∧ ∀ j x, l[j]? = some x → ok (i + j) x = true := by
  intro l
  induction l with
  | nil => intro i; exact .inr ⟨rfl, fun j x h => by simp at h⟩
  | cons x l ih =>
    intro i
    simp only [itL]
    cases hok : ok i x with
    | false => exact .inl ⟨⟨_, rfl⟩, 0, x, rfl, by simpa using hok⟩
    | true =>
      rcases ih (i + 1) with ⟨h1, j, y, hy, h2⟩ | ⟨h1, h2⟩
      · exact .inl ⟨h1, j + 1, y, by simpa using hy, by rw [← h2]; congr 1; omega⟩
      · refine .inr ⟨h1, fun j y hy => ?_⟩
        cases j with
        | zero => simp at hy; subst hy; simpa using hok
        | succ j => rw [← h2 j y (by simpa using hy)]; congr 1; omega

section
variable {P : Program} {h : H} {e t : TypeId} {s : Nat} {v : Value} {L : List (List Value)} {R : Type}

theorem SlR.ldA (a : SlR h e s v L) (ht : aggT P t = some true) (hs : size? P t = some s) {i : Int} (h0 : 0 ≤ i) {x : List Value} (hx : L[i.toNat]? = some x) (K : Value → Option R) :
    (AM.six v i s fun b o => ld P h t b o K) = K (.agg x.toArray) := by
  obtain ⟨b, o, cs, own, hb, hr, q1, q2, q3, q4⟩ := a.six h0 hx
  rw [q4, ld_elem ht hs hr q1 q2 q3]

theorem SlR.ldF (a : SlR h e s v L) (ht : aggT P t = some false) {i : Int} (h0 : 0 ≤ i) {x : List Value} (hx : L[i.toNat]? = some x) {j : Nat} {y : Value} (hy : x[j]? = some y) (K : Value → Option R) :
    (AM.six v i s fun b o => ld P h t b (AM.off o j) K) = K y := by
  obtain ⟨b, o, cs, own, hb, hr, q1, q2, q3, q4⟩ := a.six h0 hx
  rw [q4]
  exact ld_sc ht hr ((q3 j (by rw [← q1]; exact (List.getElem?_eq_some_iff.1 hy).1)).trans hy)

theorem SlR.ld0 (a : SlR h e s v L) (ht : aggT P t = some false) {i : Int} (h0 : 0 ≤ i) {x : List Value} (hx : L[i.toNat]? = some x) {y : Value} (hy : x[0]? = some y) (K : Value → Option R) :
    (AM.six v i s fun b o => ld P h t b o K) = K y := by
  have := a.ldF (K := K) ht h0 hx hy
  simpa [AM.off] using this

theorem SlR.cF (a : SlR h e s v L) {i : Int} (h0 : 0 ≤ i) {x : List Value} (hx : L[i.toNat]? = some x) {j : Nat} {y : Value} (hy : x[j]? = some y) (K : Value → Option R) :
    (AM.six v i s fun b o => (h.cell b (o + j)).bind K) = K y := by
  obtain ⟨b, o, cs, own, hb, hr, q1, q2, q3, q4⟩ := a.six h0 hx
  rw [q4, cell_of hr, (q3 j (by rw [← q1]; exact (List.getElem?_eq_some_iff.1 hy).1)).trans hy]
  rfl

theorem SlR.c0 (a : SlR h e s v L) {i : Int} (h0 : 0 ≤ i) {x : List Value} (hx : L[i.toNat]? = some x) {y : Value} (hy : x[0]? = some y) (K : Value → Option R) :
    (AM.six v i s fun b o => (h.cell b o).bind K) = K y := a.cF h0 hx hy K

theorem SlR.cA (a : SlR h e s v L) {i : Int} (h0 : 0 ≤ i) {x : List Value} (hx : L[i.toNat]? = some x) (K : Value → Option R) :
    (AM.six v i s fun b o => (h.rd b o s).bind fun l => K (.agg l.toArray)) = K (.agg x.toArray) := by
  obtain ⟨b, o, cs, own, hb, hr, q1, q2, q3, q4⟩ := a.six h0 hx
  rw [q4, rd_of hr, if_pos q2, take_drop_eq q1 q2 q3]
  rfl

theorem SlR.lenI (a : SlR h e s v L) (K : Int → Option R) : AM.len v K = K L.length := a.len K

end

end Go.AM

namespace Go.AM

theorem eqF1 (a : Nat) : (a = a + 1) = False := eq_false (by omega)
theorem eqF2 (a : Nat) : (a = a + 1 + 1) = False := eq_false (by omega)
theorem eqF3 (a : Nat) : (a + 1 = a) = False := eq_false (by omega)
theorem eqF4 (a : Nat) : (a + 1 + 1 = a) = False := eq_false (by omega)
theorem eqF5 (a k : Nat) : (a + 1 = a + k) = (1 = k) := propext ⟨by omega, by omega⟩
theorem eqF6 (a k : Nat) : (a + k = a + 1) = (k = 1) := propext ⟨by omega, by omega⟩
theorem eqF7 (a k : Nat) : (a + 1 + 1 = a + k) = (2 = k) := propext ⟨by omega, by omega⟩
theorem eqF8 (a k : Nat) : (a + k = a + 1 + 1) = (k = 2) := propext ⟨by omega, by omega⟩

/-- A range loop: what is known of a round's state, the carried values and the heap. -/
theorem lp_rel {α σ ρ : Type} {F : List Value → H → Option (Ex × List Value × H)} {k : Nat} {l : List α} (f : Nat → α → σ → σ ⊕ ρ) (I : Nat → σ → List Value → H → Prop) (Q : ρ → Ex → List Value → H → Prop) (oj : Nat)
    {ws : List Value} {h : H} {s0 : σ} (h0 : I 0 s0 ws h) (hk : l.length < k)
    (fin : ∀ s ws h, I l.length s ws h → F ws h = some (.exit oj, ws, h))
    (step : ∀ i x s ws h, l[i]? = some x → I i s ws h → ∃ e ws' h', F ws h = some (e, ws', h') ∧ (match f i x s with
      | .inl s' => e = .normal ∧ I (i + 1) s' ws' h'
      | .inr r => e ≠ .normal ∧ Q r e ws' h')) :
    ∃ e ws' h', lpGo F k ws h = some (e, ws', h') ∧ (match itL f l 0 s0 with
      | .inl s => e = .exit oj ∧ I l.length s ws' h'
      | .inr r => e ≠ .normal ∧ Q r e ws' h') := by
  have key : ∀ (d i m : Nat) (s : σ) (ws : List Value) (h : H), i + d = l.length → d < m → I i s ws h → ∃ e ws' h', lpGo F m ws h = some (e, ws', h') ∧ (match itL f (l.drop i) i s with
      | .inl s => e = .exit oj ∧ I l.length s ws' h'
      | .inr r => e ≠ .normal ∧ Q r e ws' h') := by
    intro d
    induction d with
    | zero =>
      intro i m s ws h hi hm hI
      cases m with
      | zero => omega
      | succ m =>
        have : i = l.length := by omega
        subst this
        rw [List.drop_of_length_le (Nat.le_refl _)]
        exact ⟨_, _, _, lpGo_exit (fin s ws h hI), rfl, hI⟩
    | succ d ih =>
      intro i m s ws h hi hm hI
      cases m with
      | zero => omega
      | succ m =>
        have hil : i < l.length := by omega
        obtain ⟨e, ws', h', hs, hm'⟩ := step i l[i] s ws h (List.getElem?_eq_getElem hil) hI
        rw [List.drop_eq_getElem_cons hil]
        simp only [itL]
        cases hf : f i l[i] s with
        | inl s' =>
          rw [hf] at hm'
          obtain ⟨rfl, hI'⟩ := hm'
          simp only
          rw [lpGo_next hs]
          exact ih (i + 1) m s' ws' h' (by omega) (by omega) hI'
        | inr r =>
          rw [hf] at hm'
          obtain ⟨hn, hQ⟩ := hm'
          simp only
          refine ⟨e, ws', h', ?_, hn, hQ⟩
          cases e with
          | normal => exact absurd rfl hn
          | exit j => exact lpGo_exit hs
          | ret => exact lpGo_ret hs
  exact key l.length 0 k s0 ws h (by omega) hk h0

def foldI {α σ : Type} (g : Nat → α → σ → σ) : List α → Nat → σ → σ
  | [], _, s => s
  | x :: l, i, s => foldI g l (i + 1) (g i x s)

theorem itL_inl {α σ ρ : Type} (g : Nat → α → σ → σ) : ∀ (l : List α) (i : Nat) (s : σ), itL (ρ := ρ) (fun i x s => .inl (g i x s)) l i s = .inl (foldI g l i s) := by
  intro l
  induction l with
  | nil => intro i s; rfl
  | cons x l ih => intro i s; simp only [itL, foldI]; exact ih _ _

theorem foldI_foldl {α σ : Type} (g : α → σ → σ) : ∀ (l : List α) (i : Nat) (s : σ), foldI (fun _ => g) l i s = l.foldl (fun s x => g x s) s := by
  intro l
  induction l with
  | nil => intro i s; rfl
  | cons x l ih => intro i s; exact ih _ _

/-- A range loop that goes to its end. -/
theorem lp_for {α σ : Type} {F : List Value → H → Option (Ex × List Value × H)} {k : Nat} {l : List α} (g : Nat → α → σ → σ) (I : Nat → σ → List Value → H → Prop) (oj : Nat)
    {ws : List Value} {h : H} {s0 : σ} (h0 : I 0 s0 ws h) (hk : l.length < k)
    (fin : ∀ s ws h, I l.length s ws h → F ws h = some (.exit oj, ws, h))
    (step : ∀ i x s ws h, l[i]? = some x → I i s ws h → ∃ ws' h', F ws h = some (.normal, ws', h') ∧ I (i + 1) (g i x s) ws' h') :
    ∃ ws' h', lpGo F k ws h = some (.exit oj, ws', h') ∧ I l.length (foldI g l 0 s0) ws' h' := by
  obtain ⟨e, ws', h', h1, h2⟩ := lp_rel (ρ := Empty) (fun i x s => .inl (g i x s)) I (fun _ _ _ _ => False) oj h0 hk fin (fun i x s ws h hx hI => by
    obtain ⟨ws', h', h1, h2⟩ := step i x s ws h hx hI
    exact ⟨_, ws', h', h1, rfl, h2⟩)
  rw [itL_inl] at h2
  obtain ⟨rfl, h2⟩ := h2
  exact ⟨ws', h', h1, h2⟩

/-- Blocks below a bound are as they were. -/
structure Fr (lo : Nat) (h h' : H) : Prop where
  nx : h.nx ≤ h'.nx
  blk : ∀ b, b < lo → h'.blk b = h.blk b

theorem Fr.refl (lo : Nat) (h : H) : Fr lo h h := ⟨Nat.le_refl _, fun _ _ => rfl⟩
theorem Fr.trans {lo : Nat} {a b c : H} (x : Fr lo a b) (y : Fr lo b c) : Fr lo a c := ⟨Nat.le_trans x.nx y.nx, fun i hi => (y.blk i hi).trans (x.blk i hi)⟩
theorem Fr.mono {lo lo' : Nat} {a b : H} (x : Fr lo a b) (hl : lo' ≤ lo) : Fr lo' a b := ⟨x.nx, fun i hi => x.blk i (Nat.lt_of_lt_of_le hi hl)⟩
theorem Ext.fr {lo : Nat} {a b : H} (x : Ext a b) (hl : lo ≤ a.nx) : Fr lo a b := ⟨x.nx, fun i hi => x.blk i (Nat.lt_of_lt_of_le hi hl)⟩
theorem Fr.ext {a b : H} (x : Fr a.nx a b) : Ext a b := ⟨x.nx, x.blk⟩
theorem Fr.set {lo : Nat} {a c : H} (x : Fr lo a c) {b : Nat} (hb : lo ≤ b) (k : Blk) : Fr lo a (c.set b k) := ⟨x.nx, fun i hi => by rw [blk_set_ne _ _ _ (by omega)]; exact x.blk i hi⟩

theorem SlR.lo {h h' : H} {e : TypeId} {s lo : Nat} {v : Value} {l : List (List Value)} (a : SlR h e s v l) (hv : ∀ b o n c, v = .slice (some ⟨b, o, none⟩) n c → b < lo) (x : Fr lo h h') : SlR h' e s v l := by
  cases a with
  | nil => exact .nil
  | at_ hb hr hk hc hl hx => exact .at_ (Nat.lt_of_lt_of_le hb x.nx) ((x.blk _ (hv _ _ _ _ rfl)).trans hr) hk hc hl hx

/-- A slice that was there is below. -/
theorem SlR.below {h : H} {e : TypeId} {s : Nat} {v : Value} {l : List (List Value)} (a : SlR h e s v l) : ∀ b o n c, v = .slice (some ⟨b, o, none⟩) n c → b < h.nx := by
  intro b o n c hv
  cases a with
  | nil => cases hv
  | at_ hb => cases hv; exact hb

/-- A slice of whole numbers that owns its row. -/
structure IA (h : H) (b : Nat) (v : Value) (l : List Int) : Prop where
  val : ∃ c, v = .slice (some ⟨b, 0, none⟩) l.length c ∧ l.length ≤ capK c ∧ capK c < U
  lt : b < h.nx
  row : h.blk b = some (.row (l.map iv) 3 true)

theorem IA.slR {h : H} {b : Nat} {v : Value} {l : List Int} (a : IA h b v l) : SlR h 3 1 v (l.map fun z => [iv z]) := by
  obtain ⟨c, rfl, h1, h2⟩ := a.val
  have := SlR.at_ (h := h) (e := 3) (s := 1) (b := b) (o := 0) (c := c) (l := l.map fun z => [iv z]) a.lt a.row (by simpa using h1) h2 (by simp) (fun i x hx => by
    simp only [List.getElem?_map] at hx
    cases hl : l[i]? with
    | none => rw [hl] at hx; cases hx
    | some z =>
      rw [hl] at hx
      simp at hx
      subst hx
      refine ⟨rfl, fun j hj => ?_⟩
      have : j = 0 := by omega
      subst this
      simp [hl])
  rw [List.length_map] at this
  exact this

theorem IA.len {h : H} {b : Nat} {v : Value} {l : List Int} (a : IA h b v l) {R : Type} (K : Int → Option R) : AM.len v K = K l.length := by
  obtain ⟨c, rfl, _⟩ := a.val; rfl

theorem IA.isSl {h : H} {b : Nat} {v : Value} {l : List Int} (a : IA h b v l) : v.cells = #[v] ∧ scal v = true := by
  obtain ⟨c, rfl, _⟩ := a.val; exact ⟨rfl, rfl⟩

theorem IA.keep {h h' : H} {b : Nat} {v : Value} {l : List Int} (a : IA h b v l) (hn : h.nx ≤ h'.nx) (hb : h'.blk b = h.blk b) : IA h' b v l := ⟨a.val, Nat.lt_of_lt_of_le a.lt hn, hb.trans a.row⟩
theorem IA.ext {h h' : H} {b : Nat} {v : Value} {l : List Int} (a : IA h b v l) (x : Ext h h') : IA h' b v l := a.keep x.nx (x.blk _ a.lt)

theorem IA.get {h : H} {b : Nat} {v : Value} {l : List Int} (a : IA h b v l) {i : Int} (h0 : 0 ≤ i) {x : Int} (hx : l[i.toNat]? = some x) {R : Type} (K : Value → Option R) :
    (AM.six v i 1 fun b o => (h.cell b o).bind K) = K (iv x) := a.slR.c0 h0 (x := [iv x]) (by simp [hx]) rfl K

theorem IA.put {h : H} {b : Nat} {v : Value} {l : List Int} (a : IA h b v l) {i : Int} (h0 : 0 ≤ i) (hi : i.toNat < l.length) {R : Type} (K : Nat → Nat → Option R) :
    (AM.six v i 1 K) = K b i.toNat := by
  obtain ⟨c, rfl, _⟩ := a.val
  rw [six_in h0 (by omega)]
  simp

theorem IA.wrc {h : H} {b : Nat} {v : Value} {l : List Int} (a : IA h b v l) {i : Nat} (hi : i < l.length) (x : Int) : wrc 1 h b i (iv x) = some (h.set b (.row ((l.set i x).map iv) 3 true)) := by
  rw [wrc_one a.row rfl rfl (by simpa using hi)]
  simp

theorem IA.set {h : H} {b : Nat} {v : Value} {l : List Int} (a : IA h b v l) (i : Nat) (x : Int) : IA (h.set b (.row ((l.set i x).map iv) 3 true)) b v (l.set i x) := by
  obtain ⟨c, h1, h2, h3⟩ := a.val
  exact ⟨⟨c, by simpa using h1, by simpa using h2, h3⟩, a.lt, blk_set_self _ _ _⟩

theorem flat1 : ∀ (l : List Int), (l.map fun z => [iv z]).flatten = l.map iv := by
  intro l
  induction l with
  | nil => rfl
  | cons x l ih => simp only [List.map_cons, List.flatten_cons, ih]; rfl

/-- The block of a slice. -/
def blkOf : Value → Option Nat
  | .slice (some ⟨b, _, none⟩) _ _ => some b
  | _ => none

/-- A slice that was made by a literal and by appending alone; its row lies at 'lo' or behind. -/
inductive AqR (lo : Nat) (h : H) (e : TypeId) (s : Nat) : Value → List (List Value) → Prop
  | nil : AqR lo h e s (.slice none 0 0) []
  | at_ {b c : Nat} {l : List (List Value)} (hlo : lo ≤ b) (hb : b < h.nx) (hr : h.blk b = some (.row l.flatten e true)) (hx : ∀ x ∈ l, x.length = s) (hm : l.length < 2 ^ 30) (hc : c = U + l.length ∨ c = l.length) :
      AqR lo h e s (.slice (some ⟨b, 0, none⟩) l.length c) l

theorem AqR.blkOf {lo : Nat} {h : H} {e : TypeId} {s : Nat} {v : Value} {l : List (List Value)} (a : AqR lo h e s v l) {b : Nat} (hb : AM.blkOf v = some b) : lo ≤ b ∧ b < h.nx ∧ h.blk b = some (.row l.flatten e true) := by
  cases a with
  | nil => cases hb
  | at_ hlo hb' hr hx hm => cases hb; exact ⟨hlo, hb', hr⟩

theorem AqR.keep {lo : Nat} {h h' : H} {e : TypeId} {s : Nat} {v : Value} {l : List (List Value)} (a : AqR lo h e s v l) (hn : h.nx ≤ h'.nx) (hb : ∀ b, AM.blkOf v = some b → h'.blk b = h.blk b) : AqR lo h' e s v l := by
  cases a with
  | nil => exact .nil
  | at_ hlo hb' hr hx hm hc => exact .at_ hlo (Nat.lt_of_lt_of_le hb' hn) ((hb _ rfl).trans hr) hx hm hc

theorem AqR.ext {lo : Nat} {h h' : H} {e : TypeId} {s : Nat} {v : Value} {l : List (List Value)} (a : AqR lo h e s v l) (x : Ext h h') : AqR lo h' e s v l :=
  a.keep x.nx fun _ hb => x.blk _ (a.blkOf hb).2.1

theorem AqR.isSl {lo : Nat} {h : H} {e : TypeId} {s : Nat} {v : Value} {l : List (List Value)} (a : AqR lo h e s v l) : ∃ x n c, v = .slice x n c := by
  cases a with
  | nil => exact ⟨_, _, _, rfl⟩
  | at_ => exact ⟨_, _, _, rfl⟩

theorem AqR.cells {lo : Nat} {h : H} {e : TypeId} {s : Nat} {v : Value} {l : List (List Value)} (a : AqR lo h e s v l) : v.cells = #[v] ∧ scal v = true := by
  obtain ⟨x, n, c, rfl⟩ := a.isSl; exact ⟨rfl, rfl⟩

theorem AqR.slR {lo : Nat} {h : H} {e : TypeId} {s : Nat} {v : Value} {l : List (List Value)} (a : AqR lo h e s v l) : SlR h e s v l := by
  cases a with
  | nil => exact .nil
  | @at_ b c l hlo hb hr hx hm hc =>
    have h30 : (2:Nat) ^ 30 < U := by decide
    have hk : capK c = l.length := by
      rcases hc with rfl | rfl
      · exact capK_U _
      · unfold capK; rw [if_pos (by omega)]
    refine .at_ hb hr (by omega) (by omega) (by rw [flatten_len hx]; omega) fun i x hi => ⟨hx x (List.mem_of_getElem? hi), fun j hj => ?_⟩
    rw [Nat.zero_add]
    exact flatten_get hx i x hi j hj

/-- A slice of numbers that was made by appending owns its row, if it is not empty. -/
theorem AqR.ia {lo : Nat} {h : H} {v : Value} {l : List Int} (a : AqR lo h 3 1 v (l.map fun z => [iv z])) (hl : l ≠ []) : ∃ b, lo ≤ b ∧ AM.blkOf v = some b ∧ IA h b v l := by
  generalize hL : l.map (fun z => [iv z]) = L at a
  cases a with
  | nil => simp at hL; exact absurd hL hl
  | @at_ b c L hlo hb hr hx hm hc =>
    subst hL
    rw [List.length_map] at *
    rw [flat1] at hr
    have h30 : (2:Nat)^30 < U := by decide
    have hk : capK c = l.length := by
      rcases hc with rfl | rfl
      · exact capK_U _
      · unfold capK; rw [if_pos (by omega)]
    exact ⟨b, hlo, rfl, ⟨_, rfl, by omega, by omega⟩, hb, hr⟩

/-- Elements appended. -/
theorem AqR.app {P : Program} {lo : Nat} {h : H} {e t t' : TypeId} {s : Nat} {v y : Value} {l ys : List (List Value)} (a : AqR lo h e s v l) (ht : okApp P t e s = true) (ht' : okApp P t' e s = true)
    (hy : SlR h e s y ys) (hsc : ys.flatten.all scal = true) (hm : l.length + ys.length < 2 ^ 30) (hlo : lo ≤ h.nx) :
    ∃ v' h', (∀ {R : Type} (K : Value → H → Option R), AM.app P h t t' v y K = K v' h') ∧ AqR lo h' e s v' (l ++ ys) ∧ h.nx ≤ h'.nx ∧
      (∀ b, b < h.nx → AM.blkOf v ≠ some b → h'.blk b = h.blk b) ∧ ((v' = v ∧ h' = h ∧ ys = []) ∨ ∃ b', AM.blkOf v' = some b' ∧ h.nx ≤ b') := by
  obtain ⟨i, z, h1, h2, h3, h4, h5, h6, h7⟩ := okApp_spec ht
  obtain ⟨_, _, h1', _⟩ := okApp_spec ht'
  have hsrc := hy.srcAll h6
  have hlen := hy.lenOf
  have hxl : ∀ x ∈ ys, x.length = s := by
    intro x hx'
    cases hy with
    | nil => cases hx'
    | at_ _ _ _ _ _ hx =>
      obtain ⟨i, hi, rfl⟩ := List.getElem_of_mem hx'
      exact (hx i _ (List.getElem?_eq_getElem hi)).1
  by_cases h0 : ys.length = 0
  · have hnil := List.eq_nil_of_length_eq_zero h0
    subst hnil
    refine ⟨v, h, fun K => ?_, by simpa using a, Nat.le_refl _, fun _ _ _ => rfl, .inl ⟨rfl, rfl, rfl⟩⟩
    unfold AM.app append
    simp only [h1, h1', h2, h3, hlen, h4, hsrc, Option.bind_some]
    rw [if_pos ⟨h5, h6, h7⟩]
    cases a <;> rfl
  · have fresh : ∀ (g : H) (old : List (List Value)), g.nx = h.nx → (∀ x ∈ old, x.length = s) → old.length + ys.length < 2 ^ 30 →
        AqR lo (g.new (.row (old.flatten ++ ys.flatten) e true)) e s (.slice (some ⟨h.nx, 0, none⟩) (old.length + ys.length) (U + (old.length + ys.length))) (old ++ ys) := by
      intro g old hg hox hom
      have := AqR.at_ (lo := lo) (h := g.new (.row (old.flatten ++ ys.flatten) e true)) (e := e) (s := s) (b := h.nx) (c := U + (old.length + ys.length)) (l := old ++ ys) hlo (by rw [nx_new]; omega) (by rw [blk_new_at _ _ hg.symm, List.flatten_append]) (by
        intro x hx
        rcases List.mem_append.1 hx with hx | hx
        · exact hox x hx
        · exact hxl x hx) (by simpa using hom) (.inl (by rw [List.length_append]))
      rw [List.length_append] at this
      exact this
    have h30 : (2:Nat) ^ 30 < U := by decide
    cases a with
    | nil =>
      have h00 : ([] : List (List Value)).length = 0 := rfl
      refine ⟨.slice (some ⟨h.nx, 0, none⟩) ys.length (U + ys.length), h.new (.row ys.flatten e true), fun K => ?_, ?_, Nat.le_succ _, fun b hb' _ => blk_new_ne _ _ (by omega), .inr ⟨h.nx, rfl, Nat.le_refl _⟩⟩
      · unfold AM.app append
        simp only [h1, h1', h2, h3, hlen, h4, hsrc, Option.bind_some]
        rw [if_pos ⟨h5, h6, h7⟩, if_neg h0, if_pos (by omega)]
        rfl
      · have := fresh h [] rfl (by simp) (by simpa using hm)
        simpa using this
    | @at_ b c l hlob hb' hr hx hm' hc =>
      rcases hc with rfl | rfl
      · refine ⟨.slice (some ⟨h.nx, 0, none⟩) (l.length + ys.length) (U + (l.length + ys.length)), (h.kill b).new (.row (l.flatten ++ ys.flatten) e true), fun K => ?_, fresh (h.kill b) l rfl hx hm, Nat.le_succ _, fun b' hb'' hne => ?_, .inr ⟨h.nx, rfl, Nat.le_refl _⟩⟩
        · unfold AM.app append
          simp only [h1, h1', h2, h3, hlen, h4, hsrc, Option.bind_some]
          rw [if_pos ⟨h5, h6, h7⟩]
          have hck : capK (U + l.length) = l.length := capK_U _
          simp only [hck]
          rw [if_neg h0, if_neg (by omega), if_pos hm, if_neg (by omega)]
          simp only [hr, h4]
          rw [if_pos ⟨trivial, by rw [flatten_len hx]; omega, hsc⟩]
          have : (l.flatten.drop 0).take (l.length * s) = l.flatten := by rw [List.drop_zero, List.take_of_length_le (by rw [flatten_len hx]; exact Nat.le_refl _)]
          rw [this]
          rfl
        · have : b' ≠ b := fun e1 => hne (by rw [e1]; rfl)
          rw [blk_new_ne _ _ (by rw [nx_kill]; omega), blk_kill_ne _ _ this]
      · refine ⟨.slice (some ⟨h.nx, 0, none⟩) (l.length + ys.length) (U + (l.length + ys.length)), h.new (.row (l.flatten ++ ys.flatten) e true), fun K => ?_, fresh h l rfl hx hm, Nat.le_succ _, fun b' hb'' _ => blk_new_ne _ _ (by omega), .inr ⟨h.nx, rfl, Nat.le_refl _⟩⟩
        unfold AM.app append
        simp only [h1, h1', h2, h3, hlen, h4, hsrc, Option.bind_some]
        rw [if_pos ⟨h5, h6, h7⟩]
        have hck : capK l.length = l.length := by unfold capK; rw [if_pos (by omega)]
        simp only [hck]
        rw [if_neg h0, if_neg (by omega), if_pos hm, if_pos (by omega)]
        have hrd : (if l.length = 0 then some [] else h.rd b 0 (l.length * s)) = some l.flatten := by
          split
          · rename_i h9
            rw [List.eq_nil_of_length_eq_zero h9]
            rfl
          · simp only [H.rd, hr]
            rw [if_pos (by rw [flatten_len hx]; omega), List.drop_zero, List.take_of_length_le (by rw [flatten_len hx]; exact Nat.le_refl _)]
        rw [hrd]
        rfl

/-- One element more, from a literal. -/
theorem AqR.push {P : Program} {lo : Nat} {h : H} {e t t' t2 : TypeId} {s : Nat} {v xv : Value} {l : List (List Value)} {x : List Value} (a : AqR lo h e s v l) (ht : okApp P t e s = true) (ht' : okApp P t' e s = true)
    (hb : ∀ h : H, buildSlice P t2 1 [(0, xv)] h = some (.slice (some ⟨h.nx, 0, none⟩) 1 1, h.new (.row x e true))) (hx : x.length = s) (hsc : x.all scal = true) (hm : l.length + 1 < 2 ^ 30) (hlo : lo ≤ h.nx) :
    ∃ v' h', (∀ {R : Type} (K : Value → H → Option R), (bls P h t2 1 [(0, xv)] fun y h2 => AM.app P h2 t t' v y K) = K v' h') ∧ AqR lo h' e s v' (l ++ [x]) ∧ h.nx ≤ h'.nx ∧
      (∀ b, b < h.nx → AM.blkOf v ≠ some b → h'.blk b = h.blk b) ∧ ∃ b', AM.blkOf v' = some b' ∧ h.nx ≤ b' := by
  have x0 := Ext.new h (.row x e true)
  have hy : SlR (h.new (.row x e true)) e s (.slice (some ⟨h.nx, 0, none⟩) 1 1) [x] := by
    refine .at_ (l := [x]) (Nat.lt_succ_self _) (blk_new_self _ _) (by show 1 ≤ capK 1; decide) (by decide) (by simp [hx]) fun i y hi => ?_
    cases i with
    | zero =>
      simp at hi
      subst hi
      exact ⟨hx, fun j _ => by simp⟩
    | succ i => simp at hi
  obtain ⟨v', h', e1, a1, n1, f1, b1⟩ := (a.ext x0).app ht ht' hy (by simpa using hsc) (by simpa using hm) (Nat.le_trans hlo x0.nx)
  refine ⟨v', h', fun K => (bls_some (hb h)).trans (e1 K), a1, Nat.le_trans x0.nx n1, fun b hb hne => (f1 b (by have := x0.nx; omega) hne).trans (x0.blk b hb), ?_⟩
  rcases b1 with ⟨_, _, h9⟩ | ⟨b', h9, h8⟩
  · cases h9
  · exact ⟨b', h9, by have := x0.nx; omega⟩

theorem AqR.lit {lo : Nat} {h : H} {e : TypeId} {s n : Nat} {l : List (List Value)} (hlo : lo ≤ h.nx) (hn : l.length = n) (hx : ∀ x ∈ l, x.length = s) (hm : l.length < 2 ^ 30) : AqR lo (h.new (.row l.flatten e true)) e s (.slice (some ⟨h.nx, 0, none⟩) n n) l := by
  subst hn
  exact .at_ hlo (Nat.lt_succ_self _) (blk_new_self _ _) hx hm (.inr rfl)

/-- A new row of zeros. -/
theorem mks_ints {P : Program} {t e : TypeId} (ht : okApp P t e 1 = true) (hz : zero? P e = some (iv 0)) {n : Nat} (hn : n < 2 ^ 30) {h : H} {R : Type} (K : Value → H → Option R) :
    mks P h t n n K = K (.slice (some ⟨h.nx, 0, none⟩) n n) (h.new (.row ((List.replicate n 0).map iv) e true)) := by
  obtain ⟨i, z, h1, h2, h3, h4, h5, h6, h7⟩ := okApp_spec ht
  rw [hz] at h3
  cases h3
  have hr : (List.range n).map (fun x => (iv 0).cells[x % 1]!) = (List.replicate n 0).map iv := by
    apply List.ext_getElem
    · simp
    · intro j h8 h9
      simp [Nat.mod_one, Value.cells]
  unfold mks makeSlice
  simp only [h1, h2, hz, h4, Option.bind_some]
  rw [if_pos ⟨by omega, by omega, by omega, h5, by omega, by rw [h7]⟩]
  simp only [Option.bind_some, Int.toNat_natCast, Nat.mul_one]
  rw [← hr]
  rfl

theorem ia_new {h : H} {n : Nat} (hn : n < 2 ^ 30) {l : List Int} (hl : l.length = n) : IA (h.new (.row (l.map iv) 3 true)) h.nx (.slice (some ⟨h.nx, 0, none⟩) n n) l := by
  subst hl
  have h30 : (2:Nat) ^ 30 < U := by decide
  have hk : capK l.length = l.length := by unfold capK; rw [if_pos (by omega)]
  exact ⟨⟨_, rfl, by omega, by omega⟩, Nat.lt_succ_self _, blk_new_self _ _⟩

theorem lpGo_mono {F : List Value → H → Option (Ex × List Value × H)} : ∀ {m n : Nat} {ws : List Value} {h : H} {r : Ex × List Value × H}, lpGo F m ws h = some r → m ≤ n → lpGo F n ws h = some r := by
  intro m
  induction m with
  | zero => intro n ws h r hr; cases hr
  | succ m ih =>
    intro n ws h r hr hn
    cases n with
    | zero => omega
    | succ n =>
      simp only [lpGo] at hr ⊢
      cases hF : F ws h with
      | none => rw [hF] at hr; cases hr
      | some x =>
        rw [hF] at hr
        simp only [Option.bind_some] at hr ⊢
        obtain ⟨e, ws', h'⟩ := x
        cases e with
        | normal => exact ih hr (by omega)
        | exit i => exact hr
        | ret => exact hr

theorem SlR.isSl {h : H} {e : TypeId} {s : Nat} {v : Value} {l : List (List Value)} (a : SlR h e s v l) : ∃ x n c, v = .slice x n c := by
  cases a with
  | nil => exact ⟨_, _, _, rfl⟩
  | at_ => exact ⟨_, _, _, rfl⟩

/-- A slice is no plain answer. -/
theorem SlR.notR {h : H} {e : TypeId} {s : Nat} {v : Value} {l : List (List Value)} (a : SlR h e s v l) : plainO v = false := by
  obtain ⟨x, n, c, rfl⟩ := a.isSl; rfl

theorem SlR.notR2 {h : H} {e : TypeId} {s : Nat} {v w : Value} {l : List (List Value)} (a : SlR h e s v l) : plainO (.tuple #[v, w]) = false := by
  obtain ⟨x, n, c, rfl⟩ := a.isSl; rfl

theorem run_iso {P : Program} {E : Env} {n : Nat} {f : FuncId} {args : Array Value} {h : H} {r : Value × H} (hi : (E.iso f && args.toList.all plainV) = true) (hc : call P E (n + 1) f args h = some r) : run P E f args h = some r := by
  refine run_of (n := n + 1) ?_
  unfold callT
  unfold call at hc
  rw [if_pos hi] at hc ⊢
  exact hc

end Go.AM

namespace Go.AM

theorem ofInt_nat (a : Nat) : BitVec.ofInt 64 (a : Int) = BitVec.ofNat 64 a := BitVec.ofInt_natCast 64 a

theorem toNat_ofInt {a : Nat} (h : a < 2 ^ 63) : (BitVec.ofInt 64 (a : Int)).toNat = a := by
  rw [ofInt_nat, BitVec.toNat_ofNat]
  exact Nat.mod_eq_of_lt (by omega)

theorem or_nat {a b : Nat} (ha : a < 2 ^ 63) (hb : b < 2 ^ 63) : AM.or .i64 (a : Int) (b : Int) = ((a ||| b : Nat) : Int) := by
  unfold AM.or
  show IntKind.i64.wrap ((BitVec.ofInt 64 (a : Int) ||| BitVec.ofInt 64 (b : Int)).toNat : Nat) = _
  rw [BitVec.toNat_or, toNat_ofInt ha, toNat_ofInt hb]
  have := Nat.or_lt_two_pow ha hb
  exact wrap64 (by omega) (by omega)

theorem and_nat {a b : Nat} (ha : a < 2 ^ 63) (hb : b < 2 ^ 63) : AM.and .i64 (a : Int) (b : Int) = ((a &&& b : Nat) : Int) := by
  unfold AM.and
  show IntKind.i64.wrap ((BitVec.ofInt 64 (a : Int) &&& BitVec.ofInt 64 (b : Int)).toNat : Nat) = _
  rw [BitVec.toNat_and, toNat_ofInt ha, toNat_ofInt hb]
  have := Nat.and_lt_two_pow a hb
  exact wrap64 (by omega) (by omega)

/-- What is in a and not in b. -/
def without (a b : Nat) : Nat := a ^^^ (a &&& b)

theorem testBit_without (a b i : Nat) : (without a b).testBit i = (a.testBit i && !b.testBit i) := by
  unfold without
  rw [Nat.testBit_xor, Nat.testBit_and]
  cases a.testBit i <;> cases b.testBit i <;> rfl

theorem without_le (a b : Nat) {n : Nat} (ha : a < 2 ^ n) : without a b < 2 ^ n := Nat.xor_lt_two_pow ha (Nat.lt_of_le_of_lt Nat.and_le_left ha)

theorem andNot_nat {a b : Nat} (ha : a < 2 ^ 63) (hb : b < 2 ^ 63) : AM.andNot .i64 (a : Int) (b : Int) = ((without a b : Nat) : Int) := by
  unfold AM.andNot
  show IntKind.i64.wrap ((BitVec.ofInt 64 (a : Int) &&& ~~~ BitVec.ofInt 64 (b : Int)).toNat : Nat) = _
  have e : (BitVec.ofInt 64 (a : Int) &&& ~~~ BitVec.ofInt 64 (b : Int)).toNat = without a b := by
    apply Nat.eq_of_testBit_eq
    intro i
    rw [testBit_without, BitVec.testBit_toNat, BitVec.getLsbD_and, BitVec.getLsbD_not, ← BitVec.testBit_toNat, ← BitVec.testBit_toNat, toNat_ofInt ha, toNat_ofInt hb]
    by_cases hi : i < 64
    · simp [hi]
    · have : a.testBit i = false := Nat.testBit_lt_two_pow (Nat.lt_of_lt_of_le ha (Nat.pow_le_pow_right (by omega) (by omega)))
      simp [this]
  rw [e]
  have := without_le a b ha
  exact wrap64 (by omega) (by omega)

theorem shl_nat {a p : Nat} (h : a * 2 ^ p < 2 ^ 63) (hp : p ≤ 64) : AM.shl .i64 (a : Int) (p : Int) = ((a * 2 ^ p : Nat) : Int) := by
  unfold AM.shl
  rw [show min (p : Int).toNat IntKind.i64.bits = p by
    rw [Int.toNat_natCast]
    exact Nat.min_eq_left hp]
  have e : (a : Int) * 2 ^ p = ((a * 2 ^ p : Nat) : Int) := by
    rw [Int.natCast_mul, Int.natCast_pow]
    rfl
  rw [e]
  exact wrap64 (by omega) (by omega)

theorem shl1_nat {p : Nat} (hp : p < 63) : AM.shl .i64 1 (p : Int) = ((2 ^ p : Nat) : Int) := by
  have := shl_nat (a := 1) (p := p) (by rw [Nat.one_mul]; exact Nat.pow_lt_pow_right (by omega) hp) (by omega)
  rw [Nat.one_mul] at this
  exact this

theorem shr_nat {a p : Nat} (hp : p ≤ 64) : AM.shr .i64 (a : Int) (p : Int) = ((a >>> p : Nat) : Int) := by
  unfold AM.shr
  rw [show min (p : Int).toNat IntKind.i64.bits = p by
    rw [Int.toNat_natCast]
    exact Nat.min_eq_left hp]
  rw [Nat.shiftRight_eq_div_pow]
  have e : (2 : Int) ^ p = ((2 ^ p : Nat) : Int) := by
    rw [Int.natCast_pow]; rfl
  rw [e, Int.fdiv_eq_ediv_of_nonneg _ (Int.natCast_nonneg _)]
  exact (Int.natCast_ediv a (2 ^ p)).symm

/-- Is a number in a set? -/
theorem bit_nat {a p : Nat} (ha : a < 2 ^ 63) (hp : p ≤ 64) : AM.and .i64 (AM.shr .i64 (a : Int) (p : Int)) 1 = if a.testBit p then 1 else 0 := by
  rw [shr_nat hp]
  have h1 : a >>> p < 2 ^ 63 := by
    rw [Nat.shiftRight_eq_div_pow]
    exact Nat.lt_of_le_of_lt (Nat.div_le_self _ _) ha
  have := and_nat (b := 1) h1 (by decide)
  rw [show ((1 : Nat) : Int) = 1 from rfl] at this
  rw [this, Nat.and_one_is_mod]
  rw [Nat.testBit_eq_decide_div_mod_eq, Nat.shiftRight_eq_div_pow]
  have h2 : a / 2 ^ p % 2 = 0 ∨ a / 2 ^ p % 2 = 1 := by omega
  rcases h2 with h2 | h2 <;> rw [h2] <;> rfl

theorem bit_eq1 {a p : Nat} (ha : a < 2 ^ 63) (hp : p ≤ 64) : (AM.and .i64 (AM.shr .i64 (a : Int) (p : Int)) 1 = 1) ↔ a.testBit p = true := by
  rw [bit_nat ha hp]
  cases a.testBit p <;> simp

theorem testBit_big {a n i : Nat} (ha : a < 2 ^ n) (hi : n ≤ i) : a.testBit i = false :=
  Nat.testBit_lt_two_pow (Nat.lt_of_lt_of_le ha (Nat.pow_le_pow_right (by omega) hi))

theorem testBit_pow (p i : Nat) : (2 ^ p).testBit i = decide (p = i) := Nat.testBit_two_pow

end Go.AM

namespace Go.AM

theorem setAt_mid : ∀ (xs pre mid post : List Value), mid.length = xs.length → setAt (pre ++ (mid ++ post)) pre.length xs = pre ++ (xs ++ post) := by
  intro xs
  induction xs with
  | nil => intro pre mid post h; rw [List.eq_nil_of_length_eq_zero h]; rfl
  | cons x xs ih =>
    intro pre mid post h
    cases mid with
    | nil => cases h
    | cons z mid =>
      simp only [setAt]
      have h1 : (pre ++ (z :: mid ++ post)).set pre.length x = (pre ++ [x]) ++ (mid ++ post) := by simp
      have h2 := ih (pre ++ [x]) mid post (by simpa using h)
      rw [h1, show pre.length + 1 = (pre ++ [x]).length by simp, h2]
      simp

/-- A slice that grows and shrinks at its end; behind its end its row may hold what was there. -/
inductive WqR (lo : Nat) (h : H) (e : TypeId) (s : Nat) : Value → List (List Value) → Prop
  | nil : WqR lo h e s (.slice none 0 0) []
  | at_ {b c m : Nat} {l : List (List Value)} {junk : List Value} (hlo : lo ≤ b) (hb : b < h.nx) (hr : h.blk b = some (.row (l.flatten ++ junk) e true)) (hx : ∀ x ∈ l, x.length = s) (hm : l.length + m < 2 ^ 30)
      (hj : junk.length = m * s) (hc : c = U + (l.length + m) ∨ c = l.length + m) : WqR lo h e s (.slice (some ⟨b, 0, none⟩) l.length c) l

theorem WqR.blkOf {lo : Nat} {h : H} {e : TypeId} {s : Nat} {v : Value} {l : List (List Value)} (a : WqR lo h e s v l) {b : Nat} (hb : AM.blkOf v = some b) : lo ≤ b ∧ b < h.nx ∧ ∃ c, h.blk b = some (.row c e true) := by
  cases a with
  | nil => cases hb
  | at_ hlo hb' hr hx hm => cases hb; exact ⟨hlo, hb', _, hr⟩

theorem WqR.keep {lo : Nat} {h h' : H} {e : TypeId} {s : Nat} {v : Value} {l : List (List Value)} (a : WqR lo h e s v l) (hn : h.nx ≤ h'.nx) (hb : ∀ b, AM.blkOf v = some b → h'.blk b = h.blk b) : WqR lo h' e s v l := by
  cases a with
  | nil => exact .nil
  | at_ hlo hb' hr hx hm hj hc => exact .at_ hlo (Nat.lt_of_lt_of_le hb' hn) ((hb _ rfl).trans hr) hx hm hj hc

theorem WqR.cells {lo : Nat} {h : H} {e : TypeId} {s : Nat} {v : Value} {l : List (List Value)} (a : WqR lo h e s v l) : v.cells = #[v] ∧ scal v = true := by
  cases a <;> exact ⟨rfl, rfl⟩

theorem WqR.cap_ {l m c : Nat} (hm : l + m < 2 ^ 30) (hc : c = U + (l + m) ∨ c = l + m) : AM.capK c = l + m := by
  have h30 : (2:Nat) ^ 30 < U := by decide
  rcases hc with rfl | rfl
  · exact capK_U _
  · unfold AM.capK; rw [if_pos (by omega)]

theorem WqR.slR {lo : Nat} {h : H} {e : TypeId} {s : Nat} {v : Value} {l : List (List Value)} (a : WqR lo h e s v l) : SlR h e s v l := by
  cases a with
  | nil => exact .nil
  | @at_ b c m l junk hlo hb hr hx hm hj hc =>
    have h30 : (2:Nat) ^ 30 < U := by decide
    have hk := WqR.cap_ hm hc
    refine .at_ hb hr (by omega) (by omega) (by rw [List.length_append, flatten_len hx]; omega) fun i x hi => ⟨hx x (List.mem_of_getElem? hi), fun j hj' => ?_⟩
    rw [Nat.zero_add]
    have hg := flatten_get hx i x hi j hj'
    have hil : i < l.length := (List.getElem?_eq_some_iff.1 hi).1
    have : i * s + j < l.flatten.length := by
      rw [flatten_len hx]
      have := Nat.mul_le_mul_right s (show i + 1 ≤ l.length from hil)
      rw [Nat.add_mul] at this
      omega
    rw [List.getElem?_append_left this]
    exact hg

/-- One element more. -/
theorem WqR.push {P : Program} {lo : Nat} {h : H} {e t t' t2 : TypeId} {s : Nat} {v xv : Value} {l : List (List Value)} {x : List Value} (a : WqR lo h e s v l) (ht : okApp P t e s = true) (ht' : okApp P t' e s = true)
    (hb : ∀ h : H, buildSlice P t2 1 [(0, xv)] h = some (.slice (some ⟨h.nx, 0, none⟩) 1 1, h.new (.row x e true))) (hx : x.length = s) (hsc : x.all scal = true) (hm : l.length + 1 < 2 ^ 30) (hlo : lo ≤ h.nx) :
    ∃ v' h', (∀ {R : Type} (K : Value → H → Option R), (bls P h t2 1 [(0, xv)] fun y h2 => AM.app P h2 t t' v y K) = K v' h') ∧ WqR lo h' e s v' (l ++ [x]) ∧ h.nx ≤ h'.nx ∧
      (∀ b, b < h.nx → AM.blkOf v ≠ some b → h'.blk b = h.blk b) ∧ ∃ b', AM.blkOf v' = some b' ∧ (h.nx ≤ b' ∨ AM.blkOf v = some b') := by
  obtain ⟨i, z, h1, h2, h3, h4, h5, h6, h7⟩ := okApp_spec ht
  obtain ⟨_, _, h1', _⟩ := okApp_spec ht'
  have x0 := Ext.new h (.row x e true)
  have hsrc : srcCells s (.slice (some ⟨h.nx, 0, none⟩) 1 1) (h.new (.row x e true)) = some x := by
    simp only [srcCells, Nat.one_mul]
    rw [if_neg (by omega)]
    simp only [H.rd, blk_new_self]
    rw [if_pos (by omega)]
    simp [List.take_of_length_le (Nat.le_of_eq hx)]
  have hlen : lenOf (.slice (some ⟨h.nx, 0, none⟩) 1 1) = some 1 := rfl
  have h30 : (2:Nat) ^ 30 < U := by decide
  have fresh : ∀ (g : H) (old : List (List Value)), g.nx = h.nx + 1 → (∀ y ∈ old, y.length = s) → old.length + 1 < 2 ^ 30 →
      WqR lo (g.new (.row (old.flatten ++ x) e true)) e s (.slice (some ⟨h.nx + 1, 0, none⟩) (old.length + 1) (U + (old.length + 1))) (old ++ [x]) := by
    intro g old hg hox hom
    have := WqR.at_ (lo := lo) (h := g.new (.row (old.flatten ++ x) e true)) (e := e) (s := s) (b := h.nx + 1) (c := U + (old.length + 1)) (m := 0) (l := old ++ [x]) (junk := []) (by omega) (by rw [nx_new]; omega)
      (by rw [blk_new_at _ _ hg.symm]; simp) (by
      intro y hy
      rcases List.mem_append.1 hy with hy | hy
      · exact hox y hy
      · simp at hy; rw [hy]; exact hx) (by simpa using hom) (by simp) (.inl (by simp))
    rw [List.length_append] at this
    exact this
  cases a with
  | nil =>
    refine ⟨.slice (some ⟨h.nx + 1, 0, none⟩) 1 (U + 1), (h.new (.row x e true)).new (.row x e true), fun K => ?_, ?_, by simp only [nx_new]; omega, fun b hb' _ => ?_, h.nx + 1, rfl, .inl (by omega)⟩
    · rw [bls_some (hb h)]
      unfold AM.app append
      simp only [h1, h1', h2, h3, hlen, h4, hsrc, Option.bind_some]
      rw [if_pos ⟨h5, h6, h7⟩]
      simp [nx_new]
    · have := fresh (h.new (.row x e true)) [] rfl (by simp) (by simp)
      simpa using this
    · rw [blk_new_ne _ _ (by rw [nx_new]; omega), blk_new_ne _ _ (by omega)]
  | @at_ b c m l junk hlob hb' hr hxl hm' hj hc =>
    have hr1 := (x0.blk _ hb').trans hr
    have hck := WqR.cap_ hm' hc
    by_cases hm0 : m = 0
    · subst hm0
      have hjn : junk = [] := List.eq_nil_of_length_eq_zero (by simpa using hj)
      subst hjn
      rw [List.append_nil] at hr1
      rcases hc with rfl | rfl
      · refine ⟨.slice (some ⟨h.nx + 1, 0, none⟩) (l.length + 1) (U + (l.length + 1)), ((h.new (.row x e true)).kill b).new (.row (l.flatten ++ x) e true), fun K => ?_, fresh _ l rfl hxl hm, by simp only [nx_new, nx_kill]; omega, fun b' hb'' hne => ?_, h.nx + 1, rfl, .inl (by omega)⟩
        · rw [bls_some (hb h)]
          unfold AM.app append
          simp only [h1, h1', h2, h3, hlen, h4, hsrc, Option.bind_some, Nat.add_zero] at hck ⊢
          rw [if_pos ⟨h5, h6, h7⟩]
          simp only [hck]
          rw [if_neg (by omega), if_neg (by omega), if_pos hm, if_neg (by omega)]
          simp only [hr1, h4]
          rw [if_pos ⟨trivial, by rw [flatten_len hxl]; omega, hsc⟩]
          have : (l.flatten.drop 0).take (l.length * s) = l.flatten := by rw [List.drop_zero, List.take_of_length_le (by rw [flatten_len hxl]; exact Nat.le_refl _)]
          rw [this]
          rfl
        · have : b' ≠ b := fun e1 => hne (by rw [e1]; rfl)
          rw [blk_new_ne _ _ (by rw [nx_kill, nx_new]; omega), blk_kill_ne _ _ this, blk_new_ne _ _ (by omega)]
      · refine ⟨.slice (some ⟨h.nx + 1, 0, none⟩) (l.length + 1) (U + (l.length + 1)), (h.new (.row x e true)).new (.row (l.flatten ++ x) e true), fun K => ?_, fresh _ l rfl hxl hm, by simp only [nx_new]; omega, fun b' hb'' _ => ?_, h.nx + 1, rfl, .inl (by omega)⟩
        · rw [bls_some (hb h)]
          unfold AM.app append
          simp only [h1, h1', h2, h3, hlen, h4, hsrc, Option.bind_some, Nat.add_zero] at hck ⊢
          rw [if_pos ⟨h5, h6, h7⟩]
          simp only [hck]
          rw [if_neg (by omega), if_neg (by omega), if_pos hm, if_pos (by omega)]
          have hrd : (if l.length = 0 then some [] else (h.new (.row x e true)).rd b 0 (l.length * s)) = some l.flatten := by
            split
            · rename_i h9
              rw [List.eq_nil_of_length_eq_zero h9]
              rfl
            · simp only [H.rd, hr1]
              rw [if_pos (by rw [flatten_len hxl]; omega), List.drop_zero, List.take_of_length_le (by rw [flatten_len hxl]; exact Nat.le_refl _)]
          rw [hrd]
          rfl
        · rw [blk_new_ne _ _ (by rw [nx_new]; omega), blk_new_ne _ _ (by omega)]
    · -- there is room
      obtain ⟨m', rfl⟩ : ∃ m', m = m' + 1 := ⟨m - 1, by omega⟩
      rw [Nat.add_mul, Nat.one_mul] at hj
      have hsplit : junk = junk.take s ++ junk.drop s := (List.take_append_drop s junk).symm
      have hset : setAt (l.flatten ++ junk) (l.length * s) x = (l ++ [x]).flatten ++ junk.drop s := by
        conv => lhs; rw [hsplit]
        rw [← flatten_len hxl, setAt_mid x l.flatten (junk.take s) (junk.drop s) (by rw [List.length_take]; omega)]
        simp
      refine ⟨.slice (some ⟨b, 0, none⟩) (l.length + 1) c, (h.new (.row x e true)).set b (.row ((l ++ [x]).flatten ++ junk.drop s) e true), fun K => ?_, ?_, by rw [nx_set, nx_new]; omega, fun b' hb'' hne => ?_, b, rfl, .inr rfl⟩
      · rw [bls_some (hb h)]
        unfold AM.app append
        simp only [h1, h1', h2, h3, hlen, h4, hsrc, Option.bind_some]
        rw [if_pos ⟨h5, h6, h7⟩]
        simp only [hck]
        rw [if_neg (by omega), if_pos (by omega)]
        simp only [hr1, h4]
        rw [if_pos ⟨trivial, by rw [List.length_append, flatten_len hxl, Nat.add_mul]; omega, hsc⟩]
        simp only [Nat.zero_add]
        rw [hset]
        rfl
      · have := WqR.at_ (lo := lo) (h := (h.new (.row x e true)).set b (.row ((l ++ [x]).flatten ++ junk.drop s) e true)) (e := e) (s := s) (b := b) (c := c) (m := m') (l := l ++ [x]) (junk := junk.drop s) hlob (by rw [nx_set, nx_new]; omega) (blk_set_self _ _ _) (by
          intro y hy
          rcases List.mem_append.1 hy with hy | hy
          · exact hxl y hy
          · simp at hy; rw [hy]; exact hx) (by simp; omega) (by rw [List.length_drop]; omega) (by simp; omega)
        rw [List.length_append] at this
        exact this
      · have : b' ≠ b := fun e1 => hne (by rw [e1]; rfl)
        rw [blk_set_ne _ _ _ this, blk_new_ne _ _ (by omega)]

/-- The last element is left out. -/
theorem WqR.pop {P : Program} {lo : Nat} {h : H} {e t : TypeId} {s : Nat} {v : Value} {l : List (List Value)} {x : List Value} (a : WqR lo h e s v (l ++ [x])) (hu : P.underlying t = some (.slice e)) (hs : size? P e = some s) :
    ∃ v', (∀ {R : Type} (K : Value → Option R), sli P h t v none (some (.int .i64 l.length)) none K = K v') ∧ WqR lo h e s v' l ∧ AM.blkOf v' = AM.blkOf v := by
  generalize hL : l ++ [x] = L at a
  cases a with
  | nil => simp at hL
  | @at_ b c m L junk hlo hb hr hx hm hj hc =>
    subst hL
    have h30 : (2:Nat) ^ 30 < U := by decide
    have hck := WqR.cap_ hm hc
    rw [List.length_append] at *
    simp only [List.length_cons, List.length_nil, Nat.zero_add] at *
    have hxs : x.length = s := hx x (by simp)
    refine ⟨.slice (some ⟨b, 0, none⟩) l.length c, fun K => ?_, ?_, rfl⟩
    · unfold sli slice
      simp only [hu, hr]
      rw [if_pos ⟨trivial, by omega, rfl⟩]
      simp only [hs, Option.bind_some, bound]
      rw [if_pos ⟨by omega, by omega⟩]
      simp only [Option.bind_some, Option.isSome_none, Bool.false_eq_true, false_or]
      by_cases hcu : c < U
      · rw [if_pos hcu]
        have : AM.capK c = c := by unfold AM.capK; rw [if_pos hcu]
        simp only [this, Int.toNat_natCast, Nat.zero_mul, Nat.add_zero, Nat.sub_zero, ite_self]
        rfl
      · rw [if_neg hcu]
        have : U + AM.capK c = c := by
          have : AM.capK c = c - U := by unfold AM.capK; rw [if_neg hcu]
          omega
        simp only [this, Int.toNat_natCast, Nat.zero_mul, Nat.add_zero, Nat.sub_zero]
        rfl
    · refine .at_ (m := m + 1) (junk := x ++ junk) hlo hb (by rw [hr]; simp) (fun y hy => hx y (by simp [hy])) (by omega) (by rw [List.length_append, Nat.add_mul]; omega) (by omega)

end Go.AM
