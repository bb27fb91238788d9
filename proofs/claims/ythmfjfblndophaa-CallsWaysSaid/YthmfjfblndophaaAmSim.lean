/- Laws for reading staged forms by simp. -/
import Derived.Test.YthmfjfblndophaaAmRun
import Derived.Test.YthmfjfblndophaaAmSl
namespace Go.AM

section
variable {P : Program} {R : Type} {h : H} {b o n : Nat} {v : Value} {t : TypeId}

theorem ld_scS {K : Value → Option R} (ht : aggT P t = some false) : ld P h t b o K = (h.cell b o).bind K := by
  simp [ld, load, ht]

theorem ld_agS {K : Value → Option R} (ht : aggT P t = some true) (hs : size? P t = some n) : ld P h t b o K = (h.rd b o n).bind fun l => K (.agg l.toArray) := by
  simp only [ld, load, ht, hs, Option.bind_some]
  cases h.rd b o n <;> rfl

/-- A value is written. -/
def wrc (n : Nat) (h : H) (b o : Nat) (v : Value) : Option H :=
  match h.blk b with
  | some (.row c e true) => if n = v.cells.size ∧ o + v.cells.size ≤ c.length ∧ v.cells.toList.all scal = true then some (h.set b (.row (setAt c o v.cells.toList) e true)) else none
  | _ => none

theorem st_S {K : H → Option R} (hs : size? P t = some n) : st P h t b o v K = (wrc n h b o v).bind K := by
  simp only [st, store, wrc, hs, Option.some.injEq]
  cases hb : h.blk b with
  | none => rfl
  | some k =>
    cases k with
    | row c e o => cases o <;> rfl
    | mp => rfl

/-- One cell is written. -/
theorem wrc_one {c : List Value} {e : TypeId} (hb : h.blk b = some (.row c e true)) (hv : v.cells = #[v]) (hs : scal v = true) (ho : o < c.length) : wrc 1 h b o v = some (h.set b (.row (c.set o v) e true)) := by
  simp only [wrc, hb, hv]
  rw [if_pos ⟨rfl, by simp; omega, by simp [hs]⟩]
  rfl

theorem blk_new (k : Blk) (i : Nat) : (h.new k).blk i = if i = h.nx then some k else h.blk i := rfl
theorem blk_set (k : Blk) (i : Nat) : (h.set b k).blk i = if i = b then some k else h.blk i := rfl

theorem cell_of {c : List Value} {e : TypeId} {w : Bool} (hb : h.blk b = some (.row c e w)) : h.cell b o = c[o]? := by simp [H.cell, hb]
theorem rd_of {c : List Value} {e : TypeId} {w : Bool} (hb : h.blk b = some (.row c e w)) : h.rd b o n = if o + n ≤ c.length then some ((c.drop o).take n) else none := by simp [H.rd, hb]

theorem cell_new {c : List Value} {e : TypeId} {w : Bool} : (h.new (.row c e w)).cell b o = if b = h.nx then c[o]? else h.cell b o := by
  by_cases hb : b = h.nx <;> simp [H.cell, blk_new, hb]
theorem cell_set {c : List Value} {e : TypeId} {w : Bool} {i : Nat} : (h.set i (.row c e w)).cell b o = if b = i then c[o]? else h.cell b o := by
  by_cases hb : b = i <;> simp [H.cell, blk_set, hb]
theorem rd_new {c : List Value} {e : TypeId} {w : Bool} : (h.new (.row c e w)).rd b o n = if b = h.nx then (if o + n ≤ c.length then some ((c.drop o).take n) else none) else h.rd b o n := by
  by_cases hb : b = h.nx <;> simp [H.rd, blk_new, hb]
theorem rd_set {c : List Value} {e : TypeId} {w : Bool} {i : Nat} : (h.set i (.row c e w)).rd b o n = if b = i then (if o + n ≤ c.length then some ((c.drop o).take n) else none) else h.rd b o n := by
  by_cases hb : b = i <;> simp [H.rd, blk_set, hb]

theorem rd_all {c : List Value} {e : TypeId} {w : Bool} (hb : h.blk b = some (.row c e w)) (hl : c.length = n) : h.rd b 0 n = some c := by
  rw [rd_of hb, if_pos (by omega), List.drop_zero, List.take_of_length_le (by omega)]

theorem lt_ne {a b : Nat} (h : a < b) : (a = b) = False := eq_false (Nat.ne_of_lt h)
theorem lt_ne1 {a b k : Nat} (h : a < b) : (a = b + k) = False := eq_false (by omega)
theorem lt_ne' {a b : Nat} (h : a < b) : (b = a) = False := eq_false (Nat.ne_of_gt h)

theorem set_new_self (k k' : Blk) : ((h.new k).set h.nx k').blk = (h.new k').blk := by
  funext i
  simp only [blk_set, blk_new]
  split <;> rfl

end

/-- A range loop: rounds 0 to n - 1 keep an invariant, or leave; round n leaves. -/
theorem lp_range {F : List Value → H → Option (Ex × List Value × H)} {k n : Nat} (I : Nat → List Value → H → Prop) (Q : Ex → List Value → H → Prop)
    (step : ∀ i ws h, i < n → I i ws h → ∃ e ws' h', F ws h = some (e, ws', h') ∧ ((e = .normal ∧ I (i + 1) ws' h') ∨ (e ≠ .normal ∧ Q e ws' h')))
    (fin : ∀ ws h, I n ws h → ∃ e ws' h', F ws h = some (e, ws', h') ∧ e ≠ .normal ∧ Q e ws' h')
    {ws : List Value} {h : H} (hk : n < k) (h0 : I 0 ws h) : ∃ e ws' h', lpGo F k ws h = some (e, ws', h') ∧ Q e ws' h' :=
  lpGo_inv (fun d ws h => ∃ i, i + d = n ∧ I i ws h) Q (by
    rintro d ws h ⟨i, hd, hI⟩
    by_cases hi : i = n
    · subst hi
      obtain ⟨e, ws', h', p1, p2, p3⟩ := fin ws h hI
      exact ⟨e, ws', h', p1, .inr ⟨p2, p3⟩⟩
    · obtain ⟨e, ws', h', p1, p2⟩ := step i ws h (by omega) hI
      refine ⟨e, ws', h', p1, ?_⟩
      rcases p2 with ⟨p2, p3⟩ | p2
      · exact .inl ⟨p2, d - 1, by omega, i + 1, by omega, p3⟩
      · exact .inr p2) n k hk ⟨0, by omega, h0⟩

/-- A range loop over a state: every round makes a step, and the last one leaves. -/
theorem lp_fold {σ : Type} {F : List Value → H → Option (Ex × List Value × H)} {k n j : Nat} (enc : Nat → σ → List Value) (f : Nat → σ → σ) (out : σ → List Value) {h : H}
    (step : ∀ i s, i < n → F (enc i s) h = some (.normal, enc (i + 1) (f i s), h)) (fin : ∀ s, F (enc n s) h = some (.exit j, out s, h)) (hk : n < k) (s0 : σ) :
    lpGo F k (enc 0 s0) h = some (.exit j, out ((List.range n).foldl (fun s i => f i s) s0), h) := by
  have key : ∀ (d i m : Nat) (s : σ), i + d = n → d < m → lpGo F m (enc i s) h = some (.exit j, out ((List.range' i d).foldl (fun s i => f i s) s), h) := by
    intro d
    induction d with
    | zero =>
      intro i m s hi hm
      cases m with
      | zero => omega
      | succ m =>
        have : i = n := by omega
        subst this
        rw [lpGo_exit (fin s)]
        rfl
    | succ d ih =>
      intro i m s hi hm
      cases m with
      | zero => omega
      | succ m =>
        rw [lpGo_next (step i s (by omega)), ih (i + 1) m _ (by omega) (by omega)]
        rfl
  have := key n 0 k s0 (by omega) hk
  rw [this, List.range_eq_range']

/-- Rounds over a list, until one leaves. -/
def itL {α σ ρ : Type} (f : Nat → α → σ → σ ⊕ ρ) : List α → Nat → σ → σ ⊕ ρ
  | [], _, s => .inl s
  | x :: l, i, s => match f i x s with
    | .inl s' => itL f l (i + 1) s'
    | .inr r => .inr r

/-- What a round answers. -/
def rnd {σ ρ : Type} (enc : Nat → σ → List Value) (oe : ρ → Ex) (ow : ρ → List Value) (i : Nat) (h : H) : σ ⊕ ρ → Option (Ex × List Value × H)
  | .inl s => some (.normal, enc (i + 1) s, h)
  | .inr r => some (oe r, ow r, h)

/-- A range loop that keeps what was there: each round makes a step of a plain state, or leaves. -/
theorem lp_list {α σ ρ : Type} {F : List Value → H → Option (Ex × List Value × H)} {k : Nat} {l : List α} (enc : Nat → σ → List Value) (f : Nat → α → σ → σ ⊕ ρ) (I : Nat → σ → Prop) (oe : ρ → Ex) (ow : ρ → List Value) (oj : Nat) (on : σ → List Value) {h1 : H}
    {ws : List Value} {s0 : σ} (hws : enc 0 s0 = ws) (h0 : I 0 s0) (hk : l.length < k) (hne : ∀ r, oe r ≠ .normal)
    (fin : ∀ s h, I l.length s → Ext h1 h → F (enc l.length s) h = some (.exit oj, on s, h))
    (step : ∀ i x s h, l[i]? = some x → I i s → Ext h1 h → (∀ s', f i x s = .inl s' → I (i + 1) s') ∧ ∃ h', Ext h h' ∧ F (enc i s) h = rnd enc oe ow i h' (f i x s)) :
    ∃ h', Ext h1 h' ∧ (match itL f l 0 s0 with
      | .inl s => lpGo F k ws h1 = some (.exit oj, on s, h') ∧ I l.length s
      | .inr r => lpGo F k ws h1 = some (oe r, ow r, h')) := by
  have key : ∀ (d i m : Nat) (s : σ) (h : H), i + d = l.length → d < m → I i s → Ext h1 h → ∃ h', Ext h1 h' ∧ (match itL f (l.drop i) i s with
      | .inl s' => lpGo F m (enc i s) h = some (.exit oj, on s', h') ∧ I l.length s'
      | .inr r => lpGo F m (enc i s) h = some (oe r, ow r, h')) := by
    intro d
    induction d with
    | zero =>
      intro i m s h hi hm hI hx
      cases m with
      | zero => omega
      | succ m =>
        have : i = l.length := by omega
        subst this
        rw [List.drop_of_length_le (Nat.le_refl _)]
        exact ⟨h, hx, lpGo_exit (fin s h hI hx), hI⟩
    | succ d ih =>
      intro i m s h hi hm hI hx
      cases m with
      | zero => omega
      | succ m =>
        have hil : i < l.length := by omega
        obtain ⟨hn, h', x', hs⟩ := step i l[i] s h (List.getElem?_eq_getElem hil) hI hx
        rw [List.drop_eq_getElem_cons hil]
        simp only [itL]
        cases hf : f i l[i] s with
        | inl s' =>
          rw [hf] at hs
          simp only [rnd] at hs ⊢
          rw [lpGo_next hs]
          exact ih (i + 1) m s' h' (by omega) (by omega) (hn s' hf) (hx.trans x')
        | inr r =>
          rw [hf] at hs
          simp only [rnd] at hs ⊢
          refine ⟨h', hx.trans x', ?_⟩
          have hn := hne r
          cases he : oe r with
          | normal => exact absurd he hn
          | exit j => rw [he] at hs; exact lpGo_exit hs
          | ret => rw [he] at hs; exact lpGo_ret hs
  have := key l.length 0 k s0 h1 (by omega) hk h0 (.refl _)
  rw [← hws]
  exact this

/-- The same, where the heap stays the same. -/
theorem lp_same {α σ ρ : Type} {F : List Value → H → Option (Ex × List Value × H)} {k : Nat} {l : List α} (enc : Nat → σ → List Value) (f : Nat → α → σ → σ ⊕ ρ) (I : Nat → σ → Prop) (oe : ρ → Ex) (ow : ρ → List Value) (oj : Nat) (on : σ → List Value) {h : H}
    {ws : List Value} {s0 : σ} (hws : enc 0 s0 = ws) (h0 : I 0 s0) (hk : l.length < k) (hne : ∀ r, oe r ≠ .normal)
    (fin : ∀ s, I l.length s → F (enc l.length s) h = some (.exit oj, on s, h))
    (step : ∀ i x s, l[i]? = some x → I i s → (∀ s', f i x s = .inl s' → I (i + 1) s') ∧ F (enc i s) h = rnd enc oe ow i h (f i x s)) :
    (match itL f l 0 s0 with
      | .inl s => lpGo F k ws h = some (.exit oj, on s, h) ∧ I l.length s
      | .inr r => lpGo F k ws h = some (oe r, ow r, h)) := by
  have key : ∀ (d i m : Nat) (s : σ), i + d = l.length → d < m → I i s → (match itL f (l.drop i) i s with
      | .inl s' => lpGo F m (enc i s) h = some (.exit oj, on s', h) ∧ I l.length s'
      | .inr r => lpGo F m (enc i s) h = some (oe r, ow r, h)) := by
    intro d
    induction d with
    | zero =>
      intro i m s hi hm hI
      cases m with
      | zero => omega
      | succ m =>
        have : i = l.length := by omega
        subst this
        rw [List.drop_of_length_le (Nat.le_refl _)]
        exact ⟨lpGo_exit (fin s hI), hI⟩
    | succ d ih =>
      intro i m s hi hm hI
      cases m with
      | zero => omega
      | succ m =>
        have hil : i < l.length := by omega
        obtain ⟨hn, hs⟩ := step i l[i] s (List.getElem?_eq_getElem hil) hI
        rw [List.drop_eq_getElem_cons hil]
        simp only [itL]
        cases hf : f i l[i] s with
        | inl s' =>
          rw [hf] at hs
          simp only [rnd] at hs ⊢
          rw [lpGo_next hs]
          exact ih (i + 1) m s' (by omega) (by omega) (hn s' hf)
        | inr r =>
          rw [hf] at hs
          simp only [rnd] at hs ⊢
          have hn := hne r
          cases he : oe r with
          | normal => exact absurd he hn
          | exit j => rw [he] at hs; exact lpGo_exit hs
          | ret => rw [he] at hs; exact lpGo_ret hs
  have := key l.length 0 k s0 (by omega) hk h0
  rw [← hws]
  exact this

/-- Rounds that leave where a property fails first. -/
theorem itL_all {α σ ρ : Type} {ok : Nat → α → Bool} {g : Nat → α → ρ} {s0 : σ} : ∀ (l : List α) (i : Nat), (∃ r, itL (σ := σ) (ρ := ρ) (fun i x s => if ok i x = true then .inl s else .inr (g i x)) l i s0 = .inr r) ∧ (∃ j x, l[j]? = some x ∧ ok (i + j) x = false) ∨
    itL (σ := σ) (ρ := ρ) (fun i x s => if ok i x = true then .inl s else .inr (g i x)) l i s0 = .inl s0 ∧ ∀ j x, l[j]? = some x → ok (i + j) x = true := by
  intro l
  induction l with
  | nil => intro i; exact .inr ⟨rfl, fun j x h => by simp at h⟩
  | cons x l ih =>
    intro i
    simp only [itL]
    cases hok : ok i x with
    | false => exact .inl ⟨⟨_, rfl⟩, 0, x, rfl, by simpa using hok⟩
    | true =>
      rcases ih (i + 1) with ⟨h1, j, y, hy, h2⟩ | ⟨h1, h2⟩
      · exact .inl ⟨h1, j + 1, y, by simpa using hy, by rw [← h2]; congr 1; omega⟩
      · refine .inr ⟨h1, fun j y hy => ?_⟩
        cases j with
        | zero => simp at hy; subst hy; simpa using hok
        | succ j => rw [← h2 j y (by simpa using hy)]; congr 1; omega

section
variable {P : Program} {h : H} {e t : TypeId} {s : Nat} {v : Value} {L : List (List Value)} {R : Type}

theorem SlR.ldA (a : SlR h e s v L) (ht : aggT P t = some true) (hs : size? P t = some s) {i : Int} (h0 : 0 ≤ i) {x : List Value} (hx : L[i.toNat]? = some x) (K : Value → Option R) :
    (AM.six v i s fun b o => ld P h t b o K) = K (.agg x.toArray) := by
  obtain ⟨b, o, cs, own, hb, hr, q1, q2, q3, q4⟩ := a.six h0 hx
  rw [q4, ld_elem ht hs hr q1 q2 q3]

theorem SlR.ldF (a : SlR h e s v L) (ht : aggT P t = some false) {i : Int} (h0 : 0 ≤ i) {x : List Value} (hx : L[i.toNat]? = some x) {j : Nat} {y : Value} (hy : x[j]? = some y) (K : Value → Option R) :
    (AM.six v i s fun b o => ld P h t b (AM.off o j) K) = K y := by
  obtain ⟨b, o, cs, own, hb, hr, q1, q2, q3, q4⟩ := a.six h0 hx
  rw [q4]
  exact ld_sc ht hr ((q3 j (by rw [← q1]; exact (List.getElem?_eq_some_iff.1 hy).1)).trans hy)

theorem SlR.ld0 (a : SlR h e s v L) (ht : aggT P t = some false) {i : Int} (h0 : 0 ≤ i) {x : List Value} (hx : L[i.toNat]? = some x) {y : Value} (hy : x[0]? = some y) (K : Value → Option R) :
    (AM.six v i s fun b o => ld P h t b o K) = K y := by
  have := a.ldF (K := K) ht h0 hx hy
  simpa [AM.off] using this

theorem SlR.cF (a : SlR h e s v L) {i : Int} (h0 : 0 ≤ i) {x : List Value} (hx : L[i.toNat]? = some x) {j : Nat} {y : Value} (hy : x[j]? = some y) (K : Value → Option R) :
    (AM.six v i s fun b o => (h.cell b (o + j)).bind K) = K y := by
  obtain ⟨b, o, cs, own, hb, hr, q1, q2, q3, q4⟩ := a.six h0 hx
  rw [q4, cell_of hr, (q3 j (by rw [← q1]; exact (List.getElem?_eq_some_iff.1 hy).1)).trans hy]
  rfl

theorem SlR.c0 (a : SlR h e s v L) {i : Int} (h0 : 0 ≤ i) {x : List Value} (hx : L[i.toNat]? = some x) {y : Value} (hy : x[0]? = some y) (K : Value → Option R) :
    (AM.six v i s fun b o => (h.cell b o).bind K) = K y := a.cF h0 hx hy K

theorem SlR.cA (a : SlR h e s v L) {i : Int} (h0 : 0 ≤ i) {x : List Value} (hx : L[i.toNat]? = some x) (K : Value → Option R) :
    (AM.six v i s fun b o => (h.rd b o s).bind fun l => K (.agg l.toArray)) = K (.agg x.toArray) := by
  obtain ⟨b, o, cs, own, hb, hr, q1, q2, q3, q4⟩ := a.six h0 hx
  rw [q4, rd_of hr, if_pos q2, take_drop_eq q1 q2 q3]
  rfl

theorem SlR.lenI (a : SlR h e s v L) (K : Int → Option R) : AM.len v K = K L.length := a.len K

end

end Go.AM
