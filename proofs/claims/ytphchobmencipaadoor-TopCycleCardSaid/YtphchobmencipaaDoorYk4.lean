/- Parts of the proof, put together: what the functions of the program answer, and plain laws. -/
import Derived.Test.YtphchobmencipaaDoorAmRun
import Derived.Test.YtphchobmencipaaDoorRows
import Derived.LaidMore
import Derived.Stop.Joined
import Derived.ProofKit
import Derived.OpenShut
import Derived.Test.YtphchobmencipaaDoorYk3

section

/- Ears, plainly: what a list of ears is, what it leaves, and that one more can be found. -/
namespace Go.AM
open Go.Proofs
/-- The first ear: a cycle. -/
structure Ear1 (g m : List Nat) : Prop where
  len : 4 ≤ m.length
  ends : m.head? = m.getLast?
  nodup : m.dropLast.Nodup
  tr : Tra g m
  lt : ∀ x ∈ m, x < g.length

/-- A further ear: from what is there, through what is not, to what is there. -/
structure Ear2 (n : Nat) (left : List Nat) (there : Nat) (m : List Nat) : Prop where
  len : 2 ≤ m.length
  nodup : m.Nodup
  tr : Tra left m
  bits : ∀ i, i < m.length → (there.testBit (nb m i) = true ↔ i = 0 ∨ i + 1 = m.length)
  lt : ∀ x ∈ m, x < n

/-- Ears, one after the other: the edges that they leave and the nodes that they have. -/
inductive EL (g : List Nat) : List (List Nat) → List Nat → Nat → Prop
  | first {m : List Nat} : Ear1 g m → EL g [m] (delP g m) (setOf m)
  | next {es : List (List Nat)} {left : List Nat} {there : Nat} {m : List Nat} : EL g es left there → Ear2 g.length left there m → EL g (es ++ [m]) (delP left m) (there ||| setOf m)

theorem pop_put {S x : Nat} (hS : S < 1024) (hx : x < 10) (h : S.testBit x = false) : pop (S ||| 2 ^ x) = pop S + 1 := by
  have h1 : S ||| 2 ^ x < 1024 := Nat.or_lt_two_pow (n := 10) hS (Nat.pow_lt_pow_right (by omega) hx)
  have h2 := pop_take (S := S ||| 2 ^ x) (b := x) h1 (by rw [Nat.testBit_or, Nat.testBit_two_pow_self, Bool.or_true])
  have h3 : without (S ||| 2 ^ x) (2 ^ x) = S := by
    refine Nat.eq_of_testBit_eq fun i => ?_
    rw [Bool.eq_iff_iff, bit_del, Nat.testBit_or, Nat.testBit_two_pow, Bool.or_eq_true, decide_eq_true_iff]
    constructor
    · rintro ⟨h1 | h1, h2⟩
      · exact h1
      · exact absurd h1.symm h2
    · intro h1
      exact ⟨.inl h1, fun e => by rw [e, h] at h1; cases h1⟩
  rw [h3] at h2
  exact h2.symm

theorem pop_orL {t : Nat} (ht : t < 1024) : ∀ m : List Nat, m.Nodup → (∀ x ∈ m, x < 10) → pop (t ||| setOf m) = pop t + m.countP fun v => !t.testBit v
  | [], _, _ => by simp [setOf]
  | x :: m, hn, hl => by
    rw [List.nodup_cons] at hn
    have ih := pop_orL ht m hn.2 fun y hy => hl y (List.mem_cons_of_mem _ hy)
    have hx := hl x List.mem_cons_self
    have hlt : t ||| setOf m < 1024 := Nat.or_lt_two_pow (n := 10) ht (setOf_lt fun y hy => hl y (List.mem_cons_of_mem _ hy))
    rw [setOf_cons, ← Nat.or_assoc, List.countP_cons]
    cases hb : t.testBit x with
    | true =>
      have : t ||| setOf m ||| 2 ^ x = t ||| setOf m := by
        refine Nat.eq_of_testBit_eq fun i => ?_
        rw [Nat.testBit_or, Nat.testBit_two_pow, Bool.eq_iff_iff, Bool.or_eq_true, decide_eq_true_iff]
        refine ⟨fun h => h.elim id ?_, .inl⟩
        rintro rfl
        rw [Nat.testBit_or, hb]; rfl
      rw [this, ih]; simp
    | false =>
      rw [pop_put hlt hx (by
        rw [Nat.testBit_or, hb, Bool.false_or]
        exact Bool.eq_false_iff.2 fun h => hn.1 (setOf_bit.1 h)), ih]
      simp; omega

theorem pop_setOf {m : List Nat} (hn : m.Nodup) (hl : ∀ x ∈ m, x < 10) : pop (setOf m) = m.length := by
  have := pop_orL (t := 0) (by omega) m hn hl
  rw [Nat.zero_or] at this
  rw [this]
  have h0 : pop 0 = 0 := by decide
  rw [h0, List.countP_eq_length.2 (by simp)]
  omega

theorem snoc_of {m : List Nat} (h : m ≠ []) : ∃ p z, m = p ++ [z] := ⟨m.dropLast, m.getLast h, (List.dropLast_concat_getLast h).symm⟩

theorem nb_snoc (p : List Nat) (z : Nat) : nb (p ++ [z]) p.length = z := by
  unfold nb; rw [List.getD_eq_getElem?_getD, List.getElem?_append_right (Nat.le_refl _), Nat.sub_self]; rfl

theorem nb_app {p q : List Nat} {i : Nat} (h : i < p.length) : nb (p ++ q) i = nb p i := by
  unfold nb; rw [List.getD_eq_getElem?_getD, List.getD_eq_getElem?_getD, List.getElem?_append_left h]

theorem nb_mem {m : List Nat} {i : Nat} (h : i < m.length) : nb m i ∈ m := by
  unfold nb; rw [List.getD_eq_getElem?_getD, List.getElem?_eq_getElem h]; exact List.getElem_mem h

theorem mem_nb {m : List Nat} {x : Nat} (h : x ∈ m) : ∃ i, i < m.length ∧ nb m i = x := by
  obtain ⟨i, hi, rfl⟩ := List.mem_iff_getElem.1 h
  exact ⟨i, hi, by unfold nb; rw [List.getD_eq_getElem?_getD, List.getElem?_eq_getElem hi]; rfl⟩

theorem nodup_rev {l : List Nat} : l.reverse.Nodup ↔ l.Nodup := (List.reverse_perm l).nodup_iff

/-- A further ear has its two ends among what is there, and no more. -/
theorem Ear2.count {n : Nat} {left : List Nat} {there : Nat} {m : List Nat} (e : Ear2 n left there m) : m.countP (fun v => !there.testBit v) + 2 = m.length := by
  have hl := e.len
  cases m with
  | nil => simp at hl
  | cons a m =>
    cases m with
    | nil => simp at hl
    | cons b m =>
      obtain ⟨p, z, hp⟩ := snoc_of (m := b :: m) (by simp)
      rw [hp] at e ⊢
      have ha := (e.bits 0 (by simp)).2 (.inl rfl)
      have hz := (e.bits (p.length + 1) (by simp)).2 (.inr (by simp))
      have ha' : there.testBit a = true := ha
      have hz' : there.testBit z = true := by
        have : nb (a :: (p ++ [z])) (p.length + 1) = nb (p ++ [z]) p.length := rfl
        rw [this, nb_snoc] at hz
        exact hz
      have hmid : p.countP (fun v => !there.testBit v) = p.length := by
        rw [List.countP_eq_length]
        intro x hx
        obtain ⟨i, hi, rfl⟩ := mem_nb hx
        have h1 := e.bits (i + 1) (by simp; omega)
        have : nb (a :: (p ++ [z])) (i + 1) = nb p i := nb_app hi
        rw [this] at h1
        rw [Bool.not_eq_true']
        exact Bool.eq_false_iff.2 fun h => by
          have := h1.1 h
          simp at this
          omega
      rw [List.countP_cons, List.countP_append, hmid, List.countP_cons, ha', hz']
      simp

structure EI (g : List Nat) (k : Nat) (left : List Nat) (there : Nat) : Prop where
  gr : GrN left
  len : left.length = g.length
  sub : ∀ x y, adj left x y = true → adj g x y = true
  used : ∀ x y, adj g x y = true → adj left x y = true ∨ (there.testBit x = true ∧ there.testBit y = true)
  tn : there < 2 ^ g.length
  two : 2 ≤ pop there
  sum : dsum left + 2 * (pop there + k) = dsum g + 2

theorem Ear1.snoc {g m : List Nat} (e : Ear1 g m) : ∃ a p, m = a :: (p ++ [a]) ∧ (a :: p).Nodup ∧ 2 ≤ p.length := by
  have hl := e.len
  have hh := e.ends
  have hn := e.nodup
  cases m with
  | nil => simp at hl
  | cons a m =>
    obtain ⟨p, z, rfl⟩ := snoc_of (m := m) (by rintro rfl; simp at hl)
    rw [List.head?_cons, ← List.cons_append, List.getLast?_concat, Option.some.injEq] at hh
    rw [← List.cons_append, List.dropLast_concat] at hn
    subst hh
    refine ⟨a, p, rfl, hn, ?_⟩
    simp at hl
    omega

theorem EL.inv {g : List Nat} (hg : GrN g) {es : List (List Nat)} {left : List Nat} {there : Nat} (h : EL g es left there) : EI g es.length left there := by
  have hpow := hg.pow
  have hlen := hg.len
  induction h with
  | @first m e =>
    obtain ⟨a, p, rfl, hn, hp⟩ := e.snoc
    have hset : setOf (a :: (p ++ [a])) = setOf (a :: p) := Nat.eq_of_testBit_eq fun i => by
      rw [Bool.eq_iff_iff, setOf_bit, setOf_bit]
      simp only [List.mem_cons, List.mem_append, List.not_mem_nil, or_false]
      exact ⟨fun h => h.elim .inl fun h => h.elim .inr .inl, fun h => h.elim .inl fun h => .inr (.inl h)⟩
    have hpop : pop (setOf (a :: (p ++ [a]))) = p.length + 1 := by
      rw [hset, pop_setOf hn fun x hx => Nat.lt_of_lt_of_le (e.lt x (by rw [← List.cons_append]; exact List.mem_append_left _ hx)) hlen]
      rfl
    have hd := dsum_delP _ hg e.tr (by simp)
    refine ⟨hg.delP _ e.tr, delP_len _ _, fun x y h => ((adj_delP _ hg e.tr x y).1 h).1, fun x y h => ?_, setOf_lt e.lt, by omega, ?_⟩
    · by_cases ho : onP (a :: (p ++ [a])) x y
      · obtain ⟨h1, h2⟩ := onP_mem _ ho
        exact .inr ⟨setOf_bit.2 h1, setOf_bit.2 h2⟩
      · exact .inl ((adj_delP _ hg e.tr x y).2 ⟨h, ho⟩)
    · rw [hpop]
      simp only [List.length_cons, List.length_append, List.length_nil] at hd ⊢
      omega
  | @next es left there m hEL e ih =>
    have hd := dsum_delP _ ih.gr e.tr (by have := e.len; rintro rfl; simp at this)
    have hc := e.count
    have hpop := pop_orL (t := there) (Nat.lt_of_lt_of_le ih.tn hpow) m e.nodup fun x hx => Nat.lt_of_lt_of_le (e.lt x hx) hlen
    refine ⟨ih.gr.delP _ e.tr, (delP_len _ _).trans ih.len, fun x y h => ih.sub x y ((adj_delP _ ih.gr e.tr x y).1 h).1, fun x y h => ?_, Nat.or_lt_two_pow ih.tn (setOf_lt e.lt), by have := ih.two; omega, ?_⟩
    · rcases ih.used x y h with h1 | ⟨h1, h2⟩
      · by_cases ho : onP m x y
        · obtain ⟨h1, h2⟩ := onP_mem _ ho
          exact .inr ⟨by rw [Nat.testBit_or, setOf_bit.2 h1, Bool.or_true], by rw [Nat.testBit_or, setOf_bit.2 h2, Bool.or_true]⟩
        · exact .inl ((adj_delP _ ih.gr e.tr x y).2 ⟨h1, ho⟩)
      · exact .inr ⟨by rw [Nat.testBit_or, h1]; rfl, by rw [Nat.testBit_or, h2]; rfl⟩
    · have := ih.sum
      have := e.len
      rw [List.length_append, List.length_singleton]
      omega

theorem bit_all {g : List Nat} {x : Nat} (h : x < g.length) : (allN g).testBit x = true := by rw [allN_bit, decide_eq_true h]

/-- Where an edge is left, one of them begins at a node that is there. -/
theorem EI.more {g : List Nat} (hg : GrN g) (hb : Bi g (allN g)) {k : Nat} {left : List Nat} {there : Nat} (e : EI g k left there) (hne : edgesP left ≠ []) : ∃ u, there.testBit u = true ∧ nb left u ≠ 0 := by
  have hpow := hg.pow
  have ht1024 := Nat.lt_of_lt_of_le e.tn hpow
  obtain ⟨q, hq⟩ : ∃ q, q ∈ edgesP left := List.exists_mem_of_ne_nil _ hne
  obtain ⟨h1, h2, h3⟩ := mem_edges.1 hq
  obtain ⟨v0, hv0, _⟩ := exists_other1 (a := 0) ht1024 (by have := e.two; omega)
  have hc1 : q.1 < g.length := by rw [← e.len]; omega
  have hr := hb.conn (Nat.lt_of_lt_of_le (allN_lt g) hpow) v0 q.1 (bit_all (bit_lt e.tn hv0)) (bit_all hc1)
  have hne0 : ∀ x y, adj left x y = true → nb left x ≠ 0 := fun x y h h0 => by unfold adj at h; rw [h0] at h; simp at h
  have : ∀ z, Rch g (allN g) v0 z → there.testBit z = true ∨ ∃ u, there.testBit u = true ∧ nb left u ≠ 0 := by
    intro z hz
    induction hz with
    | base => exact .inl hv0
    | @step a b _ hab _ ih =>
      rcases ih with ih | ih
      · rcases e.used a b hab with h | h
        · exact .inr ⟨a, ih, hne0 a b h⟩
        · exact .inl h.2
      · exact .inr ih
  rcases this _ hr with h | h
  · exact ⟨q.1, h, hne0 _ _ h3⟩
  · exact h

/-- Where no edge is left, all nodes are there. -/
theorem EI.done {g : List Nat} (hg : GrN g) (hb : Bi g (allN g)) {k : Nat} {left : List Nat} {there : Nat} (e : EI g k left there) (he : edgesP left = []) : there = allN g ∧ dsum g + 2 = 2 * (g.length + k) := by
  have hpow := hg.pow
  have ht1024 := Nat.lt_of_lt_of_le e.tn hpow
  have hd0 := (dsum_zero e.gr).2 he
  have hno : ∀ x y, adj left x y = false := by
    intro x y
    refine Bool.eq_false_iff.2 fun h => ?_
    have := dsum_delE e.gr h
    omega
  obtain ⟨v0, hv0, _⟩ := exists_other1 (a := 0) ht1024 (by have := e.two; omega)
  have : there = allN g := by
    refine set_ext e.tn (allN_lt g) fun i hi => ?_
    rw [bit_all hi]
    have hr := hb.conn (Nat.lt_of_lt_of_le (allN_lt g) hpow) v0 i (bit_all (bit_lt e.tn hv0)) (bit_all hi)
    induction hr with
    | base => exact hv0
    | @step a b _ hab _ ih =>
      rcases e.used a b hab with h | h
      · rw [hno] at h; cases h
      · exact h.2
  refine ⟨this, ?_⟩
  have h1 := e.sum
  rw [hd0, this, show pop (allN g) = g.length from (pop_all hg.len).1] at h1
  omega

/-- A way that was found makes an ear. -/
theorem EI.ear {g : List Nat} (hg : GrN g) {k : Nat} {left : List Nat} {there : Nat} (e : EI g k left there) {u w W to x : Nat} {l : List Nat} (hu : there.testBit u = true) (huw : adj left u w = true)
    (hto : ∀ i, to.testBit i = true ↔ there.testBit i = true ∧ i ≠ u) (hW : ∀ i, W.testBit i = true → i ≠ u) (way : WayB g w W to l) (hh : l.head? = some x) (hx : to.testBit x = true) : Ear2 g.length left there (u :: l.reverse) := by
  have hun := bit_lt e.tn hu
  have hne : l ≠ [] := by rintro rfl; simp at hh
  have hl0 : 0 < l.length := List.length_pos_iff.2 hne
  obtain ⟨y, l', rfl⟩ : ∃ y l', l = y :: l' := by
    cases l with
    | nil => exact absurd rfl hne
    | cons y l' => exact ⟨y, l', rfl⟩
  simp only [List.head?_cons, Option.some.injEq] at hh
  subst hh
  have huw' : u ≠ w := by rintro rfl; rw [e.gr.irr] at huw; cases huw
  have hlast := way.last
  have hul : u ∉ y :: l' := by
    intro hm
    obtain ⟨p, z, hp⟩ := snoc_of (m := y :: l') (by simp)
    rw [hp, List.getLast?_concat, Option.some.injEq] at hlast
    have hW' := way.inW
    rw [hp, List.dropLast_concat] at hW'
    rw [hp, List.mem_append, List.mem_singleton] at hm
    rcases hm with h | h
    · exact hW u (hW' u h) rfl
    · exact huw' (h.trans hlast)
  have hnb : ∀ i, i < (y :: l').length → nb (y :: l').reverse i = nb (y :: l') ((y :: l').length - 1 - i) := fun i hi => nb_rev hi
  have hbit : ∀ i, i < (y :: l').length → (there.testBit (nb (y :: l').reverse i) = true ↔ i + 1 = (y :: l').length) := by
    intro i hi
    rw [hnb i hi]
    simp only [List.length_cons] at hi ⊢
    constructor
    · intro hb
      refine Classical.byContradiction fun hc => ?_
      have hm : nb (y :: l') (l'.length + 1 - 1 - i) ∈ l' := by
        obtain ⟨j, hj⟩ : ∃ j, l'.length + 1 - 1 - i = j + 1 := ⟨l'.length - i - 1, by omega⟩
        rw [hj]
        exact nb_mem (m := l') (by omega)
      have h1 := way.noTo _ hm
      have h2 := (hto (nb (y :: l') (l'.length + 1 - 1 - i))).2 ⟨hb, fun e => hul (by rw [← e]; exact List.mem_cons_of_mem _ hm)⟩
      rw [h1] at h2; cases h2
    · intro hi2
      rw [show l'.length + 1 - 1 - i = 0 by omega]
      exact ((hto y).1 hx).1
  refine ⟨by simp, List.nodup_cons.2 ⟨by rw [List.mem_reverse]; exact hul, nodup_rev.2 way.nodup⟩, ?_, ?_, ?_⟩
  · refine tr_of _ e.gr (ch_of _ fun i hi => ?_) (List.nodup_cons.2 ⟨by rw [List.mem_reverse]; exact hul, nodup_rev.2 way.nodup⟩)
    cases i with
    | zero =>
      have : nb (u :: (y :: l').reverse) (0 + 1) = w := by
        have h1 : nb (u :: (y :: l').reverse) (0 + 1) = nb (y :: l').reverse 0 := rfl
        rw [h1]
        obtain ⟨p, z, hp⟩ := snoc_of (m := y :: l') (by simp)
        rw [hp, List.getLast?_concat, Option.some.injEq] at hlast
        rw [hp, List.reverse_append, hlast]; rfl
      rw [this]; exact huw
    | succ i =>
      have h1 : ∀ j, nb (u :: (y :: l').reverse) (j + 1) = nb (y :: l').reverse j := fun _ => rfl
      rw [h1, h1]
      simp only [List.length_cons, List.length_reverse] at hi
      have hadj := ch_get _ way.ch i (by rw [List.length_reverse, List.length_cons]; omega)
      rcases e.used _ _ hadj with h | ⟨h, _⟩
      · exact h
      · have := (hbit i (by rw [List.length_cons]; omega)).1 h
        rw [List.length_cons] at this
        omega
  · intro i hi
    cases i with
    | zero => exact ⟨fun _ => .inl rfl, fun _ => hu⟩
    | succ i =>
      have h1 : nb (u :: (y :: l').reverse) (i + 1) = nb (y :: l').reverse i := rfl
      simp only [List.length_cons, List.length_reverse] at hi
      rw [h1, hbit i (by rw [List.length_cons]; omega)]
      simp only [List.length_cons, List.length_reverse]
      omega
  · intro z hz
    rw [List.mem_cons, List.mem_reverse] at hz
    rcases hz with rfl | hz
    · exact hun
    · exact way.lt z hz

/-- There is a way for an ear. -/
theorem EI.way {g : List Nat} (hg : GrN g) (hb : Bi g (allN g)) {k : Nat} {left : List Nat} {there : Nat} (e : EI g k left there) {u w W to : Nat} (hu : there.testBit u = true) (huw : adj left u w = true)
    (hto : ∀ i, to.testBit i = true ↔ there.testBit i = true ∧ i ≠ u) (hW : ∀ i, i < g.length → i ≠ u → W.testBit i = true) : ∃ x, to.testBit x = true ∧ Rch g W w x := by
  have hpow := hg.pow
  have huw' : w ≠ u := by rintro rfl; rw [e.gr.irr] at huw; cases huw
  have hwn := (hg.adj_lt (e.sub _ _ huw)).2
  obtain ⟨x, hx, hxu⟩ := exists_other1 (a := u) (Nat.lt_of_lt_of_le e.tn hpow) (by have := e.two; omega)
  refine ⟨x, (hto x).2 ⟨hx, hxu⟩, (hb u w x (bit_del.2 ⟨bit_all hwn, huw'⟩) (bit_del.2 ⟨bit_all (bit_lt e.tn hx), hxu⟩)).mono fun i hi => ?_⟩
  have h := bit_del.1 hi
  exact hW i (bit_lt (allN_lt g) h.1) h.2

/-- The first edge is in a cycle. -/
theorem first_way {g : List Nat} (hg : GrN g) (hb : Bi g (allN g)) (h3 : 3 ≤ g.length) {a b : Nat} (hab : adj g a b = true) : Rch (delE g a b) (allN g) a b := by
  have hpow := hg.pow
  obtain ⟨ha, hbn⟩ := hg.adj_lt hab
  have hne : a ≠ b := by rintro rfl; rw [hg.irr] at hab; cases hab
  have hp : pop (allN g) = g.length := (pop_all hg.len).1
  obtain ⟨c, hc, hca, hcb⟩ := exists_other (a := a) (b := b) (Nat.lt_of_lt_of_le (allN_lt g) hpow) (by rw [hp]; omega)
  have hda := fun {x : Nat} => bit_del (S := allN g) (w := a) (i := x)
  have hw : ∀ z, without (allN g) (2 ^ z) < 2 ^ g.length := fun z => without_le _ _ (allN_lt g)
  have r1 := hb b a c (bit_del.2 ⟨bit_all ha, hne⟩) (bit_del.2 ⟨hc, hcb⟩)
  have r2 := hb a c b (bit_del.2 ⟨hc, hca⟩) (bit_del.2 ⟨bit_all hbn, fun e => hne e.symm⟩)
  have n1 : ∀ z, (without (allN g) (2 ^ z)).testBit z = false := fun z => Bool.eq_false_iff.2 fun h => (bit_del.1 h).2 rfl
  exact (r1.del hg hab (.inr (n1 b)) (bit_del.2 ⟨bit_all ha, hne⟩) (hw b)).trans (r2.del hg hab (.inl (n1 a)) (bit_del.2 ⟨hc, hca⟩) (hw a))

theorem first_ear {g : List Nat} (hg : GrN g) {a b W : Nat} {l : List Nat} (hab : adj g a b = true) (way : WayB (delE g a b) a W (2 ^ b) l) (hh : l.head? = some b) : Ear1 g (l.reverse ++ [a]) := by
  obtain ⟨ha, hbn⟩ := hg.adj_lt hab
  have hne : a ≠ b := by rintro rfl; rw [hg.irr] at hab; cases hab
  have hgd := hg.delE hab
  have hch := way.ch
  have hlast := way.last
  have hnod := way.nodup
  have hlt := way.lt
  rw [delE_len] at hlt
  -- the way's list, read forward
  obtain ⟨p, hp⟩ : ∃ p, l.reverse = p := ⟨_, rfl⟩
  have hl : l = p.reverse := by rw [← hp, List.reverse_reverse]
  subst hl
  rw [List.reverse_reverse] at hch ⊢
  rw [List.getLast?_reverse] at hlast
  rw [List.head?_reverse] at hh
  rw [nodup_rev] at hnod
  have hlt' : ∀ x ∈ p, x < g.length := fun x hx => hlt x (List.mem_reverse.2 hx)
  cases p with
  | nil => simp at hlast
  | cons a' p =>
    simp only [List.head?_cons, Option.some.injEq] at hlast
    subst hlast
    cases p with
    | nil =>
      simp at hh
      exact absurd hh hne
    | cons c p =>
      cases p with
      | nil =>
        simp at hh
        subst hh
        have := hch.1
        rw [adj_delE ha hbn hne] at this
        simp at this
      | cons d p =>
        refine ⟨by simp, ?_, ?_, ?_, ?_⟩
        · rw [List.getLast?_concat]; rfl
        · rw [List.dropLast_concat]; exact hnod
        · have hac := hch.1
          have hsub : ∀ x y, adj (delE g a' b) x y = true → adj g x y = true := fun x y h => by
            rw [adj_delE ha hbn hne, Bool.and_eq_true] at h; exact h.1
          have hac' := hsub _ _ hac
          obtain ⟨_, hcn⟩ := hg.adj_lt hac'
          have hnac : a' ≠ c := by rintro rfl; rw [hg.irr] at hac'; cases hac'
          refine ⟨hac', ?_⟩
          rw [List.nodup_cons] at hnod
          obtain ⟨q, z, hq⟩ := snoc_of (m := d :: p) (by simp)
          have hz : z = b := by
            rw [List.getLast?_cons_cons, List.getLast?_cons_cons, hq, List.getLast?_concat] at hh
            exact Option.some.inj hh
          have hm2 : (c :: d :: p) ++ [a'] = c :: ((d :: p) ++ [a']) := rfl
          have hna : a' ∉ c :: d :: p := hnod.1
          have hcb : c ≠ b := by
            rintro rfl
            have := (List.nodup_cons.1 hnod.2).1
            rw [hq, hz] at this
            simp at this
          show Tra (delE g a' c) ((c :: d :: p) ++ [a'])
          refine tr_of _ (hg.delE hac') (ch_of _ fun i hi => ?_) ?_
          · simp only [List.length_append, List.length_cons, List.length_nil] at hi
            rw [adj_delE ha hcn hnac, Bool.and_eq_true]
            by_cases hi2 : i + 1 < (c :: d :: p).length
            · rw [nb_app (by omega), nb_app hi2]
              have h1 := ch_get _ hch (i + 1) (by simp at hi2 ⊢; omega)
              have h2 : ∀ j, nb (a' :: c :: d :: p) (j + 1) = nb (c :: d :: p) j := fun _ => rfl
              rw [h2, h2] at h1
              refine ⟨hsub _ _ h1, ?_⟩
              have m1 := nb_mem (m := c :: d :: p) (i := i) (by omega)
              have m2 := nb_mem (m := c :: d :: p) (i := i + 1) hi2
              rw [Bool.not_eq_true', Bool.or_eq_false_iff, decide_eq_false_iff_not, decide_eq_false_iff_not]
              exact ⟨fun h => hna (h.1 ▸ m1), fun h => hna (h.2 ▸ m2)⟩
            · have hi3 : i + 1 = (c :: d :: p).length := by simp at hi2 ⊢; omega
              rw [hi3, nb_snoc, nb_app (by omega)]
              have hzi : nb (c :: d :: p) i = b := by
                have : c :: d :: p = (c :: q) ++ [z] := by rw [hq]; rfl
                rw [this] at hi3 ⊢
                rw [show i = (c :: q).length by simp at hi3 ⊢; omega, nb_snoc, hz]
              rw [hzi]
              have := hg.sym a' b
              rw [hab] at this
              refine ⟨this.symm, ?_⟩
              rw [Bool.not_eq_true', Bool.or_eq_false_iff, decide_eq_false_iff_not, decide_eq_false_iff_not]
              exact ⟨fun h => hne h.1.symm, fun h => hcb h.1.symm⟩
          · rw [List.nodup_append]
            refine ⟨hnod.2, by simp, fun x hx y hy => ?_⟩
            rw [List.mem_singleton] at hy
            rintro rfl
            rw [hy] at hx
            exact hna hx
        · intro x hx
          rw [List.mem_append, List.mem_singleton] at hx
          rcases hx with hx | rfl
          · exact hlt' x hx
          · exact ha

end Go.AM

end

section

/- Ears in a heap; one more ear is found and added. -/
namespace Go.AM
open Go.Proofs
variable {R : Type}
attribute [local simp] nx_eq nx_new nx_set blk_new blk_set asI_int asK_int asB_bool asP_ptr al_eq bx_eq len_slice onE_exit onE_ret onR_ret Value.cells cell_new cell_set rd_new rd_set off eq lt le ifB gv out ext20 ext21
theorem app66 : okApp Tryd.prog 66 3 1 = true := by kernel_rfl

theorem bls66 (z : Int) (h : H) : buildSlice Tryd.prog 66 1 [(0, .int .i64 z)] h = some (.slice (some ⟨h.nx, 0, none⟩) 1 1, h.new (.row [iv z] 3 true)) := by kernel_rfl

/-- Slices that hold ears. -/
def ES (h : H) (bth : Nat) (vs : List Value) (es : List (List Nat)) : Prop := vs.length = es.length ∧ ∀ (i : Nat) (x : Value) (m : List Nat), vs[i]? = some x → es[i]? = some m → SlR h 3 1 x (cellsN m) ∧ blkOf x ≠ some bth

theorem ES.keep {h h' : H} {bth : Nat} {vs : List Value} {es : List (List Nat)} (a : ES h bth vs es) (hn : h.nx ≤ h'.nx) (hb : ∀ b cs o, b < h.nx → b ≠ bth → h.blk b = some (.row cs 3 o) → h'.blk b = h.blk b) : ES h' bth vs es :=
  ⟨a.1, fun i x m hx hm => by
    obtain ⟨a1, a2⟩ := a.2 i x m hx hm
    refine ⟨a1.keepB hn fun b hbb => ?_, a2⟩
    obtain ⟨h1, cs, o, h2⟩ := a1.blkR hbb
    exact hb b cs o h1 (fun e => a2 (by rw [← e]; exact hbb)) h2⟩

theorem ES.snoc {h : H} {bth : Nat} {vs : List Value} {es : List (List Nat)} (a : ES h bth vs es) {x : Value} {m : List Nat} (hx : SlR h 3 1 x (cellsN m)) (hx2 : blkOf x ≠ some bth) : ES h bth (vs ++ [x]) (es ++ [m]) := by
  refine ⟨by simp [a.1], fun i y k hy hk => ?_⟩
  have h1 := a.1
  by_cases hi : i < vs.length
  · rw [List.getElem?_append_left hi] at hy
    rw [List.getElem?_append_left (by omega)] at hk
    exact a.2 i y k hy hk
  · have hi2 := (List.getElem?_eq_some_iff.1 hy).1
    simp at hi2
    have : i = vs.length := by omega
    subst this
    simp at hy
    rw [h1] at hk
    simp at hk
    subst hy hk
    exact ⟨hx, hx2⟩

structure EJ (n : Nat) (h : H) (bth blf bou : Nat) (es : List (List Nat)) (left : List Nat) (there : Nat) (g : H) : Prop where
  he : HE n left there bth blf g
  out : ∃ ov vs, g.blk bou = some (.row [ov] 61 true) ∧ AqR h.nx g 66 1 ov (cellsV vs) ∧ AllSl vs ∧ ES g bth vs es
  ext : Ext h g
  b1 : h.nx ≤ bth
  b2 : h.nx ≤ blf
  b3 : h.nx ≤ bou
  b4 : bou < g.nx

section
variable {n bth blf bou there : Nat} {h g g' : H} {es : List (List Nat)} {left : List Nat}
theorem EJ.grow (a : EJ n h bth blf bou es left there g) (x : Ext g g') : EJ n h bth blf bou es left there g' := by
  obtain ⟨ov, vs, o1, o2, o3, o4⟩ := a.out
  refine ⟨a.he.keep x.nx (x.blk _ a.he.l1) (x.blk _ a.he.l2) (fun b _ _ hb _ _ => x.blk b hb), ⟨ov, vs, (x.blk _ a.b4).trans o1, o2.ext x, o3, o4.keep x.nx fun b _ _ hb _ _ => x.blk b hb⟩, a.ext.trans x, a.b1, a.b2, a.b3, Nat.lt_of_lt_of_le a.b4 x.nx⟩

theorem EJ.add (a : EJ n h bth blf bou es left there g) {m : List Nat} {p} {q r : Nat} (hm : ∀ x ∈ m, x < n) (hne : ∀ i, i + 1 < m.length → nb m i ≠ nb m (i + 1)) (hml : m.length ≤ 100) (h0 : SlR g 3 1 (.slice p q r) (cellsN m)) (h0b : blkOf (.slice p q r) ≠ some bth) (hes : es.length ≤ 1000) :
    ∃ g', rn 75 #[.slice p q r, pt bth 0, pt blf 0, pt bou 0] g = some (undef, g') ∧ EJ n h bth blf bou (es ++ [m]) (delP left m) (there ||| setOf m) g' := by
  obtain ⟨ov, vs, o1, o2, o3, o4⟩ := a.out
  obtain ⟨g', ov', e75, he, w1, w2, n1, k1⟩ := s75 hm hne hml h0 h0b a.he o1 a.b4 o2 a.ext.nx (by have := o4.1; omega)
  rw [fold_ear] at he
  have hb1 := a.b1
  have hb2 := a.b2
  have hb3 := a.b3
  obtain ⟨lv, l1, _⟩ := a.he.lf
  have hk : ∀ b cs o, b < g.nx → b ≠ bth → g.blk b = some (.row cs 3 o) → g'.blk b = g.blk b := fun b cs o hb hbt hr => by
    refine k1 b hb hbt ?_ ?_ ?_
    · rintro rfl; rw [l1] at hr; exact absurd (row_ty hr) (by decide)
    · rintro rfl; rw [o1] at hr; exact absurd (row_ty hr) (by decide)
    · intro e
      have := (o2.blkOf e).2.2
      rw [hr] at this; exact absurd (row_ty this) (by decide)
  refine ⟨g', e75, he, ⟨ov', vs ++ [.slice p q r], w1, w2, ?_, (o4.keep n1 hk).snoc (h0.keepB n1 fun b hb => ?_) h0b⟩, ⟨by have := a.ext.nx; omega, fun b hb => ?_⟩, hb1, hb2, hb3, by have := a.b4; omega⟩
  · intro x hx
    rw [List.mem_append, List.mem_singleton] at hx
    rcases hx with hx | rfl
    · exact o3 x hx
    · exact ⟨_, _, _, rfl⟩
  · obtain ⟨z1, cs, o, z2⟩ := h0.blkR hb
    exact hk b cs o z1 (fun e => h0b (by rw [← e]; exact hb)) z2
  · have := a.ext.nx
    rw [k1 b (by omega) (by omega) (by omega) (by omega) (fun e => by have := (o2.blkOf e).1; omega)]
    exact a.ext.blk b hb

end
theorem tra_ne {g : List Nat} (hg : GrN g) {m : List Nat} (h : Tra g m) : ∀ i, i + 1 < m.length → nb m i ≠ nb m (i + 1) := fun i hi e => by
  have := ch_get m (h.ch m hg) i hi
  rw [e, hg.irr] at this; cases this

set_option maxHeartbeats 1000000 in
theorem s30_l2 {G : List Nat} {tv v21 : Value} {h h3 h5 h7 g : H} {es : List (List Nat)} {left : List Nat} {there k : Nat} {ws0 : List Value} (hG : GrN G) (hbi : Bi G (allN G)) (hs : SlR h 3 1 tv (cellsN G)) (hEL : EL G es left there) (hes : es.length ≤ 1000) (hne : edgesP left ≠ [])
    (hJ : EJ G.length h h5.nx h3.nx h7.nx es left there g) (h21 : SlR g 3 1 v21 (cellsN (elts there))) (hk : 20 ≤ k) (hws : ws0 = [iv 0]) :
    ∃ w g', lpGo (f30_l2 rn k tv h3 h5 h7 v21 ((elts there).length : Int)) k ws0 g = some (.exit 2, w, g') ∧ ∃ m, Ear2 G.length left there m ∧ EJ G.length h h5.nx h3.nx h7.nx (es ++ [m]) (delP left m) (there ||| setOf m) g' := by
  subst hws
  have hlen := hG.len
  have hpow := hG.pow
  have hI := hEL.inv hG
  have ht1024 := Nat.lt_of_lt_of_le hI.tn hpow
  have hell : (elts there).length ≤ 10 := by unfold elts; exact Nat.le_trans (List.length_filter_le ..) (by simp)
  have hleft := hI.len
  obtain ⟨lv, l1, l2, l3⟩ := hJ.he.lf
  have hth := hJ.he.th
  have hsg := hs.ext hJ.ext
  obtain ⟨e, ws', g', hlp, rfl, m, hm1, hm2⟩ := lp_range (F := f30_l2 rn k tv h3 h5 h7 v21 ((elts there).length : Int)) (k := k) (n := (elts there).length)
    (fun i ws g' => g' = g ∧ ws = [iv i] ∧ ∀ j, j < i → nb left (nb (elts there) j) = 0)
    (fun e ws g' => e = .exit 2 ∧ ∃ m, Ear2 G.length left there m ∧ EJ G.length h h5.nx h3.nx h7.nx (es ++ [m]) (delP left m) (there ||| setOf m) g')
    (by
      rintro i ws g' hi ⟨rfl, rfl, hz⟩
      obtain ⟨u, hud⟩ : ∃ u, nb (elts there) i = u := ⟨_, rfl⟩
      have hum : u ∈ elts there := hud ▸ nb_mem hi
      have hut := (mem_elts ht1024).1 hum
      have hun := bit_lt hI.tn hut
      have hadd : add .i64 (i : Int) 1 = ((i + 1 : Nat) : Int) := by rw [add64 (by omega) (by omega)]; omega
      have e1 : ∀ (K : Value → Option (Ex × List Value × H)), (six v21 (i : Int) 1 fun b o => ld Tryd.prog g' 3 b o K) = K (iv (u : Nat)) := fun K => by
        simp only [d3]; rw [getN h21 hi, hud]
      have e2 : ∀ (K : Value → Option (Ex × List Value × H)), (six lv (u : Int) 1 fun b o => ld Tryd.prog g' 3 b o K) = K (iv (nb left u : Nat)) := fun K => by
        simp only [d3]; rw [getN l2 (by omega)]
      have hx1024 := Nat.lt_of_lt_of_le (hI.gr.nb_lt u) hI.gr.pow
      have start : ∀ r, (ifB (AM.eq (nb left u : Int) 0) (AM.out .normal [iv ((i + 1 : Nat) : Int)] g') (
          calls rn g' 79 [(.int .u64 (wr .u64 (nb left u : Nat)))] fun v27 h22 =>
          asI .i64 v27 fun n13 =>
          ld Tryd.prog h22 3 (nx h5) 0 fun v28 =>
          asI .i64 v28 fun n14 =>
          nn (u : Int) (
            calls rn h22 43 [tv] fun v29 h23 =>
            asI .i64 v29 fun n15 =>
            ck (freq (nx h5) (nx h22) (same h23 h22)) (
              ld Tryd.prog h23 3 (nx h5) 0 fun v30 =>
              asI .i64 v30 fun n16 =>
              ck (freq (nx h5) (nx h22) (same h23 h22)) (
                calls rn h23 78 [tv, (.int .i64 n13), (.int .i64 (AM.andNot .i64 n14 (AM.shl .i64 1 (u : Int)))), (.int .i64 (AM.andNot .i64 n15 n16))] fun v31 h24 =>
                bls Tryd.prog h24 66 1 [(0, (.int .i64 (u : Int)))] fun v32 h25 =>
                ck (freq (nx h5) (nx h24) (same h25 h24)) (
                  ck (freq (nx h5) (nx h24) (same h25 h24)) (
                    app Tryd.prog h25 66 22 v32 v31 fun v33 h26 =>
                    calls rn h26 75 [v33, (pt (nx h5) 0), (pt (nx h3) 0), (pt (nx h7) 0)] fun _ h27 =>
                    AM.out (.exit 2) [iv i] h27))))))) = r → f30_l2 rn k tv h3 h5 h7 v21 ((elts there).length : Int) [iv i] g' = r := by
        intro r hr
        unfold f30_l2
        rw [show AM.gv [iv i] 0 = iv i from rfl, asI_int, lt_t (by omega), ifB_true, asK_int, e1, asI_int]
        simp only [d72, nx_eq, cell_of l1]
        rw [show ([lv] : List Value)[0]? = some lv from rfl]
        simp only [Option.bind_some]
        rw [e2, asI_int, asI_int, hadd, e2, asI_int]
        exact hr
      by_cases hz0 : nb left u = 0
      · refine ⟨.normal, [iv ((i + 1 : Nat) : Int)], g', start _ ?_, .inl ⟨rfl, rfl, rfl, fun j hj => ?_⟩⟩
        · rw [hz0]; rfl
        · by_cases hji : j = i
          · rw [hji, hud]; exact hz0
          · exact hz j (by omega)
      · have hpos := Nat.pos_of_ne_zero hz0
        have hwb := low_bit hpos hx1024
        obtain ⟨w, hwd⟩ : ∃ w, low (nb left u) = w := ⟨_, rfl⟩
        rw [hwd] at hwb
        have huw : adj left u w = true := hwb
        have hwn := (hG.adj_lt (hI.sub _ _ huw)).2
        have e79 := s79 hpos hx1024 g'
        rw [hwd] at e79
        have hsh : AM.andNot .i64 (there : Int) (AM.shl .i64 1 (u : Int)) = ((without there (2 ^ u) : Nat) : Int) := by
          have h2u : (2 : Nat) ^ u < 1024 := Nat.pow_lt_pow_right (n := 10) (by omega) (by omega)
          rw [shl1_nat (by omega), andNot_nat (by omega) (by omega)]
        have hal := Nat.lt_of_lt_of_le (allN_lt G) hpow
        have han : AM.andNot .i64 (allN G : Int) (there : Int) = ((without (allN G) there : Nat) : Int) := andNot_nat (by omega) (by omega)
        obtain ⟨v31, g2, e78, x78', hor⟩ := s78 (to := without there (2 ^ u)) (thr := without (allN G) there) hG.toGrB hsg hwn (without_le _ _ hI.tn) (without_le _ _ (allN_lt G))
        have hto : ∀ i, (without there (2 ^ u)).testBit i = true ↔ there.testBit i = true ∧ i ≠ u := fun i => bit_del
        have hWb : ∀ i, (without (allN G) there ||| without there (2 ^ u)).testBit i = true ↔ i < G.length ∧ i ≠ u := fun i => by
          rw [Nat.testBit_or, Bool.or_eq_true, testBit_without, Bool.and_eq_true, Bool.not_eq_true', bit_del, allN_bit, decide_eq_true_iff]
          constructor
          · rintro (⟨h1, h2⟩ | ⟨h1, h2⟩)
            · exact ⟨h1, fun e => by rw [e, hut] at h2; cases h2⟩
            · exact ⟨bit_lt hI.tn h1, h2⟩
          · rintro ⟨h1, h2⟩
            cases hb : there.testBit i with
            | false => exact .inl ⟨h1, rfl⟩
            | true => exact .inr ⟨rfl, h2⟩
        rcases hor with ⟨l, x, way, hhd, hx, a31⟩ | ⟨_, hno⟩
        · have ear := hI.ear hG hut huw hto (fun i hi => ((hWb i).1 hi).2) way hhd hx
          obtain ⟨g3, hg3⟩ : ∃ g3, g3 = g2.new (.row [iv u] 3 true) := ⟨_, rfl⟩
          have x3 : Exw g2 g3 := by rw [hg3]; exact Exw.new _ _
          have n3 : g3.nx = g2.nx + 1 := by rw [hg3]; rfl
          have n2 := x78'.nx
          have hl1 := hJ.he.l1
          have hl2 := hJ.he.l2
          have hl4 := hJ.b4
          have hlit : AqR g2.nx g3 3 1 (.slice (some ⟨g2.nx, 0, none⟩) 1 1) (cellsN [u]) := by
            rw [hg3]
            exact AqR.lit (l := [[iv (u : Int)]]) (Nat.le_refl _) rfl (by simp) (by simp)
          have hll := nodes_le ear.nodup ear.lt
          rw [List.length_cons, List.length_reverse] at hll
          obtain ⟨v33, g4, ea, a4, n4, k4, _⟩ := hlit.app (y := v31) (ys := cellsN l.reverse) (P := Tryd.prog) (t := 66) (t' := 22) app66 app22 (a31.slR.ext x3.toExt) (cellsN_scal _) (by simp; omega) (by omega)
          have hcat : cellsN [u] ++ cellsN l.reverse = cellsN (u :: l.reverse) := rfl
          rw [hcat] at a4
          have x4 : Ext g' g4 := ⟨by omega, fun b hb => by
            rw [k4 b (by omega) (fun e => by cases e; omega), x3.blk b (by omega)]
            exact x78'.blk b hb⟩
          have hJ4 := hJ.grow x4
          obtain ⟨p, q, r, rfl⟩ := a4.isSl
          obtain ⟨g5, e75, hJ5⟩ := hJ4.add (m := u :: l.reverse) ear.lt (tra_ne hI.gr ear.tr) (by simp; omega) a4.slR (fun e => by have := (a4.blkOf e).1; omega) hes
          refine ⟨.exit 2, [iv i], g5, start _ ?_, .inr ⟨by simp, rfl, _, ear, hJ5⟩⟩
          rw [show AM.eq (nb left u : Int) 0 = false by simp [AM.eq]; omega, ifB_false, wr64u hx1024, calls_eq (xs := [.int .u64 (nb left u : Nat)]) e79, asI_int]
          simp only [d3, nx_eq, cell_of hth]
          rw [show ([iv (there : Int)] : List Value)[0]? = some (iv there) from rfl]
          simp only [Option.bind_some]
          rw [asI_int, nn_ge (show (0 : Int) ≤ (u : Int) by omega), calls_eq (xs := [tv]) (s43 hG.toGrB hsg), asI_int]
          simp only [freq, same_self, decide_eq_true hl1, Bool.and_self, ck_true, cell_of hth]
          rw [show ([iv (there : Int)] : List Value)[0]? = some (iv there) from rfl]
          simp only [Option.bind_some, asI_int]
          rw [hsh, han, calls_eq (xs := [tv, iv w, iv ((without there (2 ^ u) : Nat) : Int), iv ((without (allN G) there : Nat) : Int)]) e78, bls_some (bls66 (u : Int) g2), ← hg3,
            show same g3 g2 = true by simp [same, x3.wr], decide_eq_true (show h5.nx < g2.nx by omega), Bool.and_self, ck_true, ck_true, ea, calls_eq (xs := [.slice p q r, pt h5.nx 0, pt h3.nx 0, pt h7.nx 0]) e75]
          rfl
        · obtain ⟨x, hx, hr⟩ := hI.way hG hbi hut huw hto (fun i h1 h2 => (hWb i).2 ⟨h1, h2⟩)
          exact absurd hr (hno x hx))
    (by
      rintro ws g' ⟨_, _, hz⟩
      obtain ⟨u, hu, hnz⟩ := hI.more hG hbi hne
      obtain ⟨j, hj, rfl⟩ := mem_nb ((mem_elts ht1024).2 hu)
      exact absurd (hz j hj) hnz)
    (ws := [iv 0]) (h := g) (by omega) ⟨rfl, rfl, fun j hj => by omega⟩
  exact ⟨ws', g', hlp, m, hm1, hm2⟩

end Go.AM

end

section

/- Ears: the program's search, whole. -/
namespace Go.AM
open Go.Proofs
variable {R : Type}
attribute [local simp] nx_eq nx_new nx_set blk_new blk_set asI_int asK_int asB_bool asP_ptr al_eq bx_eq len_slice onE_exit onE_ret onR_ret Value.cells cell_new cell_set rd_new rd_set off eq lt le ifB gv out ext20 ext21
theorem pop_le10 (x : Nat) : pop x ≤ 10 := by unfold pop; exact Nat.le_trans List.countP_le_length (by simp)

theorem dsum_le : ∀ g : List Nat, dsum g ≤ 10 * g.length
  | [] => by simp [dsum]
  | x :: g => by
    have := dsum_le g
    have h2 := pop_le10 x
    unfold dsum at this ⊢
    rw [List.map_cons, List.sum_cons, List.length_cons]
    omega

set_option maxHeartbeats 1000000 in
theorem s30_l1 {G : List Nat} {tv : Value} {h h3 h5 h7 g : H} {es : List (List Nat)} {left : List Nat} {there : Nat} (hG : GrN G) (hbi : Bi G (allN G)) (hs : SlR h 3 1 tv (cellsN G)) (hEL : EL G es left there)
    (hJ : EJ G.length h h5.nx h3.nx h7.nx es left there g) :
    ∃ w g', lpGo (f30_l1 rn 600 tv h3 h5 h7) 600 [] g = some (.exit 0, w, g') ∧ ∃ es' left', EL G es' left' (allN G) ∧ edgesP left' = [] ∧ EJ G.length h h5.nx h3.nx h7.nx es' left' (allN G) g' := by
  have hlen := hG.len
  have hpow := hG.pow
  have hdG := dsum_le G
  obtain ⟨e, w, g', hlp, rfl, es', left', q⟩ := lpGo_inv (F := f30_l1 rn 600 tv h3 h5 h7)
    (fun d _ g => ∃ es left there, d = dsum left ∧ EL G es left there ∧ EJ G.length h h5.nx h3.nx h7.nx es left there g)
    (fun e _ g' => e = .exit 0 ∧ ∃ es' left', EL G es' left' (allN G) ∧ edgesP left' = [] ∧ EJ G.length h h5.nx h3.nx h7.nx es' left' (allN G) g')
    (by
      rintro d ws g ⟨es, left, there, rfl, hEL, hJ⟩
      have hI := hEL.inv hG
      have ht1024 := Nat.lt_of_lt_of_le hI.tn hpow
      have hsum := hI.sum
      obtain ⟨lv, l1, l2, l3⟩ := hJ.he.lf
      obtain ⟨v19, g1, e77, x1, a19⟩ := s77 hI.gr.toGrB l2
      have hJ1 := hJ.grow x1.toExt
      have hn19 : ∀ {T : Type} (K : Int → Option T), len v19 K = K ((edgesP left).length : Int) := fun K => by rw [a19.slR.len]; simp
      have hth1 := hJ1.he.th
      by_cases hne : edgesP left = []
      · obtain ⟨hta, _⟩ := hI.done hG hbi hne
        subst hta
        refine ⟨.exit 0, [], g1, ?_, .inr ⟨by simp, rfl, es, left, hEL, hne, hJ1⟩⟩
        unfold f30_l1
        simp only [d72, nx_eq, cell_of l1]
        rw [show ([lv] : List Value)[0]? = some lv from rfl]
        simp only [Option.bind_some]
        rw [calls_eq (xs := [lv]) e77, hn19, hne]
        rfl
      · have hpos : 0 < (edgesP left).length := List.length_pos_iff.2 hne
        obtain ⟨v21, g2, e54, x2, a21⟩ := s54A ht1024 g1
        have hJ2 := hJ1.grow x2.toExt
        have hn21 : ∀ {T : Type} (K : Int → Option T), len v21 K = K ((elts there).length : Int) := fun K => by rw [a21.slR.len]; simp
        obtain ⟨w, g3, e3, m, ear, hJ3⟩ := s30_l2 (k := 600) (ws0 := [iv 0]) hG hbi hs hEL (by omega) hne hJ2 a21.slR (by omega) rfl
        have hel : 2 ≤ m.length := ear.len
        have hdd := dsum_delP m hI.gr ear.tr (by rintro rfl; simp at hel)
        refine ⟨.normal, [], g3, ?_, .inl ⟨rfl, dsum (delP left m), by omega, es ++ [m], _, _, rfl, .next hEL ear, hJ3⟩⟩
        unfold f30_l1
        simp only [d72, nx_eq, cell_of l1]
        rw [show ([lv] : List Value)[0]? = some lv from rfl]
        simp only [Option.bind_some]
        rw [calls_eq (xs := [lv]) e77, hn19, lt_t (by omega), ifB_true]
        simp only [d3, cell_of hth1]
        rw [show ([iv (there : Int)] : List Value)[0]? = some (iv there) from rfl]
        simp only [Option.bind_some]
        rw [asI_int, calls_eq (xs := [iv there]) e54, hn21]
        refine (lp_eq e3).trans ?_
        rw [onE_exit, if_pos rfl]
        rfl)
    (dsum left) 600 (by
      have := hEL.inv hG
      have := this.sum
      have := (hEL.inv hG).two
      omega) (ws := []) (h := g) ⟨es, left, there, rfl, hEL, hJ⟩
  exact ⟨w, g', hlp, es', left', q⟩

theorem s30_bad {v : Value} {l : List Int} {h : H} (hval : validG l = false) (hs : SlR h 3 1 v (cellsI l)) : rn 30 #[v] h = some (.tuple #[.slice none 0 0, iv 2], h) := by
  have c63 := fun (K : Value → H → Option (Value × H)) => calls_eq (K := K) (xs := [v]) (s36 hs)
  rw [hval] at c63
  refine y30 (k := 0) ?_
  unfold f30
  rw [c63]
  rfl

theorem s30_single {v : Value} {g : List Nat} {h : H} (hg : GrN g) (hval : validG (g.map Int.ofNat) = true) (hs : SlR h 3 1 v (cellsN g)) (hd : doubleP g = false) : rn 30 #[v] h = some (.tuple #[.slice none 0 0, iv 5], h) := by
  have c63 := fun (K : Value → H → Option (Value × H)) => calls_eq (K := K) (xs := [v]) (s36 (l := g.map Int.ofNat) (h := h) (by rw [cellsN_eq]; exact hs))
  rw [if_pos hval] at c63
  refine y30 (k := 0) ?_
  unfold f30
  rw [c63, ext20, ext21, asB_bool, show (!true) = false from rfl, ifB_false, calls_eq (xs := [v]) (s73 hg hs), asB_bool, hd]
  rfl

set_option maxHeartbeats 2000000 in
theorem s30 {v : Value} {G : List Nat} {h : H} (hG : GrN G) (hval : validG (G.map Int.ofNat) = true) (hs : SlR h 3 1 v (cellsN G)) (hd : doubleP G = true) :
    ∃ v' h' vs es left, rn 30 #[v] h = some (.tuple #[v', iv 0], h') ∧ Exw h h' ∧ EL G es left (allN G) ∧ edgesP left = [] ∧ SlR h' 66 1 v' (cellsV vs) ∧ AllSl vs ∧ vs.length = es.length ∧
      ∀ (i : Nat) (x : Value) (m : List Nat), vs[i]? = some x → es[i]? = some m → SlR h' 3 1 x (cellsN m) := by
  have hlen := hG.len
  have hpow := hG.pow
  have hbi := double_bi hG hd
  have h3le : 3 ≤ G.length := by
    unfold doubleP at hd
    simp only [Bool.and_eq_true, decide_eq_true_eq] at hd
    exact hd.1.1
  have hG0 : G ≠ [] := by rintro rfl; simp at h3le
  have c63 := fun (K : Value → H → Option (Value × H)) => calls_eq (K := K) (xs := [v]) (s36 (l := G.map Int.ofNat) (h := h) (by rw [cellsN_eq]; exact hs))
  rw [if_pos hval] at c63
  have c81 := fun (K : Value → H → Option (Value × H)) => calls_eq (K := K) (xs := [v]) (s73 hG hs)
  rw [hd] at c81
  refine s74 hG.toGrB hG0 hs fun v5 h3 bb e74 x3 hbb hia => ?_
  obtain ⟨c5, hv5, _⟩ := hia.val
  have hbl := hia.lt
  obtain ⟨h4, hh4⟩ : ∃ h4, h4 = h3.new (.row [.slice none 0 0] 72 true) := ⟨_, rfl⟩
  obtain ⟨h5, hh5⟩ : ∃ h5, h5 = h4.set h3.nx (.row [v5] 72 true) := ⟨_, rfl⟩
  obtain ⟨h6, hh6⟩ : ∃ h6, h6 = h5.new (.row [iv 0] 3 true) := ⟨_, rfl⟩
  obtain ⟨h7, hh7⟩ : ∃ h7, h7 = h6.set h5.nx (.row [iv 0] 3 true) := ⟨_, rfl⟩
  obtain ⟨h8, hh8⟩ : ∃ h8, h8 = h7.new (.row [.slice none 0 0] 61 true) := ⟨_, rfl⟩
  have n4 : h4.nx = h3.nx + 1 := by rw [hh4]; rfl
  have n5 : h5.nx = h3.nx + 1 := by rw [hh5, nx_set, n4]
  have n6 : h6.nx = h3.nx + 2 := by rw [hh6, nx_new, n5]
  have n7 : h7.nx = h3.nx + 2 := by rw [hh7, nx_set, n6]
  have n8 : h8.nx = h3.nx + 3 := by rw [hh8, nx_new, n7]
  have n3 := x3.nx
  have x5 : Ext h3 h5 := by rw [hh5, hh4]; exact ((Ext.refl h3).new' _).set (Nat.le_refl _) _
  have x7 : Ext h5 h7 := by rw [hh7, hh6]; exact ((Ext.refl h5).new' _).set (Nat.le_refl _) _
  have x19 : Ext h7 h8 := by rw [hh8]; exact Ext.new _ _
  have w4 : ∀ (K : H → Option (Value × H)), (wrc 1 h4 h3.nx 0 v5).bind K = K h5 := fun K => by
    rw [hh5, hh4, hv5]; unfold wrc; rw [blk_new_self]; rfl
  have w6 : ∀ (K : H → Option (Value × H)), (wrc 1 h6 h5.nx 0 (.int .i64 0)).bind K = K h7 := fun K => by
    rw [hh7, hh6]; unfold wrc; rw [blk_new_self]; rfl
  have b3 : h5.blk h3.nx = some (.row [v5] 72 true) := by rw [hh5]; exact blk_set_self _ _ _
  have b5 : h7.blk h5.nx = some (.row [iv 0] 3 true) := by rw [hh7]; exact blk_set_self _ _ _
  have b7 : h8.blk h7.nx = some (.row [.slice none 0 0] 61 true) := by rw [hh8]; exact blk_new_self _ _
  have xh8 : Ext h3 h8 := x5.trans (x7.trans x19)
  have hbv : ∀ b, blkOf v5 = some b → b = bb := fun b hb => by rw [hv5] at hb; cases hb; rfl
  have hJ8 : EJ G.length h h5.nx h3.nx h7.nx [] G 0 h8 := by
    refine ⟨⟨(x19.blk _ (by omega)).trans b5, ⟨v5, ((x7.trans x19).blk _ (by omega)).trans b3, hia.slN.ext xh8, fun e => by have := hbv _ e; omega⟩, hG.toGrB, rfl, Nat.two_pow_pos _, by omega, by omega⟩,
      ⟨.slice none 0 0, [], b7, .nil, (fun x hx => by cases hx), ⟨rfl, fun i x m hx => by simp at hx⟩⟩, x3.toExt.trans xh8, by omega, by omega, by omega, by omega⟩
  obtain ⟨v6, h9, e77, x9, a6⟩ := s77 hG.toGrB (hs.ext (x3.toExt.trans xh8))
  -- the first edge
  obtain ⟨q, E, hE⟩ : ∃ q E, edgesP G = q :: E := by
    cases hq : edgesP G with
    | nil =>
      exfalso
      have hc := hbi.conn (Nat.lt_of_lt_of_le (allN_lt G) hpow) 0 1 (bit_all (by omega)) (bit_all (by omega))
      obtain ⟨u, hu, _⟩ := hc.next (by omega)
      have := (dsum_zero hG).2 hq
      have := dsum_delE hG hu
      omega
    | cons q E => exact ⟨q, E, rfl⟩
  obtain ⟨a, b⟩ := q
  obtain ⟨hab, hbn, hadj⟩ := mem_edges.1 (show (a, b) ∈ edgesP G by rw [hE]; exact List.mem_cons_self)
  simp only at hab hbn hadj
  obtain ⟨h11, hh11⟩ : ∃ h11, h11 = (h9.new (.row [.int .i64 0, .int .i64 0] 83 true)).set h9.nx (.row [iv a, iv b] 83 true) := ⟨_, rfl⟩
  have b11 : h11.blk h9.nx = some (.row [iv a, iv b] 83 true) := by rw [hh11]; exact blk_set_self _ _ _
  have n11 : h11.nx = h9.nx + 1 := by rw [hh11]; rfl
  have x11 : Ext h9 h11 := by rw [hh11]; exact ((Ext.refl h9).new' _).set (Nat.le_refl _) _
  have xh11 : Ext h h11 := (x3.toExt.trans xh8).trans (x9.toExt.trans x11)
  obtain ⟨v9, h12, e76, x12, bb2, hbb2, hia2⟩ := s76 (a := a) (b := b) hG.toGrB (by omega) hbn (by omega) (hs.ext xh11)
  have xh12 : Ext h h12 := xh11.trans x12.toExt
  have b12 : h12.blk h9.nx = some (.row [iv a, iv b] 83 true) := (x12.blk _ (by omega)).trans b11
  have hgd := hG.delE hadj
  have hdl : (delE G a b).length = G.length := delE_len G a b
  have h2b : 2 ^ b < 2 ^ G.length := Nat.pow_lt_pow_right (by omega) hbn
  have hallE : allN (delE G a b) = allN G := allN_delE G a b
  obtain ⟨v13, h14, e78, x14, hor⟩ := s78 (a := a) (to := 2 ^ b) (thr := allN G) hgd.toGrB hia2.slN (by omega) (by rw [hdl]; exact h2b) (by rw [hdl]; exact allN_lt G)
  have hmono : ∀ i, (allN G).testBit i = true → (allN G ||| 2 ^ b).testBit i = true := fun i hi => by rw [Nat.testBit_or, hi]; rfl
  rcases hor with ⟨l, x, way, hhd, hx, a13⟩ | ⟨_, hno⟩
  · have hxb : x = b := by rw [Nat.testBit_two_pow, decide_eq_true_iff] at hx; exact hx.symm
    subst hxb
    have ear := first_ear hG hadj way hhd
    obtain ⟨h15, hh15⟩ : ∃ h15, h15 = h14.new (.row [iv a] 3 true) := ⟨_, rfl⟩
    have x15 : Exw h14 h15 := by rw [hh15]; exact Exw.new _ _
    have n15 : h15.nx = h14.nx + 1 := by rw [hh15]; rfl
    have n12 := x12.nx
    have n14 := x14.nx
    have n9 := x9.nx
    have hlit : AqR h14.nx h15 3 1 (.slice (some ⟨h14.nx, 0, none⟩) 1 1) (cellsN [a]) := by
      rw [hh15]
      exact AqR.lit (l := [[iv (a : Int)]]) (Nat.le_refl _) rfl (by simp) (by simp)
    have hll := nodes_le way.nodup way.lt
    obtain ⟨v16, h16, ea, a16, n16, k27, _⟩ := (a13.ext x15.toExt).app (y := .slice (some ⟨h14.nx, 0, none⟩) 1 1) (ys := cellsN [a]) (P := Tryd.prog) (t := 66) (t' := 66) app66 app66 hlit.slR (cellsN_scal _) (by simp; omega) (by omega)
    have hcat : cellsN l.reverse ++ cellsN [a] = cellsN (l.reverse ++ [a]) := by simp
    rw [hcat] at a16
    have x27 : Ext h8 h16 := ⟨by omega, fun y hy => by
      rw [k27 y (by omega) (fun e => by have := (a13.blkOf e).1; omega), x15.blk y (by omega), x14.blk y (by omega), x12.blk y (by omega), x11.blk y (by omega)]
      exact x9.blk y hy⟩
    have hJ16 := hJ8.grow x27
    obtain ⟨p, qq, r, rfl⟩ := a16.isSl
    obtain ⟨h17, e75, hJ17⟩ := hJ16.add (m := l.reverse ++ [a]) ear.lt (tra_ne hG ear.tr) (by simp; omega) a16.slR (fun e => by have := (a16.blkOf e).1; omega) (by simp)
    rw [List.nil_append, Nat.zero_or] at hJ17
    obtain ⟨w, h29, el1, es, left, hEL, hle, hJ29⟩ := s30_l1 (h3 := h3) (h5 := h5) (h7 := h7) hG hbi hs (.first ear) hJ17
    obtain ⟨ov, vs, o1, o2, o3, o4⟩ := hJ29.out
    have e1 : ∀ (K : Value → Option (Value × H)), (six v6 0 2 fun b o => ld Tryd.prog h9 83 b o K) = K (.agg #[iv a, iv x]) := fun K =>
      a6.slR.ldA ag83 sz83 (by omega) (x := [iv a, iv x]) (by simp [hE]) K
    have w10 : ∀ (K : H → Option (Value × H)), (wrc 2 (h9.new (.row [.int .i64 0, .int .i64 0] 83 true)) h9.nx 0 (.agg #[iv a, iv x])).bind K = K h11 := fun K => by
      rw [hh11]; unfold wrc; rw [blk_new_self]; rfl
    have hsame1 : same h12 h11 = true := by simp [same, x12.wr]
    have hsame2 : same h14 h12 = true := by simp [same, x14.wr]
    have hsame3 : same h15 h14 = true := by simp [same, x15.wr]
    have b14 : h14.blk h9.nx = some (.row [iv a, iv x] 83 true) := (x14.blk _ (by omega)).trans b12
    have hshl : AM.shl .i64 1 (x : Int) = ((2 ^ x : Nat) : Int) := shl1_nat (by omega)
    have f1 : freq h9.nx h11.nx (same h12 h11) = true := by simp [freq, hsame1]; omega
    have f2 : freq h9.nx h12.nx (same h12 h12) = true := by simp [freq, same_self]; omega
    have f3 : freq h9.nx h12.nx (same h14 h12) = true := by simp [freq, hsame2]; omega
    have f4 : freq h9.nx h14.nx (same h15 h14) = true := by simp [freq, hsame3]; omega
    have e30 : f30 rn 600 v h = some (.tuple #[ov, iv 0], h29) := by
      unfold f30
      rw [c63, ext20, ext21, asB_bool, show (!true) = false from rfl, ifB_false, c81, asB_bool, show (!true) = false from rfl, ifB_false, calls_eq (xs := [v]) e74, al_eq, ← hh4, w72, nx_eq, w4, al_eq, ← hh6, w3, nx_eq, w6, al_eq, ← hh8, calls_eq (xs := [v]) e77, e1, al_eq, w83, nx_eq, w10]
      simp only [aix_in (show (0 : Int) ≤ 0 by omega) (show (0 : Int) < ((2 : Nat) : Int) by omega), aix_in (show (0 : Int) ≤ 1 by omega) (show (1 : Int) < ((2 : Nat) : Int) by omega), d83, d3, at_, show h11.rd h9.nx 0 2 = some [iv (a : Int), iv (x : Int)] from rd_all b11 rfl, Option.bind_some]
      rw [show (Value.agg [iv (a : Int), iv (x : Int)].toArray) = .agg #[iv a, iv x] from rfl, calls_eq (xs := [v, .agg #[iv a, iv x]]) e76]
      simp only [cell_of b12, cell_of b14]
      rw [show ([iv (a : Int), iv (x : Int)] : List Value)[0 + (0 : Int).toNat * 1]? = some (iv a) from rfl, show ([iv (a : Int), iv (x : Int)] : List Value)[0 + (1 : Int).toNat * 1]? = some (iv x) from rfl]
      simp only [nx_eq, Option.bind_some, asI_int, f1, ck_true]
      rw [nn_ge (show (0 : Int) ≤ (x : Int) by omega), calls_eq (xs := [v]) (s43 hG.toGrB (hs.ext xh12)), asI_int]
      simp only [nx_eq, f2, ck_true]
      rw [hshl, calls_eq (xs := [v9, iv a, iv ((2 ^ x : Nat) : Int), iv (allN G : Nat)]) e78]
      simp only [cell_of b14]
      rw [show ([iv (a : Int), iv (x : Int)] : List Value)[0 + (0 : Int).toNat * 1]? = some (iv a) from rfl]
      simp only [nx_eq, Option.bind_some, asI_int, f1, f2, f3, ck_true]
      rw [bls_some (bls66 (a : Int) h14), ← hh15]
      simp only [nx_eq, f4, ck_true]
      rw [ea, calls_eq (xs := [.slice p qq r, pt h5.nx 0, pt h3.nx 0, pt h7.nx 0]) e75]
      rw [lp_eq el1]
      rw [onE_exit, if_pos rfl]
      simp only [d61, nx_eq, cell_of o1]
      rfl
    obtain ⟨h30, e59, m30, w25⟩ := x30 e30 o2.slR.notR2
    exact ⟨ov, h30, vs, es, left, e59, w25 hJ29.ext, hEL, hle, o2.slR.ext m30.ext, o3, o4.1, fun i y m hy hm => (o4.2 i y m hy hm).1.ext m30.ext⟩
  · have hw := first_way hG hbi h3le hadj
    exact absurd (hw.mono hmono) (hno b (by rw [Nat.testBit_two_pow, decide_eq_true rfl]))

end Go.AM

end

section

/- Ears, plainly: what a check of ears says, and that ears leave no cut node. -/
namespace Go.AM
open Go.Proofs
/-! ### How many edges -/
/-! ### One more node at the end -/
theorem delP_snoc : ∀ (m : List Nat) (g : List Nat) (a b : Nat), delP g (m ++ [a, b]) = delE (delP g (m ++ [a])) a b
  | [], _, _, _ => rfl
  | [_], _, _, _ => rfl
  | x :: y :: m, g, a, b => delP_snoc (y :: m) (delE g x y) a b

theorem tra_snoc : ∀ (m : List Nat) (g : List Nat) (a b : Nat), Tra g (m ++ [a, b]) ↔ Tra g (m ++ [a]) ∧ adj (delP g (m ++ [a])) a b = true
  | [], _, _, _ => ⟨fun h => ⟨trivial, h.1⟩, fun h => ⟨h.2, trivial⟩⟩
  | [x], _, _, _ => ⟨fun h => ⟨⟨h.1, trivial⟩, h.2.1⟩, fun h => ⟨h.1.1, h.2, trivial⟩⟩
  | x :: y :: m, g, a, b => by
    have := tra_snoc (y :: m) (delE g x y) a b
    exact ⟨fun h => ⟨⟨h.1, (this.1 h.2).1⟩, (this.1 h.2).2⟩, fun h => ⟨h.1.1, this.2 ⟨h.1.2, h.2⟩⟩⟩

/-! ### An ear that may be the first -/
structure EarK (k n : Nat) (left : List Nat) (there : Nat) (m : List Nat) : Prop where
  len : 2 ≤ m.length
  first : k = 0 → 4 ≤ m.length ∧ nb m 0 = nb m (m.length - 1)
  lt : ∀ x ∈ m, x < n
  tr : Tra left m
  fresh : ∀ i, i < m.length → (0 < k ∨ i + 1 < m.length) → nb m i ∉ m.take i
  bits : 0 < k → ∀ i, i < m.length → (there.testBit (nb m i) = true ↔ i = 0 ∨ i + 1 = m.length)

theorem nodup_fresh {m : List Nat} : m.Nodup ↔ ∀ i, i < m.length → nb m i ∉ m.take i := by
  constructor
  · intro h i hi hm
    obtain ⟨j, hj, he⟩ := mem_nb hm
    rw [List.length_take] at hj
    have h1 : nb (m.take i) j = nb m j := by
      unfold nb; rw [List.getD_eq_getElem?_getD, List.getD_eq_getElem?_getD, List.getElem?_take_of_lt (by omega)]
    rw [h1] at he
    unfold nb at he
    rw [List.getD_eq_getElem?_getD, List.getD_eq_getElem?_getD, List.getElem?_eq_getElem hi, List.getElem?_eq_getElem (show j < m.length by omega)] at he
    have := (List.getElem_inj h).1 he
    omega
  · intro h
    rw [List.nodup_iff_pairwise_ne, List.pairwise_iff_getElem]
    intro j i hj hi hji he
    refine h i hi ?_
    have : nb m i = m[i] := by unfold nb; rw [List.getD_eq_getElem?_getD, List.getElem?_eq_getElem hi]; rfl
    rw [this, ← he, List.mem_iff_getElem]
    exact ⟨j, by rw [List.length_take]; omega, by rw [List.getElem_take]⟩

theorem earK_one {g m : List Nat} {there : Nat} : EarK 0 g.length g there m ↔ Ear1 g m := by
  constructor
  · intro e
    obtain ⟨h4, hh⟩ := e.first rfl
    have hne : m ≠ [] := by rintro rfl; simp at h4
    refine ⟨h4, ?_, ?_, e.tr, e.lt⟩
    · unfold nb at hh
      rw [List.getD_eq_getElem?_getD, List.getD_eq_getElem?_getD, List.getElem?_eq_getElem (show 0 < m.length by omega), List.getElem?_eq_getElem (show m.length - 1 < m.length by omega)] at hh
      rw [List.head?_eq_getElem?, List.getLast?_eq_getElem?, List.getElem?_eq_getElem (show 0 < m.length by omega), List.getElem?_eq_getElem (show m.length - 1 < m.length by omega)]
      exact congrArg some hh
    · rw [nodup_fresh]
      intro i hi
      rw [List.length_dropLast] at hi
      have h1 := e.fresh i (by omega) (.inr (by omega))
      have h2 : nb m.dropLast i = nb m i := by
        unfold nb; rw [List.getD_eq_getElem?_getD, List.getD_eq_getElem?_getD, List.getElem?_dropLast, if_pos (by omega)]
      rw [h2, List.dropLast_eq_take, List.take_take, Nat.min_eq_left (by omega)]
      exact h1
  · intro e
    have h4 := e.len
    have hh := e.ends
    refine ⟨by omega, fun _ => ⟨h4, ?_⟩, e.lt, e.tr, ?_, fun h => absurd h (by omega)⟩
    · rw [List.head?_eq_getElem?, List.getLast?_eq_getElem?] at hh
      unfold nb
      rw [List.getD_eq_getElem?_getD, List.getD_eq_getElem?_getD, hh]
    · intro i hi hor
      have h1 := nodup_fresh.1 e.nodup i (by rw [List.length_dropLast]; omega)
      have h2 : nb m.dropLast i = nb m i := by
        unfold nb; rw [List.getD_eq_getElem?_getD, List.getD_eq_getElem?_getD, List.getElem?_dropLast, if_pos (by omega)]
      rw [h2, List.dropLast_eq_take, List.take_take, Nat.min_eq_left (by omega)] at h1
      exact h1

theorem earK_two {k n there : Nat} {left m : List Nat} (hk : 0 < k) : EarK k n left there m ↔ Ear2 n left there m := by
  constructor
  · intro e
    exact ⟨e.len, nodup_fresh.2 fun i hi => e.fresh i hi (.inl hk), e.tr, e.bits hk, e.lt⟩
  · intro e
    exact ⟨e.len, fun h => absurd h (by omega), e.lt, e.tr, fun i hi _ => nodup_fresh.1 e.nodup i hi, fun _ => e.bits⟩

/-! ### The check of a list -/
/-- What a check has: nothing yet, or ears. -/
def ELk (g : List Nat) (es : List (List Nat)) (left : List Nat) (there : Nat) : Prop := (es = [] ∧ left = g ∧ there = 0) ∨ EL g es left there

theorem ELk.add {g : List Nat} {es : List (List Nat)} {left : List Nat} {there : Nat} {m : List Nat} (h : ELk g es left there) (e : EarK es.length g.length left there m) : ELk g (es ++ [m]) (delP left m) (there ||| setOf m) := by
  rcases h with ⟨rfl, rfl, rfl⟩ | h
  · rw [Nat.zero_or, List.nil_append]
    exact .inr (.first (earK_one.1 e))
  · have : 0 < es.length := by
      cases h with
      | first => simp
      | next => simp
    exact .inr (.next h ((earK_two this).1 e))

theorem EL.pos {g : List Nat} {es : List (List Nat)} {left : List Nat} {there : Nat} (h : EL g es left there) : 0 < es.length := by
  cases h with
  | first => simp
  | next => simp

/-- A list of ears takes a graph together. -/
def EarsOk (g : List Nat) (LL : List (List Int)) : Prop := ∃ es left, LL = es.map (fun m => m.map Int.ofNat) ∧ EL g es left (allN g) ∧ edgesP left = []

theorem EL.split {g : List Nat} {es : List (List Nat)} {left : List Nat} {there : Nat} (h : EL g es left there) : ∀ (i : Nat) (m : List Nat), es[i]? = some m → ∃ left' there', ELk g (es.take i) left' there' ∧ EarK i g.length left' there' m := by
  induction h with
  | @first m e =>
    intro i x hx
    have hi := (List.getElem?_eq_some_iff.1 hx).1
    simp at hi
    subst hi
    simp at hx
    subst hx
    exact ⟨g, 0, .inl ⟨rfl, rfl, rfl⟩, earK_one.2 e⟩
  | @next es left there m h e ih =>
    intro i x hx
    have hi := (List.getElem?_eq_some_iff.1 hx).1
    by_cases hlt : i < es.length
    · rw [List.getElem?_append_left hlt] at hx
      obtain ⟨l', t', h1, h2⟩ := ih i x hx
      refine ⟨l', t', ?_, h2⟩
      rw [List.take_append_of_le_length (by omega)]
      exact h1
    · simp at hi
      have : i = es.length := by omega
      subst this
      simp at hx
      subst hx
      refine ⟨left, there, ?_, (earK_two h.pos).2 e⟩
      rw [List.take_append_of_le_length (by omega), List.take_of_length_le (by omega)]
      exact .inr h

theorem ELk.fun_ {g : List Nat} {es : List (List Nat)} {l1 l2 : List Nat} {t1 t2 : Nat} (h1 : ELk g es l1 t1) (h2 : ELk g es l2 t2) : l1 = l2 ∧ t1 = t2 := by
  have key : ∀ {es : List (List Nat)} {l1 : List Nat} {t1 : Nat}, EL g es l1 t1 → ∀ {l2 : List Nat} {t2 : Nat}, EL g es l2 t2 → l1 = l2 ∧ t1 = t2 := by
    intro es l1 t1 h
    induction h with
    | @first m e =>
      intro l2 t2 h2
      generalize hes : [m] = es at h2
      cases h2 with
      | first e' => cases hes; exact ⟨rfl, rfl⟩
      | next h' e' =>
        have h3 := h'.pos
        have h5 := congrArg List.length hes
        rw [List.length_append, List.length_singleton, List.length_singleton] at h5
        omega
    | @next es left there m h e ih =>
      intro l2 t2 h2
      generalize hes : es ++ [m] = es' at h2
      cases h2 with
      | first e' =>
        have h3 := h.pos
        have h5 := congrArg List.length hes
        rw [List.length_append, List.length_singleton, List.length_singleton] at h5
        omega
      | next h' e' =>
        obtain ⟨h3, h4⟩ := List.append_inj' hes rfl
        cases h3; cases h4
        obtain ⟨rfl, rfl⟩ := ih h'
        exact ⟨rfl, rfl⟩
  rcases h1 with ⟨rfl, rfl, rfl⟩ | h1
  · rcases h2 with ⟨_, rfl, rfl⟩ | h2
    · exact ⟨rfl, rfl⟩
    · exact absurd h2.pos (by simp)
  · rcases h2 with ⟨rfl, _, _⟩ | h2
    · exact absurd h1.pos (by simp)
    · exact key h1 h2

theorem EL.ear_len {g : List Nat} {es : List (List Nat)} {left : List Nat} {there : Nat} (h : EL g es left there) : ∀ m ∈ es, m.length ≤ g.length + 1 := by
  intro m hm
  obtain ⟨i, hi, rfl⟩ := List.mem_iff_getElem.1 hm
  obtain ⟨l', t', hk0, e⟩ := h.split i _ (List.getElem?_eq_getElem hi)
  by_cases hk : 0 < i
  · have e2 := (earK_two hk).1 e
    have := nodes_le e2.nodup e2.lt
    omega
  · have : i = 0 := by omega
    subst this
    have hlg : l' = g := by
      rcases hk0 with ⟨_, h1, _⟩ | h1
      · exact h1
      · exact absurd h1.pos (by simp)
    rw [hlg] at e
    have e1 := earK_one.1 e
    have := nodes_le e1.nodup (fun x hx => e1.lt x (List.dropLast_subset _ hx))
    rw [List.length_dropLast] at this
    omega

theorem EL.three {g : List Nat} (hg : GrN g) {es : List (List Nat)} {left : List Nat} {there : Nat} (h : EL g es left there) : 3 ≤ pop there := by
  have hlen := hg.len
  induction h with
  | @first m e =>
    obtain ⟨a, p, rfl, hn, hp⟩ := e.snoc
    have hset : setOf (a :: (p ++ [a])) = setOf (a :: p) := Nat.eq_of_testBit_eq fun i => by
      rw [Bool.eq_iff_iff, setOf_bit, setOf_bit]
      simp only [List.mem_cons, List.mem_append, List.not_mem_nil, or_false]
      exact ⟨fun h => h.elim .inl fun h => h.elim .inr .inl, fun h => h.elim .inl fun h => .inr (.inl h)⟩
    rw [hset, pop_setOf hn fun x hx => Nat.lt_of_lt_of_le (e.lt x (by rw [← List.cons_append]; exact List.mem_append_left _ hx)) hlen, List.length_cons]
    omega
  | @next es left there m h e ih =>
    exact Nat.le_trans ih (pop_le_of fun j hj => by rw [Nat.testBit_or, hj]; rfl)

theorem EarsOk.small {g : List Nat} (hg : GrN g) {LL : List (List Int)} (h : EarsOk g LL) : LL.length ≤ 48 ∧ ∀ x ∈ LL, x.length ≤ 11 := by
  have hlen := hg.len
  obtain ⟨es, left, rfl, h1, h2⟩ := h
  have hs := (h1.inv hg).sum
  have h3 := h1.three hg
  have hd := dsum_le g
  refine ⟨by rw [List.length_map]; omega, fun x hx => ?_⟩
  obtain ⟨m, hm, rfl⟩ := List.mem_map.1 hx
  have := h1.ear_len m hm
  rw [List.length_map]
  omega

/-! ### No cut node -/
end Go.AM

end

section

/- The document's check of ears: edges that are used. -/
namespace Go.AM
open Go.Proofs
variable {R : Type}
attribute [local simp] nx_eq nx_new nx_set blk_new blk_set asI_int asK_int asB_bool asP_ptr al_eq bx_eq len_slice onE_exit onE_ret onR_ret Value.cells cell_new cell_set rd_new rd_set off eq lt le ifB gv out ext20 ext21
/-! ### Plain -/
theorem tra_pre : ∀ (p q : List Nat) (g : List Nat), Tra g (p ++ q) → Tra g p
  | [], _, _, _ => trivial
  | [_], _, _, _ => trivial
  | a :: b :: p, q, g, h => ⟨h.1, tra_pre (b :: p) q (delE g a b) h.2⟩

section
variable {g left : List Nat} {used : List (Nat × Nat)}
end
/-! ### The walk -/
end Go.AM

end

section

/- The document's check of ears: whole. -/
namespace Go.AM
open Go.Proofs
variable {R : Type}
attribute [local simp] nx_eq nx_new nx_set blk_new blk_set asI_int asK_int asB_bool asP_ptr al_eq bx_eq len_slice onE_exit onE_ret onR_ret Value.cells cell_new cell_set rd_new rd_set off eq lt le ifB gv out ext20 ext21
/-! ### Plain -/
theorem setOf_snoc (q : List Nat) (x : Nat) : setOf (q ++ [x]) = setOf q ||| 2 ^ x := Nat.eq_of_testBit_eq fun i => by
  rw [Bool.eq_iff_iff, Nat.testBit_or, Bool.or_eq_true, setOf_bit, setOf_bit, List.mem_append, List.mem_singleton, Nat.testBit_two_pow, decide_eq_true_iff]
  exact ⟨fun h => h.elim .inl fun e => .inr e.symm, fun h => h.elim .inl fun e => .inr e.symm⟩

theorem map_inj {a b : List Nat} (h : a.map Int.ofNat = b.map Int.ofNat) : a = b := by
  have := congrArg (List.map Int.toNat) h
  rw [List.map_map, List.map_map] at this
  have e : (Int.toNat ∘ Int.ofNat) = id := rfl
  rw [e, List.map_id, List.map_id] at this
  exact this

theorem map2_inj {a b : List (List Nat)} (h : a.map (fun m => m.map Int.ofNat) = b.map (fun m => m.map Int.ofNat)) : a = b := by
  induction a generalizing b with
  | nil =>
    cases b with
    | nil => rfl
    | cons => simp at h
  | cons x a ih =>
    cases b with
    | nil => simp at h
    | cons y b =>
      rw [List.map_cons, List.map_cons, List.cons.injEq] at h
      rw [map_inj h.1, ih h.2]

section
variable {G : List Nat} {es : List (List Nat)} {left : List Nat} {met : Nat}
structure ElB (G : List Nat) (es : List (List Nat)) (left : List Nat) (met : Nat) : Prop where
  gr : GrN left
  len : left.length = G.length
  sub : ∀ x y, adj left x y = true → adj G x y = true
  tn : met < 2 ^ G.length
  zero : es.length = 0 → met = 0

theorem ELk.base (hG : GrN G) (h : ELk G es left met) : ElB G es left met := by
  rcases h with ⟨rfl, rfl, rfl⟩ | h
  · exact ⟨hG, rfl, fun _ _ h => h, Nat.two_pow_pos _, fun _ => rfl⟩
  · have i := h.inv hG
    exact ⟨i.gr, i.len, i.sub, i.tn, fun h0 => absurd h.pos (by omega)⟩

theorem not_ok {LL : List (List Int)} {i : Nat} {x : List Int} (hk : ELk G es left met) (ht : LL.take i = es.map fun m => m.map Int.ofNat) (hx : LL[i]? = some x) (hno : ∀ m : List Nat, x = m.map Int.ofNat → ¬ EarK i G.length left met m) : ¬ EarsOk G LL := by
  rintro ⟨es', left', rfl, hEL, _⟩
  rw [List.getElem?_map] at hx
  obtain ⟨m, hm, rfl⟩ := Option.map_eq_some_iff.1 hx
  obtain ⟨l', t', h1, h2⟩ := hEL.split i m hm
  rw [← List.map_take] at ht
  rw [map2_inj ht] at h1
  obtain ⟨rfl, rfl⟩ := h1.fun_ hk
  exact hno m rfl h2

end
/-! ### The walk -/
end Go.AM

end

section

/- The program's check of ears. -/
namespace Go.AM
open Go.Proofs
variable {R : Type}
attribute [local simp] nx_eq nx_new nx_set blk_new blk_set asI_int asK_int asB_bool asP_ptr al_eq bx_eq len_slice onE_exit onE_ret onR_ret Value.cells cell_new cell_set rd_new rd_set off eq lt le ifB gv out ext20 ext21
theorem under66 : Tryd.prog.underlying 66 = some (.slice 3) := by kernel_rfl

theorem cellsI_take (x : List Int) (n : Nat) : (cellsI x).take n = cellsI (x.take n) := List.map_take.symm

theorem l4_eq54 : f33_l4 = f33_l2 := by kernel_rfl

theorem l5_eq54 : f33_l5 = f33_l3 := by kernel_rfl

theorem s105 {v : Value} {l : List Int} {z : Int} {h : H} (hs : SlR h 3 1 v (cellsI l)) : ∃ r, rn 105 #[v, iv z] h = some (iv r, h) ∧ (0 ≤ r ↔ z ∈ l) := by
  have hl62 := hs.lt62
  rw [List.length_map] at hl62
  have hn : ∀ {T : Type} (K : Int → Option T), len v K = K (l.length : Int) := fun K => by rw [hs.len, List.length_map]
  obtain ⟨e, ws', h', hl, rfl, hor⟩ := lp_range (F := f105_l1 rn (l.length + 1) v z l.length) (k := l.length + 1) (n := l.length)
    (fun i ws g => g = h ∧ ws = [iv 0, iv i] ∧ z ∉ l.take i)
    (fun e ws g => g = h ∧ ((e = .exit 0 ∧ z ∉ l) ∨ (e = .ret ∧ z ∈ l ∧ ∃ i : Nat, AM.gv ws 0 = iv i)))
    (by
      rintro i ws g hi ⟨rfl, rfl, hno⟩
      have hx := List.getElem?_eq_getElem hi
      generalize hxd : l[i] = x at hx
      have hadd : add .i64 (i : Int) 1 = ((i + 1 : Nat) : Int) := by rw [add64 (by omega) (by omega)]; omega
      by_cases hzx : z = x
      · refine ⟨.ret, [iv i, iv i], g, ?_, .inr ⟨by simp, rfl, .inr ⟨rfl, ?_, i, rfl⟩⟩⟩
        · unfold f105_l1
          rw [show AM.gv [iv 0, iv i] 1 = iv i from rfl, asI_int, lt_t (by omega), ifB_true, asK_int, getI hs hx, asI_int, hzx, show AM.eq x x = true by simp [AM.eq], ifB_true]
          rfl
        · rw [hzx]; exact List.mem_of_getElem? hx
      · refine ⟨.normal, [iv 0, iv ((i + 1 : Nat) : Int)], g, ?_, .inl ⟨rfl, rfl, rfl, ?_⟩⟩
        · unfold f105_l1
          rw [show AM.gv [iv 0, iv i] 1 = iv i from rfl, asI_int, lt_t (by omega), ifB_true, asK_int, getI hs hx, asI_int, show AM.eq z x = false by simp [AM.eq, hzx], ifB_false, asI_int, hadd]
          rfl
        · rw [List.take_add_one, hx, List.mem_append]
          simp [hno, hzx])
    (by
      rintro ws g ⟨rfl, rfl, hno⟩
      rw [List.take_length] at hno
      exact ⟨.exit 0, [iv 0, iv l.length], g, by simp [f105_l1], by simp, rfl, .inl ⟨rfl, hno⟩⟩)
    (ws := [iv 0, iv 0]) (h := h) (by omega) ⟨rfl, rfl, by simp⟩
  rcases hor with ⟨rfl, hno⟩ | ⟨rfl, hin, i, hw⟩
  · refine ⟨-1, p105 (k := l.length + 1) (h1 := h') ?_ rfl (.refl _), by simp [hno]⟩
    unfold f105
    rw [hn]
    exact (lp_eq hl).trans rfl
  · refine ⟨i, p105 (k := l.length + 1) (h1 := h') ?_ rfl (.refl _), by simp [hin]⟩
    unfold f105
    rw [hn]
    refine (lp_eq hl).trans ?_
    rw [onE_ret, onR_ret, hw]

theorem s80 {v : Value} {l : List Int} {z : Int} {h : H} (hs : SlR h 3 1 v (cellsI l)) : rn 80 #[v, iv z] h = some (.bool (decide (z ∈ l)), h) := by
  obtain ⟨r, e, hr⟩ := s105 (z := z) hs
  refine p80 (k := 0) (h1 := h) ?_ rfl (.refl _)
  unfold f80
  rw [calls_eq (xs := [v, iv z]) e, asI_int]
  have : AM.le 0 r = decide (z ∈ l) := by
    show decide (0 ≤ r) = _
    exact decide_eq_decide.2 hr
  rw [this]

/-! ### One ear -/
def CkAt (k there len : Nat) (m : List Nat) (j : Nat) : Prop := (0 < k ∨ j + 1 < len → nb m j ∉ m.take j) ∧ (0 < k → (there.testBit (nb m j) = true ↔ j = 0 ∨ j + 1 = len))

structure CkAll (k n : Nat) (left : List Nat) (there : Nat) (m : List Nat) : Prop where
  lt : ∀ x ∈ m, x < n
  tr : Tra left m
  at_ : ∀ j, j < m.length → CkAt k there m.length m j

theorem earK_ck {k n there : Nat} {left m : List Nat} : EarK k n left there m ↔ (2 ≤ m.length ∧ (k = 0 → 4 ≤ m.length ∧ nb m 0 = nb m (m.length - 1))) ∧ CkAll k n left there m := by
  constructor
  · intro e
    exact ⟨⟨e.len, e.first⟩, e.lt, e.tr, fun j hj => ⟨fun h => e.fresh j hj h, fun h => e.bits h j hj⟩⟩
  · rintro ⟨⟨h1, h2⟩, h3⟩
    exact ⟨h1, h2, h3.lt, h3.tr, fun j hj h => (h3.at_ j hj).1 h, fun h j hj => (h3.at_ j hj).2 h⟩

theorem ckAt_pre {k there len j : Nat} {m q : List Nat} (hj : j < m.length) : CkAt k there len (m ++ q) j ↔ CkAt k there len m j := by
  unfold CkAt
  rw [nb_app hj, List.take_append_of_le_length (by omega)]

set_option maxHeartbeats 4000000 in
theorem s33_l2 {K k there : Nat} {v3 v6 lv : Value} {ws0 : List Value} {G left : List Nat} {x : List Int} {h0 h : H} (hG : GrN G) (hs3 : SlR h0 3 1 v3 (cellsN G)) (hs6 : SlR h0 3 1 v6 (cellsI x)) (xh : Ext h0 h) (hgl : GrN left) (hll : left.length = G.length) (hl : SlR h 3 1 lv (cellsN left))
    (gv3 : AM.gv ws0 3 = iv there) (gv4 : AM.gv ws0 4 = iv k) (hth : there < 1024) (hk : k < 4611686018427387904) (hx1 : 1 ≤ x.length) (hK : x.length < K) :
    (∃ m : List Nat, x = m.map Int.ofNat ∧ CkAll k G.length left there m ∧ ∃ lv' z h', lpGo (f33_l2 rn K v3 ws0 v6 x.length) K [.bool false, iv 0, lv, iv 0] h = some (.exit 2, [.bool false, iv 0, lv', z], h') ∧ Ext h0 h' ∧ SlR h' 3 1 lv' (cellsN (delP left m))) ∨
    ((∀ m : List Nat, x = m.map Int.ofNat → ¬ CkAll k G.length left there m) ∧ ∃ a b h', lpGo (f33_l2 rn K v3 ws0 v6 x.length) K [.bool false, iv 0, lv, iv 0] h = some (.ret, [.bool false, iv 0, a, b], h') ∧ Ext h0 h') := by
  have hlen := hG.len
  have hx62 := hs6.lt62
  rw [List.length_map] at hx62
  obtain ⟨e, ws', h', hlp, xg, hor⟩ := lp_range (F := f33_l2 rn K v3 ws0 v6 x.length) (k := K) (n := x.length)
    (fun i ws g => ∃ (m : List Nat) (lv' : Value), ws = [.bool false, iv 0, lv', iv i] ∧ Ext h0 g ∧ x.take i = m.map Int.ofNat ∧ (∀ y ∈ m, y < G.length) ∧ Tra left m ∧ (∀ j, j < m.length → CkAt k there x.length m j) ∧ SlR g 3 1 lv' (cellsN (delP left m)))
    (fun e ws g => Ext h0 g ∧ ((e = .exit 2 ∧ ∃ (m : List Nat) (lv' z : Value), x = m.map Int.ofNat ∧ CkAll k G.length left there m ∧ ws = [.bool false, iv 0, lv', z] ∧ SlR g 3 1 lv' (cellsN (delP left m))) ∨ (e = .ret ∧ (∀ m : List Nat, x = m.map Int.ofNat → ¬ CkAll k G.length left there m) ∧ ∃ a b, ws = [.bool false, iv 0, a, b])))
    (by
      rintro i ws g hi ⟨m, lv', rfl, xg, hm, hmn, hT, hCk, hlv⟩
      have hx := List.getElem?_eq_getElem hi
      generalize hxd : x[i] = xi at hx
      have hml : m.length = i := by
        have := congrArg List.length hm
        rw [List.length_take, List.length_map] at this
        omega
      have hadd : add .i64 (i : Int) 1 = ((i + 1 : Nat) : Int) := by rw [add64 (by omega) (by omega)]; omega
      have hsg := hs6.ext xg
      have hs3g := hs3.ext xg
      have c79 := fun (Q : Value → H → Option (Ex × List Value × H)) => calls_eq (K := Q) (xs := [v3, iv xi]) (s68 (z := xi) hs3g)
      obtain ⟨w1, hw1⟩ : ∃ w1, w1 = [Value.bool false, iv 0, lv', iv i] := ⟨_, rfl⟩
      have g0 : AM.gv w1 0 = .bool false := by rw [hw1]; rfl
      have g1 : AM.gv w1 1 = iv 0 := by rw [hw1]; rfl
      have g2 : AM.gv w1 2 = lv' := by rw [hw1]; rfl
      have g3 : AM.gv w1 3 = iv i := by rw [hw1]; rfl
      rw [← hw1]
      -- whoever is a list that passes has this prefix
      have split : ∀ m' : List Nat, x = m'.map Int.ofNat → m'.take i = m ∧ m'[i]? = some (nb m' i) ∧ xi = (nb m' i : Nat) ∧ m'.length = x.length := fun m' hm' => by
        have h1 : m'.take i = m := map_inj (by rw [List.map_take, ← hm', hm])
        have h2 : m'.length = x.length := by rw [hm', List.length_map]
        have h3 : m'[i]? = some (nb m' i) := by unfold nb; rw [List.getD_eq_getElem?_getD, List.getElem?_eq_getElem (by omega)]; rfl
        refine ⟨h1, h3, ?_, h2⟩
        rw [hm', List.getElem?_map, h3] at hx
        exact (Option.some.inj hx).symm
      cases hnode : nodeB G xi with
      | false =>
        refine ⟨.ret, [.bool false, iv 0, lv', iv i], g, ?_, .inr ⟨by simp, xg, .inr ⟨rfl, fun m' hm' hc => ?_, _, _, rfl⟩⟩⟩
        · unfold f33_l2
          rw [g3, g2, asI_int, lt_t (by omega), ifB_true, asK_int, getI hsg hx, asI_int, c79, hnode, asB_bool, show (!false) = true from rfl, ifB_true]
          rfl
        · obtain ⟨_, h3, h4, h5⟩ := split m' hm'
          have := hc.lt _ (List.mem_of_getElem? h3)
          rw [h4] at hnode
          unfold nodeB at hnode
          rw [decide_eq_true (by omega), decide_eq_true (by omega)] at hnode
          cases hnode
      | true =>
        obtain ⟨a, rfl, han⟩ := nodeB_nat hnode
        have hnn : (0 : Int) ≤ (a : Int) := by omega
        have hbit : AM.eq (AM.and .i64 (shr .i64 (there : Int) (a : Int)) 1) 1 = there.testBit a := by
          rw [bit_nat (by omega) (by omega)]
          cases there.testBit a <;> rfl
        have htn : x.take (i + 1) = (m ++ [a]).map Int.ofNat := by rw [List.take_add_one, hx, hm, List.map_append]; rfl
        have hmn' : ∀ y ∈ m ++ [a], y < G.length := fun y hy => by
          rw [List.mem_append, List.mem_singleton] at hy
          rcases hy with hy | rfl
          · exact hmn y hy
          · exact han
        have hCk' : CkAt k there x.length (m ++ [a]) i → ∀ j, j < (m ++ [a]).length → CkAt k there x.length (m ++ [a]) j := fun hc j hj => by
          rw [List.length_append, List.length_singleton] at hj
          by_cases hji : j = i
          · rw [hji]; exact hc
          · exact (ckAt_pre (by omega)).2 (hCk j (by omega))
        have hat : CkAt k there x.length (m ++ [a]) i ↔ (0 < k ∨ i + 1 < x.length → a ∉ m) ∧ (0 < k → (there.testBit a = true ↔ i = 0 ∨ i + 1 = x.length)) := by
          unfold CkAt
          have e1 : nb (m ++ [a]) i = a := by rw [← hml]; exact nb_snoc m a
          have e2 : (m ++ [a]).take i = m := by rw [← hml, List.take_append_of_le_length (Nat.le_refl _), List.take_length]
          rw [e1, e2]
        -- a list that passes has this one here
        have here : ∀ m' : List Nat, x = m'.map Int.ofNat → CkAll k G.length left there m' → CkAt k there x.length (m ++ [a]) i ∧ Tra left (m ++ [a]) := fun m' hm' hc => by
          obtain ⟨h1, h3, h4, h5⟩ := split m' hm'
          have h4' : nb m' i = a := (Int.ofNat.inj h4).symm
          have h6 : m'.take (i + 1) = m ++ [a] := by rw [List.take_add_one, h3, h1, h4']; rfl
          have h7 : m' = (m ++ [a]) ++ m'.drop (i + 1) := by rw [← h6, List.take_append_drop]
          constructor
          · have := hc.at_ i (by omega)
            rw [h5] at this
            rw [h7] at this
            exact (ckAt_pre (by simp; omega)).1 this
          · refine tra_pre _ (m'.drop (i + 1)) left ?_
            rw [← h7]; exact hc.tr
        by_cases hi0 : i = 0
        · subst hi0
          have hm0 : m = [] := List.length_eq_zero_iff.1 hml
          subst hm0
          obtain ⟨v31, s63, esl⟩ := hsg.take (i := ((0 : Nat) : Int)) under66 sz3 (by omega) (by omega)
          have c97 := fun (Q : Value → H → Option (Ex × List Value × H)) => calls_eq (K := Q) (xs := [v31, iv a]) (s80 (h := g) (l := x.take 0) (z := (a : Int)) (by rw [Int.toNat_natCast, cellsI_take] at s63; exact s63))
          have hgood : CkAt k there x.length ([] ++ [a]) 0 → ∃ e ws' h', (f33_l2 rn K v3 ws0 v6 x.length w1 g = some (.normal, [.bool false, iv 0, lv', iv ((0 + 1 : Nat) : Int)], g)) ∧ e = Ex.normal ∧ ws' = w1 ∧ h' = g := fun hc => by
            refine ⟨_, _, _, ?_, rfl, rfl, rfl⟩
            unfold f33_l2
            rw [g3, g2, g1, g0, gv3, gv4, asI_int, lt_t (by omega), ifB_true, asK_int, getI hsg hx, asI_int, c79, hnode, asB_bool, show (!true) = false from rfl, ifB_false, asI_int, show AM.lt 0 ((0 : Nat) : Int) = false from rfl, ifB_false, asI_int, show AM.lt 0 ((0 : Nat) : Int) = false from rfl, ifB_false, asI_int, show AM.eq ((0 : Nat) : Int) 0 = true from rfl, ifB_true, esl, c97, asB_bool, List.take_zero, show decide ((a : Int) ∈ ([] : List Int)) = false from rfl, ifB_false, asI_int]
            by_cases hk0 : 0 < k
            · rw [lt_t (by omega), ifB_true, asI_int, nn_ge hnn, hbit, keqv4]
              have := ((hat.1 hc).2 hk0).2 (.inl rfl)
              rw [this, show (!(true == true)) = false from rfl, ifB_false, asI_int, hadd]
              rfl
            · rw [lt_f (by omega), ifB_false, asI_int, hadd]
              rfl
          by_cases hc : CkAt k there x.length ([] ++ [a]) 0
          · obtain ⟨_, _, _, k1, _⟩ := hgood hc
            exact ⟨.normal, _, g, k1, .inl ⟨rfl, [] ++ [a], lv', rfl, xg, htn, hmn', trivial, hCk' hc, hlv⟩⟩
          · have hk0 : 0 < k := Classical.byContradiction fun hk0 => hc (hat.2 ⟨fun _ => by simp, fun h => absurd h hk0⟩)
            have hbf : there.testBit a = false := Bool.eq_false_iff.2 fun hb => hc (hat.2 ⟨fun _ => by simp, fun _ => ⟨fun _ => .inl rfl, fun _ => hb⟩⟩)
            refine ⟨.ret, [.bool false, iv 0, lv', iv ((0 : Nat) : Int)], g, ?_, .inr ⟨by simp, xg, .inr ⟨rfl, fun m' hm' hcc => hc (here m' hm' hcc).1, _, _, rfl⟩⟩⟩
            unfold f33_l2
            rw [g3, g2, gv3, gv4, asI_int, lt_t (by omega), ifB_true, asK_int, getI hsg hx, asI_int, c79, hnode, asB_bool, show (!true) = false from rfl, ifB_false, asI_int, show AM.lt 0 ((0 : Nat) : Int) = false from rfl, ifB_false, asI_int, show AM.lt 0 ((0 : Nat) : Int) = false from rfl, ifB_false, asI_int, show AM.eq ((0 : Nat) : Int) 0 = true from rfl, ifB_true, esl, c97, asB_bool, List.take_zero, show decide ((a : Int) ∈ ([] : List Int)) = false from rfl, ifB_false, asI_int,
              lt_t (by omega), ifB_true, asI_int, nn_ge hnn, hbit, keqv4, hbf, show (!(false == true)) = true from rfl, ifB_true]
            rfl
        · obtain ⟨q, b0, rfl⟩ := snoc_of (m := m) (by rintro rfl; simp at hml; omega)
          rw [List.length_append, List.length_singleton] at hml
          have hq : x[i - 1]? = some (b0 : Int) := by
            have h1 : (x.take i)[i - 1]? = some (b0 : Int) := by
              rw [hm, List.getElem?_map, show i - 1 = q.length by omega, List.getElem?_append_right (Nat.le_refl _), Nat.sub_self]; rfl
            rw [List.getElem?_take_of_lt (by omega)] at h1
            exact h1
          have hb0n : b0 < G.length := hmn b0 (by simp)
          have hsub : AM.sub .i64 (i : Int) 1 = ((i - 1 : Nat) : Int) := by rw [sub64 (by omega) (by omega)]; omega
          have hgd := hgl.delP _ hT
          have hdl : (delP left (q ++ [b0])).length = G.length := (delP_len _ _).trans hll
          have c80 := fun (Q : Value → H → Option (Ex × List Value × H)) => calls_eq (K := Q) (xs := [lv', iv b0, iv a]) (s71 (a := b0) (b := a) hgd.toGrB hlv (by omega) (by omega))
          have hl0 : AM.lt 0 (i : Int) = true := lt_t (by omega)
          have he0 : AM.eq (i : Int) 0 = false := by simp [AM.eq]; omega
          cases hadj : adj (delP left (q ++ [b0])) b0 a with
          | false =>
            refine ⟨.ret, [.bool false, iv 0, lv', iv i], g, ?_, .inr ⟨by simp, xg, .inr ⟨rfl, fun m' hm' hc => ?_, _, _, rfl⟩⟩⟩
            · unfold f33_l2
              rw [g3, g2, asI_int, lt_t (by omega), ifB_true, asK_int, getI hsg hx, asI_int, c79, hnode, asB_bool, show (!true) = false from rfl, ifB_false, asI_int, hl0, ifB_true, asI_int, hsub, getI hsg hq, asI_int, c80, hadj, asB_bool, show (!false) = true from rfl, ifB_true]
              rfl
            · have := (here m' hm' hc).2
              rw [List.append_assoc] at this
              have := ((tra_snoc q left b0 a).1 this).2
              rw [hadj] at this; cases this
          | true =>
            have hne : b0 ≠ a := by rintro rfl; rw [hgd.irr] at hadj; cases hadj
            obtain ⟨v15, g7, e76, x7, bb, hbb, hia⟩ := s76 (a := b0) (b := a) hgd.toGrB (by omega) (by omega) hne hlv
            have hT' : Tra left (q ++ [b0] ++ [a]) := by rw [List.append_assoc]; exact (tra_snoc q left b0 a).2 ⟨hT, hadj⟩
            have hlv' : SlR g7 3 1 v15 (cellsN (delP left (q ++ [b0] ++ [a]))) := by
              rw [List.append_assoc, show [b0] ++ [a] = [b0, a] from rfl, delP_snoc]; exact hia.slN
            have xg7 := xg.trans x7.toExt
            have hsg7 := hs6.ext xg7
            have hn7 : ∀ {T : Type} (Q : Int → Option T), len v6 Q = Q (x.length : Int) := fun Q => by rw [hs6.len, List.length_map]
            obtain ⟨v18, s18', esl⟩ := hsg7.take (i := (i : Int)) under66 sz3 (by omega) (by rw [List.length_map]; omega)
            have hin : decide ((a : Int) ∈ x.take i) = decide (a ∈ q ++ [b0]) := decide_eq_decide.2 (by
              rw [hm]
              constructor
              · intro h
                obtain ⟨y, hy, he⟩ := List.mem_map.1 h
                rw [← Int.ofNat.inj he]; exact hy
              · intro h
                exact List.mem_map.2 ⟨a, h, rfl⟩)
            have c97 := fun (Q : Value → H → Option (Ex × List Value × H)) => calls_eq (K := Q) (xs := [v18, iv a]) (s80 (h := g7) (l := x.take i) (z := (a : Int)) (by rw [Int.toNat_natCast, cellsI_take] at s18'; exact s18'))
            rw [hin] at c97
            have hsubl : AM.sub .i64 (x.length : Int) 1 = ((x.length - 1 : Nat) : Int) := by rw [sub64 (by omega) (by omega)]; omega
            have hend : AM.eq (i : Int) ((x.length - 1 : Nat) : Int) = decide (i + 1 = x.length) := by
              rw [eqN]; exact decide_eq_decide.2 ⟨fun h => by omega, fun h => by omega⟩
            have start : ∀ r, (ifB (decide (a ∈ q ++ [b0])) (
                ifB (AM.lt 0 (k : Int)) (AM.out .ret [.bool false, iv 0, v15, iv i] g7) (
                  ifB (AM.lt (i : Int) ((x.length - 1 : Nat) : Int)) (AM.out .ret [.bool false, iv 0, v15, iv i] g7) (
                    ifB (AM.lt 0 (k : Int)) (
                      ifB (not (there.testBit a == decide (i + 1 = x.length))) (AM.out .ret [.bool false, iv 0, v15, iv i] g7) (AM.out .normal [.bool false, iv 0, v15, iv ((i + 1 : Nat) : Int)] g7)) (
                      AM.out .normal [.bool false, iv 0, v15, iv ((i + 1 : Nat) : Int)] g7)))) (
                ifB (AM.lt 0 (k : Int)) (
                  ifB (not (there.testBit a == decide (i + 1 = x.length))) (AM.out .ret [.bool false, iv 0, v15, iv i] g7) (AM.out .normal [.bool false, iv 0, v15, iv ((i + 1 : Nat) : Int)] g7)) (
                  AM.out .normal [.bool false, iv 0, v15, iv ((i + 1 : Nat) : Int)] g7))) = r → f33_l2 rn K v3 ws0 v6 x.length w1 g = r := by
              intro r hr
              unfold f33_l2
              rw [g3, g2, g1, g0, gv3, gv4, asI_int, lt_t (by omega), ifB_true, asK_int, getI hsg hx, asI_int, c79, hnode, asB_bool, show (!true) = false from rfl, ifB_false, asI_int, hl0, ifB_true, asI_int, hsub, getI hsg hq, asI_int, c80, hadj, asB_bool, show (!true) = false from rfl, ifB_false, asI_int, hl0, ifB_true, asI_int, hsub, getI hsg hq, asI_int, kbld83,
                calls_eq (xs := [lv', .agg #[iv b0, iv a]]) e76, asI_int, he0, ifB_false, hn7, asI_int, esl, c97, asB_bool, ← hr]
              simp only [asI_int, hn7, hsubl, nn_ge hnn, hbit, hend, keqv4, hadd]
            by_cases hc : CkAt k there x.length (q ++ [b0] ++ [a]) i
            · obtain ⟨hc1, hc2⟩ := hat.1 hc
              refine ⟨.normal, [.bool false, iv 0, v15, iv ((i + 1 : Nat) : Int)], g7, start _ ?_, .inl ⟨rfl, q ++ [b0] ++ [a], v15, rfl, xg7, htn, hmn', hT', hCk' hc, hlv'⟩⟩
              by_cases hk0 : 0 < k
              · have hnm := hc1 (.inl hk0)
                have hb := hc2 hk0
                have hbd : there.testBit a = decide (i + 1 = x.length) := by
                  rw [Bool.eq_iff_iff, decide_eq_true_iff, hb]
                  exact ⟨fun h => h.resolve_left hi0, .inr⟩
                rw [decide_eq_false hnm, ifB_false, lt_t (by omega), ifB_true, hbd, show (!(decide (i + 1 = x.length) == decide (i + 1 = x.length))) = false by simp, ifB_false]
                rfl
              · by_cases hmem : a ∈ q ++ [b0]
                · have : ¬ i + 1 < x.length := fun h => hc1 (.inr h) hmem
                  rw [decide_eq_true hmem, ifB_true, lt_f (by omega), ifB_false, lt_f (by omega), ifB_false, ifB_false]
                  rfl
                · rw [decide_eq_false hmem, ifB_false, lt_f (by omega), ifB_false]
                  rfl
            · refine ⟨.ret, [.bool false, iv 0, v15, iv i], g7, start _ ?_, .inr ⟨by simp, xg7, .inr ⟨rfl, fun m' hm' hcc => hc (here m' hm' hcc).1, _, _, rfl⟩⟩⟩
              by_cases hmem : a ∈ q ++ [b0]
              · rw [decide_eq_true hmem, ifB_true]
                by_cases hk0 : 0 < k
                · rw [lt_t (by omega), ifB_true]; rfl
                · have : i + 1 < x.length := Classical.byContradiction fun h => hc (hat.2 ⟨fun h2 => by omega, fun h2 => absurd h2 hk0⟩)
                  rw [lt_f (by omega), ifB_false, lt_t (by omega), ifB_true]; rfl
              · have hk0 : 0 < k := Classical.byContradiction fun hk0 => hc (hat.2 ⟨fun _ => hmem, fun h2 => absurd h2 hk0⟩)
                have hbd : (there.testBit a == decide (i + 1 = x.length)) = false := by
                  rw [Bool.eq_false_iff]
                  intro h
                  rw [beq_iff_eq] at h
                  exact hc (hat.2 ⟨fun _ => hmem, fun _ => by rw [h, decide_eq_true_iff]; exact ⟨.inr, fun h => h.resolve_left hi0⟩⟩)
                rw [decide_eq_false hmem, ifB_false, lt_t (by omega), ifB_true, hbd, show (!false) = true from rfl, ifB_true]; rfl)
    (by
      rintro ws g ⟨m, lv', rfl, xg, hm, hmn, hT, hCk, hlv⟩
      rw [List.take_length] at hm
      have hml : m.length = x.length := by rw [hm, List.length_map]
      refine ⟨.exit 2, [.bool false, iv 0, lv', iv x.length], g, ?_, by simp, xg, .inl ⟨rfl, m, lv', _, hm, ⟨hmn, hT, fun j hj => by rw [hml]; exact hCk j hj⟩, rfl, hlv⟩⟩
      unfold f33_l2
      rw [show AM.gv [.bool false, iv 0, lv', iv x.length] 3 = iv x.length from rfl, asI_int, lt_f (by omega), ifB_false]
      rfl)
    (ws := [.bool false, iv 0, lv, iv 0]) (h := h) hK ⟨[], lv, rfl, xh, rfl, by simp, trivial, by simp, hl⟩
  rcases hor with ⟨rfl, m, lv', z, h1, h2, rfl, h3⟩ | ⟨rfl, h1, a, b, rfl⟩
  · exact .inl ⟨m, h1, h2, lv', z, h', hlp, xg, h3⟩
  · exact .inr ⟨h1, a, b, h', hlp, xg⟩

theorem s33_l3 {K there : Nat} {v6 : Value} {m : List Nat} {h : H} (hm : ∀ x ∈ m, x < 10) (hth : there < 1024) (hs : SlR h 3 1 v6 (cellsN m)) (hK : m.length < K) :
    ∃ z, lpGo (f33_l3 rn K v6 m.length) K [iv there, iv 0] h = some (.exit 4, [iv (there ||| setOf m : Nat), z], h) := by
  have hl62 := hs.lt62
  rw [List.length_map] at hl62
  obtain ⟨e, ws', h', hl, rfl, rfl, z, rfl⟩ := lp_range (F := f33_l3 rn K v6 m.length) (k := K) (n := m.length)
    (fun j ws g => g = h ∧ ws = [iv (there ||| setOf (m.take j) : Nat), iv j])
    (fun e ws g => g = h ∧ e = .exit 4 ∧ ∃ z, ws = [iv (there ||| setOf m : Nat), z])
    (by
      rintro j ws g hj ⟨rfl, rfl⟩
      have hx10 := hm _ (nb_mem hj)
      have hgx : m[j]? = some (nb m j) := by unfold nb; rw [List.getD_eq_getElem?_getD, List.getElem?_eq_getElem hj]; rfl
      have hadd : add .i64 (j : Int) 1 = ((j + 1 : Nat) : Int) := by rw [add64 (by omega) (by omega)]; omega
      have hflt : there ||| setOf (m.take j) < 2 ^ 10 := Nat.or_lt_two_pow hth (setOf_lt (n := 10) fun y hy => hm y (List.mem_of_mem_take hy))
      have hor := or_calc2 (n := 10) (by omega) hflt hx10
      refine ⟨.normal, [iv (there ||| setOf (m.take (j + 1)) : Nat), iv ((j + 1 : Nat) : Int)], g, ?_, .inl ⟨rfl, rfl, rfl⟩⟩
      have hnext : setOf (m.take (j + 1)) = setOf (m.take j) ||| 2 ^ nb m j := by rw [List.take_add_one, hgx]; exact setOf_snoc _ _
      unfold f33_l3
      rw [show AM.gv [iv (there ||| setOf (m.take j) : Nat), iv j] 1 = iv j from rfl, show AM.gv [iv (there ||| setOf (m.take j) : Nat), iv j] 0 = iv (there ||| setOf (m.take j) : Nat) from rfl, asI_int, lt_t (by omega), ifB_true, asK_int]
      simp only [d3]
      rw [getN hs hj, asI_int, nn_ge (show (0 : Int) ≤ (nb m j : Int) by omega), asI_int, asI_int, hor, hadd, hnext, Nat.or_assoc]
      rfl)
    (by
      rintro ws g ⟨rfl, rfl⟩
      rw [List.take_length]
      refine ⟨.exit 4, [iv (there ||| setOf m : Nat), iv m.length], g, ?_, by simp, rfl, rfl, _, rfl⟩
      unfold f33_l3
      rw [show AM.gv [iv (there ||| setOf m : Nat), iv m.length] 1 = iv m.length from rfl, asI_int, lt_f (by omega), ifB_false]
      rfl)
    (ws := [iv there, iv 0]) (h := h) hK ⟨rfl, by simp [setOf]⟩
  exact ⟨z, hl⟩

end Go.AM

end

section

/- The document's check of ears: all of a list. -/
namespace Go.AM
open Go.Proofs
variable {R : Type}
attribute [local simp] nx_eq nx_new nx_set blk_new blk_set asI_int asK_int asB_bool asP_ptr al_eq bx_eq len_slice onE_exit onE_ret onR_ret Value.cells cell_new cell_set rd_new rd_set off eq lt le ifB gv out ext20 ext21
theorem len_le_sum : ∀ (L : List (List Int)) (x : List Int), x ∈ L → x.length ≤ (L.map List.length).sum
  | [], _, h => by cases h
  | y :: L, x, h => by
    rw [List.map_cons, List.sum_cons]
    rcases List.mem_cons.1 h with rfl | h
    · omega
    · have := len_le_sum L x h
      omega

end Go.AM

end

section

/- The program's check of ears: whole. -/
namespace Go.AM
open Go.Proofs
variable {R : Type}
attribute [local simp] nx_eq nx_new nx_set blk_new blk_set asI_int asK_int asB_bool asP_ptr al_eq bx_eq len_slice onE_exit onE_ret onR_ret Value.cells cell_new cell_set rd_new rd_set off eq lt le ifB gv out ext20 ext21
set_option maxHeartbeats 2000000 in
theorem s33_ear {K i there : Nat} {v1 v3 lv : Value} {p} {q r : Nat} {G left : List Nat} {es : List (List Nat)} {LL : List (List Int)} {vs : List Value} {x : List Int} {h0 g : H} (hG : GrN G) (hs3 : SlR h0 3 1 v3 (cellsN G)) (hs1 : SlR h0 66 1 v1 (cellsV vs)) (hvl : vs.length = LL.length)
    (hxv : vs[i]? = some (.slice p q r)) (hx : LL[i]? = some x) (hsx : SlR h0 3 1 (.slice p q r) (cellsI x)) (xg : Ext h0 g) (hl : SlR g 3 1 lv (cellsN left)) (hk : ElB G es left there) (hK : 200 ≤ K) (hxK : x.length < K) :
    (∃ m : List Nat, x = m.map Int.ofNat ∧ EarK i G.length left there m ∧ ∃ lv' g', f33_l1 rn K v1 v3 LL.length [.bool false, iv 0, lv, iv there, iv i] g = some (.normal, [.bool false, iv 0, lv', iv (there ||| setOf m : Nat), iv ((i + 1 : Nat) : Int)], g') ∧ Ext h0 g' ∧ SlR g' 3 1 lv' (cellsN (delP left m))) ∨
    ((∀ m : List Nat, x = m.map Int.ofNat → ¬ EarK i G.length left there m) ∧ ∃ ws' g', f33_l1 rn K v1 v3 LL.length [.bool false, iv 0, lv, iv there, iv i] g = some (.ret, .bool false :: iv 0 :: ws', g') ∧ Ext h0 g') := by
  have hlen := hG.len
  have hpow := hG.pow
  have hth := Nat.lt_of_lt_of_le hk.tn hpow
  have hil := (List.getElem?_eq_some_iff.1 hx).1
  have hv62 := hs1.lt62
  rw [List.length_map, hvl] at hv62
  have hx62 := hsx.lt62
  rw [List.length_map] at hx62
  have hsg := hsx.ext xg
  have hnx : ∀ {T : Type} (Q : Int → Option T), len (.slice p q r) Q = Q (x.length : Int) := fun Q => by rw [hsx.len, List.length_map]
  have hadd : add .i64 (i : Int) 1 = ((i + 1 : Nat) : Int) := by rw [add64 (by omega) (by omega)]; omega
  have e1 : ∀ (Q : Value → Option (Ex × List Value × H)), (six v1 (i : Int) 1 fun b o => ld Tryd.prog g 66 b o Q) = Q (.slice p q r) := fun Q =>
    (hs1.ext xg).ld0 ag66 (by omega) (x := [.slice p q r]) (by rw [Int.toNat_natCast, List.getElem?_map, hxv]; rfl) rfl Q
  obtain ⟨ws0, hws0⟩ : ∃ ws0, ws0 = [Value.bool false, iv 0, lv, iv there, iv i] := ⟨_, rfl⟩
  rw [← hws0]
  have w0 : AM.gv ws0 0 = .bool false := by rw [hws0]; rfl
  have w1 : AM.gv ws0 1 = iv 0 := by rw [hws0]; rfl
  have w2 : AM.gv ws0 2 = lv := by rw [hws0]; rfl
  have w3 : AM.gv ws0 3 = iv there := by rw [hws0]; rfl
  have w4 : AM.gv ws0 4 = iv i := by rw [hws0]; rfl
  by_cases hA : x.length < 2
  · refine .inr ⟨fun m hm e => ?_, [lv, iv there, iv i], g, ?_, xg⟩
    · have := e.len
      rw [hm, List.length_map] at hA
      omega
    · unfold f33_l1
      rw [w4, w3, w2, asI_int, lt_t (by omega), ifB_true, asK_int, e1, hnx, lt_t (by omega), ifB_true]
      rfl
  have hl2 := s33_l2 (K := K) (k := i) (there := there) (v3 := v3) (v6 := .slice p q r) (lv := lv) (ws0 := ws0) (x := x) hG hs3 hsx xg hk.gr hk.len hl w3 w4 hth (by omega) (by omega) hxK
  have hsubm : AM.sub .i64 (x.length : Int) 1 = ((x.length - 1 : Nat) : Int) := by rw [sub64 (by omega) (by omega)]; omega
  have hx0 := List.getElem?_eq_getElem (show 0 < x.length by omega)
  have hxL := List.getElem?_eq_getElem (show x.length - 1 < x.length by omega)
  generalize hz0 : x[0] = z0 at hx0
  generalize hzL : x[x.length - 1] = zL at hxL
  have gI0 := fun (Q : Value → Option (Ex × List Value × H)) => getI (R := Ex × List Value × H) hsg hx0 Q
  rw [show ((0 : Nat) : Int) = 0 from rfl] at gI0
  have gIL := fun (Q : Value → Option (Ex × List Value × H)) => getI (R := Ex × List Value × H) hsg hxL Q
  have hfirst : ∀ m : List Nat, x = m.map Int.ofNat → (nb m 0 = nb m (m.length - 1) ↔ z0 = zL) := fun m hm => by
    have hml : m.length = x.length := by rw [hm, List.length_map]
    have a0 : z0 = (nb m 0 : Nat) := by
      rw [hm, List.getElem?_map] at hx0
      unfold nb; rw [List.getD_eq_getElem?_getD, List.getElem?_eq_getElem (by omega)]
      rw [List.getElem?_eq_getElem (by omega)] at hx0
      exact (Option.some.inj hx0).symm
    have aL : zL = (nb m (m.length - 1) : Nat) := by
      rw [hml]
      rw [hm, List.getElem?_map, List.length_map, hml, List.getElem?_eq_getElem (by omega)] at hxL
      unfold nb; rw [List.getD_eq_getElem?_getD, List.getElem?_eq_getElem (by omega)]
      exact (Option.some.inj hxL).symm
    rw [a0, aL]
    omega
  -- what follows the check of all nodes
  have rest : ∀ (m : List Nat), x = m.map Int.ofNat → (∀ y ∈ m, y < G.length) → ∀ g', Ext h0 g' → ∃ z, lpGo (f33_l3 rn K (.slice p q r) x.length) K [iv there, iv 0] g' = some (.exit 4, [iv (there ||| setOf m : Nat), z], g') := fun m hm hmn g' x' => by
    have hml : m.length = x.length := by rw [hm, List.length_map]
    rw [← hml]
    refine s33_l3 (fun y hy => Nat.lt_of_lt_of_le (hmn y hy) hlen) hth ?_ (by omega)
    have := hsx.ext x'
    rw [hm, cellsN_eq] at this
    exact this
  by_cases hi0 : i = 0
  · have he0 : AM.eq (i : Int) 0 = true := by rw [hi0]; rfl
    by_cases h4 : x.length < 4
    · refine .inr ⟨fun m hm e => ?_, [lv, iv there, iv i], g, ?_, xg⟩
      · have := (e.first hi0).1
        rw [hm, List.length_map] at h4
        omega
      · unfold f33_l1
        rw [w4, w3, w2, asI_int, lt_t (by omega), ifB_true, asK_int, e1, hnx, lt_f (by omega), ifB_false, asI_int, he0, ifB_true, hnx, lt_t (by omega), ifB_true]
        rfl
    by_cases hfl : z0 = zL
    · have start : ∀ r', (lp K (f33_l2 rn K v3 ws0 (.slice p q r) x.length) [.bool false, iv 0, lv, iv 0] g fun e0 ws2 h17 =>
            onE e0 2 (
              lp K (f33_l3 rn K (.slice p q r) x.length) [iv there, iv 0] h17 fun e1 ws4 h19 =>
              onE e1 4 (
                AM.out .normal [AM.gv ws2 0, AM.gv ws2 1, AM.gv ws2 2, AM.gv ws4 0, iv ((i + 1 : Nat) : Int)] h19) (
                none)) (
              onR e0 (
                AM.out .ret [AM.gv ws2 0, AM.gv ws2 1, AM.gv ws2 2, iv there, iv i] h17))) = r' → f33_l1 rn K v1 v3 LL.length ws0 g = r' := by
        intro r' hr
        unfold f33_l1
        rw [w4, w3, w2, w1, w0, asI_int, lt_t (by omega), ifB_true, asK_int, e1, hnx, lt_f (by omega), ifB_false, asI_int, he0, ifB_true, hnx, lt_f (by omega), ifB_false, gI0, asI_int, hnx, hsubm, gIL, asI_int, hfl, show AM.eq zL zL = true by simp [AM.eq], show (!true) = false from rfl, ifB_false, hnx]
        simp only [hnx, asI_int, hadd]
        exact hr
      rcases hl2 with ⟨m, hm, hck, lv', z, g', el2, xg', hl'⟩ | ⟨hno, a, b, g', el2, xg'⟩
      · have hml : m.length = x.length := by rw [hm, List.length_map]
        obtain ⟨z', el3⟩ := rest m hm hck.lt g' xg'
        refine .inl ⟨m, hm, earK_ck.2 ⟨⟨by omega, fun _ => ⟨by omega, (hfirst m hm).2 hfl⟩⟩, hck⟩, lv', g', start _ ?_, xg', hl'⟩
        rw [lp_eq el2, onE_exit, if_pos rfl, lp_eq el3, onE_exit, if_pos rfl]
        rfl
      · refine .inr ⟨fun m hm e => hno m hm (earK_ck.1 e).2, [a, iv there, iv i], g', start _ ?_, xg'⟩
        rw [lp_eq el2, onE_ret, onR_ret]
        rfl
    · refine .inr ⟨fun m hm e => hfl ((hfirst m hm).1 (e.first hi0).2), [lv, iv there, iv i], g, ?_, xg⟩
      unfold f33_l1
      rw [w4, w3, w2, asI_int, lt_t (by omega), ifB_true, asK_int, e1, hnx, lt_f (by omega), ifB_false, asI_int, he0, ifB_true, hnx, lt_f (by omega), ifB_false, gI0, asI_int, hnx, hsubm, gIL, asI_int, show AM.eq z0 zL = false by simp [AM.eq, hfl], show (!false) = true from rfl, ifB_true]
      rfl
  · have he0 : AM.eq (i : Int) 0 = false := by simp [AM.eq]; omega
    have start : ∀ r', (lp K (f33_l2 rn K v3 ws0 (.slice p q r) x.length) [.bool false, iv 0, lv, iv 0] g fun e0 ws2 h17 =>
          onE e0 2 (
            lp K (f33_l3 rn K (.slice p q r) x.length) [iv there, iv 0] h17 fun e1 ws4 h19 =>
            onE e1 4 (
              AM.out .normal [AM.gv ws2 0, AM.gv ws2 1, AM.gv ws2 2, AM.gv ws4 0, iv ((i + 1 : Nat) : Int)] h19) (
              none)) (
            onR e0 (
              AM.out .ret [AM.gv ws2 0, AM.gv ws2 1, AM.gv ws2 2, iv there, iv i] h17))) = r' → f33_l1 rn K v1 v3 LL.length ws0 g = r' := by
      intro r' hr
      unfold f33_l1
      rw [w4, w3, w2, w1, w0, asI_int, lt_t (by omega), ifB_true, asK_int, e1, hnx, lt_f (by omega), ifB_false, asI_int, he0, ifB_false, hnx, l4_eq54, l5_eq54]
      simp only [hnx, asI_int, hadd]
      exact hr
    rcases hl2 with ⟨m, hm, hck, lv', z, g', el2, xg', hl'⟩ | ⟨hno, a, b, g', el2, xg'⟩
    · have hml : m.length = x.length := by rw [hm, List.length_map]
      obtain ⟨z', el3⟩ := rest m hm hck.lt g' xg'
      refine .inl ⟨m, hm, earK_ck.2 ⟨⟨by omega, fun h => absurd h hi0⟩, hck⟩, lv', g', start _ ?_, xg', hl'⟩
      rw [lp_eq el2, onE_exit, if_pos rfl, lp_eq el3, onE_exit, if_pos rfl]
      rfl
    · refine .inr ⟨fun m hm e => hno m hm (earK_ck.1 e).2, [a, iv there, iv i], g', start _ ?_, xg'⟩
      rw [lp_eq el2, onE_ret, onR_ret]
      rfl

theorem s33_l1 {K : Nat} {v1 v3 lv : Value} {G : List Nat} {LL : List (List Int)} {vs : List Value} {h : H} (hG : GrN G) (hs3 : SlR h 3 1 v3 (cellsN G)) (hs1 : SlR h 66 1 v1 (cellsV vs)) (hv : AllSl vs) (hLS : LSI h vs LL) (hl : SlR h 3 1 lv (cellsN G)) (hK : K = LL.length + (LL.map List.length).sum + 300) :
    (∃ (es : List (List Nat)) (left : List Nat) (there : Nat) (lv' : Value) (g : H) (z : Value), lpGo (f33_l1 rn K v1 v3 LL.length) K [.bool false, iv 0, lv, iv 0, iv 0] h = some (.exit 0, [.bool false, iv 0, lv', iv there, z], g) ∧ Ext h g ∧ SlR g 3 1 lv' (cellsN left) ∧ ELk G es left there ∧ LL = es.map (fun m => m.map Int.ofNat)) ∨
    (¬ EarsOk G LL ∧ ∃ ws' g, lpGo (f33_l1 rn K v1 v3 LL.length) K [.bool false, iv 0, lv, iv 0, iv 0] h = some (.ret, .bool false :: iv 0 :: ws', g) ∧ Ext h g) := by
  obtain ⟨e, ws', h', hlp, xg, hor⟩ := lp_range (F := f33_l1 rn K v1 v3 LL.length) (k := K) (n := LL.length)
    (fun i ws g => ∃ (es : List (List Nat)) (left : List Nat) (there : Nat) (lv' : Value), ws = [.bool false, iv 0, lv', iv there, iv i] ∧ Ext h g ∧ SlR g 3 1 lv' (cellsN left) ∧ ELk G es left there ∧ LL.take i = es.map (fun m => m.map Int.ofNat))
    (fun e ws g => Ext h g ∧ ((e = .exit 0 ∧ ∃ (es : List (List Nat)) (left : List Nat) (there : Nat) (lv' z : Value), ws = [.bool false, iv 0, lv', iv there, z] ∧ SlR g 3 1 lv' (cellsN left) ∧ ELk G es left there ∧ LL = es.map (fun m => m.map Int.ofNat)) ∨ (e = .ret ∧ ¬ EarsOk G LL ∧ ∃ ws', ws = .bool false :: iv 0 :: ws')))
    (by
      rintro i ws g hi ⟨es, left, there, lv', rfl, xg, hl', hk, ht⟩
      have hx := List.getElem?_eq_getElem hi
      generalize hxd : LL[i] = x at hx
      have hvl := hLS.1
      have hxv := List.getElem?_eq_getElem (show i < vs.length by omega)
      generalize hvd : vs[i] = xv at hxv
      obtain ⟨p, q, r, rfl⟩ := hv xv (List.mem_of_getElem? hxv)
      have hei : es.length = i := by
        have := congrArg List.length ht
        rw [List.length_take, List.length_map] at this
        omega
      have hxs := len_le_sum LL x (List.mem_of_getElem? hx)
      rcases s33_ear (K := K) hG hs3 hs1 hvl hxv hx (hLS.2 i _ x hxv hx) xg hl' (hk.base hG) (by omega) (by omega) with ⟨m, rfl, hE, lv2, g', e1, xg', hl2⟩ | ⟨hno, ws', g', e1, xg'⟩
      · refine ⟨.normal, _, g', e1, .inl ⟨rfl, es ++ [m], delP left m, there ||| setOf m, lv2, rfl, xg', hl2, hk.add (by rw [hei]; exact hE), ?_⟩⟩
        rw [List.take_add_one, hx, ht, List.map_append]; rfl
      · exact ⟨.ret, _, g', e1, .inr ⟨by simp, xg', .inr ⟨rfl, not_ok hk ht hx hno, _, rfl⟩⟩⟩)
    (by
      rintro ws g ⟨es, left, there, lv', rfl, xg, hl', hk, ht⟩
      rw [List.take_length] at ht
      refine ⟨.exit 0, [.bool false, iv 0, lv', iv there, iv LL.length], g, ?_, by simp, xg, .inl ⟨rfl, es, left, there, lv', _, rfl, hl', hk, ht⟩⟩
      unfold f33_l1
      rw [show AM.gv [.bool false, iv 0, lv', iv there, iv LL.length] 4 = iv LL.length from rfl, asI_int, lt_f (by omega), ifB_false]
      rfl)
    (ws := [.bool false, iv 0, lv, iv 0, iv 0]) (h := h) (by omega) ⟨[], G, 0, lv, rfl, .refl _, hl, .inl ⟨rfl, rfl, rfl⟩, rfl⟩
  rcases hor with ⟨rfl, es, left, there, lv', z, rfl, h1, h2, h3⟩ | ⟨rfl, h1, ws', rfl⟩
  · exact .inl ⟨es, left, there, lv', h', z, hlp, xg, h1, h2, h3⟩
  · exact .inr ⟨h1, ws', h', hlp, xg⟩

theorem s33 {v lv : Value} {g : List Nat} {vs : List Value} {LL : List (List Int)} {h : H} (hg : GrN g) (hval : validG (g.map Int.ofNat) = true) (hs : SlR h 3 1 v (cellsN g)) (hl : SlR h 66 1 lv (cellsV vs)) (hv : AllSl vs) (hLS : LSI h vs LL)
    (_hm : LL.length ≤ 100) (_hm2 : ∀ m ∈ LL, m.length ≤ 100) : ∃ q, rn 33 #[v, lv] h = some (.tuple #[.bool q, iv 0], h) ∧ (q = true ↔ EarsOk g LL) := by
  have hn : ∀ {T : Type} (Q : Int → Option T), len lv Q = Q (LL.length : Int) := fun Q => by rw [hl.len, List.length_map, hLS.1]
  have c63 := fun (K : Value → H → Option (Value × H)) => calls_eq (K := K) (xs := [v]) (s36 (l := g.map Int.ofNat) (h := h) (by rw [cellsN_eq]; exact hs))
  rw [if_pos hval] at c63
  have hg0 : g ≠ [] := by rintro rfl; have := hg.pos; simp at this
  refine s74 hg.toGrB hg0 hs fun v5 h2 bb e74 x2 hbb hia => ?_
  rcases s33_l1 (K := LL.length + (LL.map List.length).sum + 300) hg (hs.ext x2.toExt) (hl.ext x2.toExt) hv (hLS.ext x2.toExt) hia.slN rfl with ⟨es, left, there, lv', g1, z, e1, xg, hl', hk, ht⟩ | ⟨hno, ws', g1, e1, xg⟩
  · have hb := hk.base hg
    have xg1 := x2.toExt.trans xg
    have hs2 := hs.ext xg1
    obtain ⟨v64, g2, e77, x3, a64⟩ := s77 hb.gr.toGrB hl'
    have hn64 : ∀ {T : Type} (Q : Int → Option T), len v64 Q = Q ((edgesP left).length : Int) := fun Q => by rw [a64.slR.len]; simp
    have hok : EarsOk g LL ↔ there = allN g ∧ (edgesP left).length = 0 := by
      constructor
      · rintro ⟨es', left', hLL, hEL, hE⟩
        have : es' = es := map2_inj (hLL.symm.trans ht)
        subst this
        obtain ⟨rfl, rfl⟩ := ELk.fun_ (.inr hEL) hk
        exact ⟨rfl, by rw [hE]; rfl⟩
      · rintro ⟨rfl, hE⟩
        rcases hk with ⟨_, _, h0⟩ | hk
        · exact absurd h0 (all_ne hg)
        · exact ⟨es, left, ht, hk, List.length_eq_zero_iff.1 hE⟩
    by_cases hm : there = allN g
    · refine ⟨decide ((edgesP left).length = 0), p33 (k := LL.length + (LL.map List.length).sum + 300) (h1 := g2) ?_ rfl (xg1.trans x3.toExt), by rw [hok, decide_eq_true_iff]; exact ⟨fun h => ⟨hm, h⟩, fun h => h.2⟩⟩
      unfold f33
      rw [c63, ext20, ext21, asB_bool, show (!true) = false from rfl, ifB_false, calls_eq (xs := [v]) e74, hn]
      refine (lp_eq e1).trans ?_
      rw [onE_exit, if_pos rfl, calls_eq (xs := [v]) (s43 hg.toGrB hs2), asI_int, show AM.gv [.bool false, iv 0, lv', iv there, z] 3 = iv there from rfl, asI_int, hm, show AM.eq (allN g : Int) (allN g : Int) = true by simp [AM.eq], ifB_true, show AM.gv [.bool false, iv 0, lv', iv (allN g : Nat), z] 2 = lv' from rfl, calls_eq (xs := [lv']) e77, hn64]
      have : AM.eq ((edgesP left).length : Int) 0 = decide ((edgesP left).length = 0) := eqN (b := 0)
      rw [this]
    · refine ⟨false, p33 (k := LL.length + (LL.map List.length).sum + 300) (h1 := g1) ?_ rfl xg1, by rw [hok]; simp [hm]⟩
      unfold f33
      rw [c63, ext20, ext21, asB_bool, show (!true) = false from rfl, ifB_false, calls_eq (xs := [v]) e74, hn]
      refine (lp_eq e1).trans ?_
      rw [onE_exit, if_pos rfl, calls_eq (xs := [v]) (s43 hg.toGrB hs2), asI_int, show AM.gv [.bool false, iv 0, lv', iv there, z] 3 = iv there from rfl, asI_int, show AM.eq (there : Int) (allN g : Int) = false by simp [AM.eq]; omega, ifB_false]
  · refine ⟨false, p33 (k := LL.length + (LL.map List.length).sum + 300) (h1 := g1) ?_ rfl (x2.toExt.trans xg), by simp [hno]⟩
    unfold f33
    rw [c63, ext20, ext21, asB_bool, show (!true) = false from rfl, ifB_false, calls_eq (xs := [v]) e74, hn]
    refine (lp_eq e1).trans ?_
    rw [onE_ret, onR_ret]
    rfl

end Go.AM

end

section

/- PLAIN: in a graph without cut nodes an outer order goes round a cycle; it and the other edges are ears. -/
namespace Go.AM
open Go.Proofs
/-- The last one and the first one are neighbours. -/
theorem out_ends {g : List Nat} (hg : GrN g) (hb : Bi g (allN g)) {m : List Nat} (hn : m.Nodup) (hm : ∀ i, i ∈ m ↔ (allN g).testBit i = true) (hx : NX (adj g) m) {x z : Nat} {l : Nat} (hl : m.length = l + 1) (h2 : 2 ≤ m.length) (h0 : m[0]? = some x) (hz : m[l]? = some z) : adj g x z = true := by
  have hpow := hg.pow
  have hal : allN g < 1024 := by have := allN_lt g; omega
  refine Classical.byContradiction fun hc => ?_
  have inA : ∀ {i y : Nat}, m[i]? = some y → (allN g).testBit y = true := fun h => (hm _).1 (List.mem_of_getElem? h)
  -- the last neighbour of x
  obtain ⟨k, w, hk, hxw, hmax⟩ : ∃ k w : Nat, m[k]? = some w ∧ adj g x w = true ∧ ∀ j y : Nat, k < j → m[j]? = some y → adj g x y = false := by
    have ex : ∃ k w : Nat, m[k]? = some w ∧ adj g x w = true := by
      have hne : z ≠ x := fun e => by
        subst e
        have := nodup_get hn h0 hz
        omega
      obtain ⟨u, hu, huA, _⟩ := (hb.conn hal x z (inA h0) (inA hz)).next hne
      obtain ⟨k, hk⟩ := List.mem_iff_getElem?.1 ((hm u).2 huA)
      exact ⟨k, u, hk, hu⟩
    have key : ∀ (d k w : Nat), m.length ≤ k + d → m[k]? = some w → adj g x w = true → ∃ k w : Nat, m[k]? = some w ∧ adj g x w = true ∧ ∀ j y : Nat, k < j → m[j]? = some y → adj g x y = false := by
      intro d
      induction d with
      | zero =>
        intro k w hd hk _
        have := (List.getElem?_eq_some_iff.1 hk).1
        omega
      | succ d ih =>
        intro k w hd hk hw
        by_cases hh : ∃ j y : Nat, k < j ∧ m[j]? = some y ∧ adj g x y = true
        · obtain ⟨j, y, h1, h2, h3⟩ := hh
          exact ih j y (by omega) h2 h3
        · refine ⟨k, w, hk, hw, fun j y h1 h2 => ?_⟩
          rw [Bool.eq_false_iff]
          exact fun h3 => hh ⟨j, y, h1, h2, h3⟩
    obtain ⟨k, w, hk, hw⟩ := ex
    exact key m.length k w (by omega) hk hw
  have hkl := (List.getElem?_eq_some_iff.1 hk).1
  have hk0 : k ≠ 0 := by
    rintro rfl
    rw [h0] at hk
    cases hk
    rw [hg.irr] at hxw; cases hxw
  have hkl' : k ≠ l := by
    rintro rfl
    rw [hz] at hk
    cases hk
    exact hc hxw
  have hxne : x ≠ w := fun e => by
    subst e
    exact hk0 (nodup_get hn hk h0)
  have hzne : z ≠ w := fun e => by
    subst e
    exact hkl' (nodup_get hn hk hz)
  have hr := hb w x z (bit_del.2 ⟨inA h0, hxne⟩) (bit_del.2 ⟨inA hz, hzne⟩)
  have key : ∀ {y}, Rch g (without (allN g) (2 ^ w)) x y → ∃ i, i < k ∧ m[i]? = some y := by
    intro y hy
    induction hy with
    | base => exact ⟨0, by omega, h0⟩
    | @step a b _ hab hbW ih =>
      obtain ⟨i, hi, hia⟩ := ih
      have hbW := bit_del.1 hbW
      obtain ⟨j, hj⟩ := List.mem_iff_getElem?.1 ((hm b).2 hbW.1)
      refine ⟨j, ?_, hj⟩
      refine Classical.byContradiction fun hjk => ?_
      have hjne : j ≠ k := by
        rintro rfl
        rw [hk] at hj
        cases hj
        exact hbW.2 rfl
      by_cases hi0 : i = 0
      · subst hi0
        rw [h0] at hia
        cases hia
        rw [hmax j b (by omega) hj] at hab; cases hab
      · exact hx x a w b (at_four (by omega) hi (by omega) h0 hia hk hj) hxw hab
  obtain ⟨i, hi, hiz⟩ := key hr
  have := nodup_get hn hiz hz
  omega

/-- Each one and the next one, round about. -/
theorem out_cycle {g : List Nat} (hg : GrN g) (hb : Bi g (allN g)) {m : List Nat} (hn : m.Nodup) (hm : ∀ i, i ∈ m ↔ (allN g).testBit i = true) (hx : NX (adj g) m) (h2 : 2 ≤ m.length) {i : Nat} (hi : i < m.length) :
    adj g (m.getD i 0) (m.getD ((i + 1) % m.length) 0) = true := by
  by_cases hlast : i + 1 = m.length
  · rw [hlast, Nat.mod_self, hg.sym]
    exact out_ends hg hb hn hm hx hlast.symm h2 (get_of (by omega)) (get_of hi)
  · rw [Nat.mod_eq_of_lt (by omega)]
    have e : m = m.take (i + 1) ++ m.drop (i + 1) := (List.take_append_drop _ _).symm
    have hx' : NX (adj g) (m.drop (i + 1) ++ m.take (i + 1)) := NX.rot hg.symA _ _ (by rw [← e]; exact hx)
    have hp : (m.drop (i + 1) ++ m.take (i + 1)).Perm m := by
      have := List.perm_append_comm (l₁ := m.drop (i + 1)) (l₂ := m.take (i + 1))
      rwa [← e] at this
    have hlen : (m.drop (i + 1) ++ m.take (i + 1)).length = m.length := hp.length_eq
    have hd : (m.drop (i + 1)).length = m.length - (i + 1) := List.length_drop
    rw [hg.sym]
    refine out_ends hg hb (hp.nodup_iff.2 hn) (fun j => by rw [hp.mem_iff]; exact hm j) hx' (l := m.length - 1) (by omega) (by omega) ?_ ?_
    · rw [List.getElem?_append_left (by omega), List.getElem?_drop]
      exact get_of (by omega)
    · rw [List.getElem?_append_right (by omega), hd, List.getElem?_take, if_pos (by omega), show m.length - 1 - (m.length - (i + 1)) = i by omega]
      exact get_of hi

/-! ### The ears -/
theorem onP_at : ∀ (m : List Nat) {x y : Nat}, onP m x y ↔ ∃ i, (m[i]? = some x ∧ m[i + 1]? = some y) ∨ (m[i]? = some y ∧ m[i + 1]? = some x)
  | [], _, _ => by simp [onP]
  | [a], x, y => by
    constructor
    · intro h; exact absurd h (by simp [onP])
    · rintro ⟨i, h | h⟩ <;> simp at h
  | a :: b :: m, x, y => by
    show ((x = a ∧ y = b) ∨ (x = b ∧ y = a) ∨ onP (b :: m) x y) ↔ _
    rw [onP_at (b :: m)]
    constructor
    · rintro (⟨rfl, rfl⟩ | ⟨rfl, rfl⟩ | ⟨i, h⟩)
      · exact ⟨0, .inl ⟨rfl, rfl⟩⟩
      · exact ⟨0, .inr ⟨rfl, rfl⟩⟩
      · exact ⟨i + 1, by simpa using h⟩
    · rintro ⟨i, h⟩
      cases i with
      | zero =>
        simp at h
        rcases h with ⟨h1, h2⟩ | ⟨h1, h2⟩
        · exact .inl ⟨h1.symm, h2.symm⟩
        · exact .inr (.inl ⟨h2.symm, h1.symm⟩)
      | succ i => exact .inr (.inr ⟨i, by simpa using h⟩)

/-- How far apart two places are. -/
def dst (i j : Nat) : Nat := max (i - j) (j - i)

theorem onC_iff {m : List Nat} (hn : m.Nodup) (h3 : 3 ≤ m.length) {a b i j : Nat} (hi : m[i]? = some a) (hj : m[j]? = some b) : onP (m ++ [m.getD 0 0]) a b ↔ dst i j = 1 ∨ dst i j = m.length - 1 := by
  have hil := (List.getElem?_eq_some_iff.1 hi).1
  have hjl := (List.getElem?_eq_some_iff.1 hj).1
  have h0 : m[0]? = some (m.getD 0 0) := get_of (by omega)
  have at_ : ∀ {k y : Nat}, (m ++ [m.getD 0 0])[k]? = some y ↔ (k < m.length ∧ m[k]? = some y) ∨ (k = m.length ∧ m[0]? = some y) := by
    intro k y
    constructor
    · intro h
      by_cases hk : k < m.length
      · rw [List.getElem?_append_left hk] at h
        exact .inl ⟨hk, h⟩
      · have hk' := (List.getElem?_eq_some_iff.1 h).1
        rw [List.length_append, List.length_singleton] at hk'
        have : k = m.length := by omega
        subst this
        simp at h
        subst h
        exact .inr ⟨rfl, h0⟩
    · rintro (⟨hk, h⟩ | ⟨rfl, h⟩)
      · rw [List.getElem?_append_left hk]; exact h
      · rw [h0] at h
        cases h
        simp
  rw [onP_at]
  unfold dst
  constructor
  · rintro ⟨k, ⟨h1, h2⟩ | ⟨h1, h2⟩⟩
    · rw [at_] at h1 h2
      rcases h1 with ⟨q1, h1⟩ | ⟨q1, h1⟩
      · have e1 := nodup_get hn hi h1
        rcases h2 with ⟨q2, h2⟩ | ⟨q2, h2⟩
        · have e2 := nodup_get hn hj h2
          omega
        · have e2 := nodup_get hn hj h2
          omega
      · rcases h2 with ⟨q2, h2⟩ | ⟨q2, h2⟩ <;> omega
    · rw [at_] at h1 h2
      rcases h1 with ⟨q1, h1⟩ | ⟨q1, h1⟩
      · have e1 := nodup_get hn hj h1
        rcases h2 with ⟨q2, h2⟩ | ⟨q2, h2⟩
        · have e2 := nodup_get hn hi h2
          omega
        · have e2 := nodup_get hn hi h2
          omega
      · rcases h2 with ⟨q2, h2⟩ | ⟨q2, h2⟩ <;> omega
  · intro h
    by_cases hij : i < j
    · by_cases h1 : j = i + 1
      · subst h1
        exact ⟨i, .inl ⟨at_.2 (.inl ⟨hil, hi⟩), at_.2 (.inl ⟨hjl, hj⟩)⟩⟩
      · have hj' : j + 1 = m.length := by omega
        have hi0 : i = 0 := by omega
        subst hi0
        exact ⟨j, .inr ⟨at_.2 (.inl ⟨hjl, hj⟩), at_.2 (.inr ⟨hj', hi⟩)⟩⟩
    · by_cases h1 : i = j + 1
      · subst h1
        exact ⟨j, .inr ⟨at_.2 (.inl ⟨hjl, hj⟩), at_.2 (.inl ⟨hil, hi⟩)⟩⟩
      · have hi' : i + 1 = m.length := by omega
        have hj0 : j = 0 := by omega
        subst hj0
        exact ⟨i, .inl ⟨at_.2 (.inl ⟨hil, hi⟩), at_.2 (.inr ⟨hi', hj⟩)⟩⟩

theorem cyc_ear {g m : List Nat} (hg : GrN g) (hn : m.Nodup) (h3 : 3 ≤ m.length) (hlt : ∀ x ∈ m, x < g.length) (hc : ∀ i, i < m.length → adj g (m.getD i 0) (m.getD ((i + 1) % m.length) 0) = true) : Ear1 g (m ++ [m.getD 0 0]) := by
  have h0 : m[0]? = some (m.getD 0 0) := get_of (by omega)
  refine ⟨by simp; omega, ?_, by simpa using hn, ?_, fun x hx => ?_⟩
  · rw [List.head?_eq_getElem?, List.getElem?_append_left (by omega), h0]; simp
  · obtain ⟨p, z, rfl⟩ := snoc_of (show m ≠ [] by rintro rfl; simp at h3)
    have hch : Ch g (p ++ [z]) := ch_of _ fun i hi => by
      have := hc i (by omega)
      rwa [Nat.mod_eq_of_lt hi] at this
    have htr := tr_of _ hg hch hn
    rw [List.append_assoc]
    show Tra g (p ++ [z, (p ++ [z]).getD 0 0])
    rw [tra_snoc]
    refine ⟨htr, (adj_delP _ hg htr _ _).2 ⟨?_, fun ho => ?_⟩⟩
    · have := hc p.length (by simp)
      rw [List.length_append, List.length_singleton, Nat.mod_self] at this
      rwa [show (p ++ [z]).getD p.length 0 = z from nb_snoc p z] at this
    · rw [onP_at] at ho
      have hz : (p ++ [z])[p.length]? = some z := by simp
      rw [List.length_append, List.length_singleton] at h3
      obtain ⟨i, ⟨q1, q2⟩ | ⟨q1, q2⟩⟩ := ho
      · have := nodup_get hn hz q1
        have := nodup_get hn h0 q2
        omega
      · have := nodup_get hn hz q2
        have := nodup_get hn h0 q1
        omega
  · rcases List.mem_append.1 hx with hx | hx
    · exact hlt x hx
    · rw [List.mem_singleton.1 hx]
      exact hlt _ (List.mem_of_getElem? h0)

/-- Edges are taken out one by one, as ears of two nodes. -/
theorem chords_el {g c : List Nat} (hg : GrN g) (hc : Ear1 g c) (hall : setOf c = allN g) : ∀ (cs : List (Nat × Nat)), cs.Nodup → (∀ e ∈ cs, e.2 < e.1 ∧ adj g e.1 e.2 = true ∧ ¬ onP c e.1 e.2) →
    ∃ left, EL g (c :: cs.map fun e => [e.1, e.2]) left (allN g) ∧ GrN left ∧ left.length = g.length ∧ ∀ x y, adj left x y = true ↔ adj g x y = true ∧ ¬ onP c x y ∧ (x, y) ∉ cs ∧ (y, x) ∉ cs := by
  have key : ∀ (n : Nat) (cs : List (Nat × Nat)), cs.length = n → cs.Nodup → (∀ e ∈ cs, e.2 < e.1 ∧ adj g e.1 e.2 = true ∧ ¬ onP c e.1 e.2) →
    ∃ left, EL g (c :: cs.map fun e => [e.1, e.2]) left (allN g) ∧ GrN left ∧ left.length = g.length ∧ ∀ x y, adj left x y = true ↔ adj g x y = true ∧ ¬ onP c x y ∧ (x, y) ∉ cs ∧ (y, x) ∉ cs := by
    intro n
    induction n with
    | zero =>
      intro cs hl _ _
      have : cs = [] := List.eq_nil_of_length_eq_zero hl
      subst this
      refine ⟨delP g c, by rw [← hall]; exact .first hc, GrN.delP c hg hc.tr, delP_len _ _, fun x y => ?_⟩
      rw [adj_delP c hg hc.tr]
      simp
    | succ n ih =>
      intro cs hl hn he
      have hne : cs ≠ [] := by rintro rfl; simp at hl
      obtain ⟨p, e, rfl⟩ : ∃ p e, cs = p ++ [e] := ⟨cs.dropLast, cs.getLast hne, (List.dropLast_concat_getLast hne).symm⟩
      rw [List.nodup_append] at hn
      obtain ⟨n1, _, n3⟩ := hn
      have hep : e ∉ p := fun h => n3 e h e (by simp) rfl
      obtain ⟨left, h1, h2, h3, h4⟩ := ih p (by simp at hl; omega) n1 fun e' he' => he e' (List.mem_append.2 (.inl he'))
      obtain ⟨q1, q2, q3⟩ := he e (List.mem_append.2 (.inr (by simp)))
      have hrev : (e.2, e.1) ∉ p := fun h => by
        have := (he _ (List.mem_append.2 (.inl h))).1
        simp at this
        omega
      have hadj : adj left e.1 e.2 = true := (h4 _ _).2 ⟨q2, q3, hep, hrev⟩
      have hlt := hg.adj_lt q2
      refine ⟨delE left e.1 e.2, ?_, h2.delE hadj, by rw [delE_len, h3], fun x y => ?_⟩
      · have := EL.next h1 (m := [e.1, e.2]) ⟨by simp, by simp; omega, ⟨hadj, trivial⟩, fun i hi => ?_, fun x hx => ?_⟩
        · have hset : allN g ||| setOf [e.1, e.2] = allN g := by
            refine Nat.eq_of_testBit_eq fun i => ?_
            rw [Nat.testBit_or, Bool.eq_iff_iff, Bool.or_eq_true, setOf_bit]
            refine ⟨fun h => h.elim id fun h => ?_, .inl⟩
            rw [allN_bit, decide_eq_true_iff]
            simp only [List.mem_cons, List.not_mem_nil, or_false] at h
            rcases h with rfl | rfl
            · exact hlt.1
            · exact hlt.2
          rw [hset] at this
          have this' : EL g ((c :: p.map fun e => [e.1, e.2]) ++ [[e.1, e.2]]) (delE left e.1 e.2) (allN g) := this
          simpa using this'
        · have hi' : i = 0 ∨ i = 1 := by simp at hi; omega
          constructor
          · intro _
            simp
            omega
          · intro _
            rw [allN_bit, decide_eq_true_iff]
            rcases hi' with rfl | rfl
            · exact hlt.1
            · exact hlt.2
        · simp only [List.mem_cons, List.not_mem_nil, or_false] at hx
          rcases hx with rfl | rfl
          · exact hlt.1
          · exact hlt.2
      · rw [adj_delE (by omega) (by omega) (by omega), Bool.and_eq_true, h4, Bool.not_eq_true', Bool.or_eq_false_iff, decide_eq_false_iff_not, decide_eq_false_iff_not]
        simp only [List.mem_append, List.mem_singleton, not_or]
        constructor
        · rintro ⟨⟨a1, a2, a3, a4⟩, a5, a6⟩
          exact ⟨a1, a2, ⟨a3, fun h => a5 (by rw [← h]; exact ⟨rfl, rfl⟩)⟩, a4, fun h => a6 (by rw [← h]; exact ⟨rfl, rfl⟩)⟩
        · rintro ⟨a1, a2, ⟨a3, a5⟩, a4, a6⟩
          exact ⟨⟨a1, a2, a3, a4⟩, fun h => a5 (Prod.ext h.1 h.2), fun h => a6 (Prod.ext h.2 h.1)⟩
  exact fun cs => key cs.length cs rfl

/-- The cycle and the other edges take a graph together. -/
theorem own_el {g m : List Nat} (hg : GrN g) (hn : m.Nodup) (h3 : 3 ≤ m.length) (hm : ∀ i, i ∈ m ↔ (allN g).testBit i = true) (hc : ∀ i, i < m.length → adj g (m.getD i 0) (m.getD ((i + 1) % m.length) 0) = true)
    {cs : List (Nat × Nat)} (hcs : cs.Nodup) (hmem : ∀ a b, (a, b) ∈ cs ↔ b < a ∧ adj g a b = true ∧ ¬ onP (m ++ [m.getD 0 0]) a b) :
    ∃ left, EL g ((m ++ [m.getD 0 0]) :: cs.map fun e => [e.1, e.2]) left (allN g) ∧ edgesP left = [] := by
  have hlt : ∀ x ∈ m, x < g.length := fun x hx => by
    have := (hm x).1 hx
    rwa [allN_bit, decide_eq_true_iff] at this
  have h0 : m[0]? = some (m.getD 0 0) := get_of (by omega)
  have hall : setOf (m ++ [m.getD 0 0]) = allN g := by
    refine Nat.eq_of_testBit_eq fun i => ?_
    rw [Bool.eq_iff_iff, setOf_bit, List.mem_append, List.mem_singleton, ← hm]
    exact ⟨fun h => h.elim id fun h => by rw [h]; exact List.mem_of_getElem? h0, .inl⟩
  obtain ⟨left, h1, h2, h3', h4⟩ := chords_el hg (cyc_ear hg hn h3 hlt hc) hall cs hcs fun e he => (hmem e.1 e.2).1 he
  refine ⟨left, h1, ?_⟩
  refine List.eq_nil_iff_forall_not_mem.2 fun e he => ?_
  obtain ⟨q1, q2, q3⟩ := mem_edges.1 he
  obtain ⟨a1, a2, a3, a4⟩ := (h4 _ _).1 q3
  refine a4 ((hmem _ _).2 ⟨q1, by rw [hg.sym]; exact a1, fun h => a2 ?_⟩)
  rw [onP_at] at h ⊢
  obtain ⟨i, h⟩ := h
  exact ⟨i, h.symm⟩

/-- Any two lists of ears of a graph are equally long. -/
theorem el_count {g : List Nat} (hg : GrN g) (hb : Bi g (allN g)) {es es' : List (List Nat)} {left left' : List Nat} (h : EL g es left (allN g)) (h' : EL g es' left' (allN g)) (he : edgesP left = []) (he' : edgesP left' = []) : es.length = es'.length := by
  have h1 := ((h.inv hg).done hg hb he).2
  have h2 := ((h'.inv hg).done hg hb he').2
  omega

theorem firm_bi {g : List Nat} (hg : GrN g) (hb : Bi g (allN g)) (h3 : 3 ≤ g.length) : firmP g = true := by
  have hlen := hg.len
  have hpow := hg.pow
  have hal : allN g < 1024 := by have := allN_lt g; omega
  unfold firmP
  rw [Bool.and_eq_true, decide_eq_true_iff]
  refine ⟨(conn_iff hg (allN_lt g)).2 (hb.conn hal), ?_⟩
  unfold bridgesP
  rw [List.filter_eq_nil_iff]
  intro e he
  obtain ⟨q1, q2, q3⟩ := mem_edges.1 he
  have := first_way hg hb h3 q3
  unfold roundQ
  rw [(rch_bit (by omega) hal).2 this]
  simp

end Go.AM

end

section

/- The staged forms of functions 7, and what calls of these answer. -/
namespace Go.AM
open Go.Proofs
noncomputable def f7_l1 (_rec : Rec) (_k : Nat) (v0 : Value) (v3 : Value) (n5 : Int) (ws0 : List Value) (h11 : H) : Option (Ex × List Value × H) :=
  asI .i64 (gv ws0 1) fun n6 =>
  ifB (lt n6 n5) (
    asK (gv ws0 1) fun n7 =>
    six v3 n7 1 fun b0 b1 =>
    ld Tryd.prog h11 3 b0 b1 fun v15 =>
    asI .i64 v15 fun n8 =>
    asI .i64 (gv ws0 1) fun n9 =>
    len v3 fun n10 =>
    nz n10 (
      six v3 (rem .i64 (add .i64 n9 1) n10) 1 fun b2 b3 =>
      ld Tryd.prog h11 3 b2 b3 fun v16 =>
      asI .i64 v16 fun n11 =>
      ifB (lt n8 0) (
        out .ret [(.bool false), gv ws0 1] h11) (
        len v0 fun n12 =>
        ifB (le n12 n8) (
          out .ret [(.bool false), gv ws0 1] h11) (
          ifB (lt n11 0) (
            out .ret [(.bool false), gv ws0 1] h11) (
            len v0 fun n13 =>
            ifB (le n13 n11) (
              out .ret [(.bool false), gv ws0 1] h11) (
              six v0 n8 1 fun b4 b5 =>
              ld Tryd.prog h11 3 b4 b5 fun v17 =>
              asI .i64 v17 fun n14 =>
              nn n11 (
                ifB (eq (and .i64 (shr .i64 n14 n11) 1) 0) (
                  out .ret [(.bool false), gv ws0 1] h11) (
                  asI .i64 (gv ws0 1) fun n15 =>
                  out .normal [gv ws0 0, (.int .i64 (add .i64 n15 1))] h11)))))))) (
    out (.exit 0) [gv ws0 0, gv ws0 1] h11)

noncomputable def f7_l3 (rec : Rec) (_k : Nat) (v0 : Value) (v3 : Value) (ws2 : List Value) (ws3 : List Value) (h18 : H) : Option (Ex × List Value × H) :=
  asI .i64 (gv ws3 1) fun n19 =>
  asI .i64 (gv ws2 1) fun n20 =>
  ifB (lt n19 n20) (
    calls rec h18 32 [v3, gv ws2 1] fun v23 h19 =>
    asI .i64 v23 fun n21 =>
    calls rec h19 32 [v3, gv ws3 1] fun v24 h20 =>
    asI .i64 v24 fun n22 =>
    asK (gv ws2 1) fun n23 =>
    six v0 n23 1 fun b8 b9 =>
    ld Tryd.prog h20 3 b8 b9 fun v25 =>
    asI .i64 v25 fun n24 =>
    asK (gv ws3 1) fun n25 =>
    nn n25 (
      ifB (eq (and .i64 (shr .i64 n24 n25) 1) 1) (
        ifB (not (eq (imax (sub .i64 n21 n22) (sub .i64 n22 n21)) 1)) (
          len v3 fun n26 =>
          ifB (not (eq (imax (sub .i64 n21 n22) (sub .i64 n22 n21)) (sub .i64 n26 1))) (
            bls Tryd.prog h20 66 2 [(0, gv ws2 1), (1, gv ws3 1)] fun v26 h21 =>
            bls Tryd.prog h21 61 1 [(0, v26)] fun v27 h22 =>
            app Tryd.prog h22 61 61 (gv ws3 0) v27 fun v28 h23 =>
            asI .i64 (gv ws3 1) fun n27 =>
            out .normal [v28, (.int .i64 (add .i64 n27 1))] h23) (
            asI .i64 (gv ws3 1) fun n28 =>
            out .normal [gv ws3 0, (.int .i64 (add .i64 n28 1))] h20)) (
          asI .i64 (gv ws3 1) fun n29 =>
          out .normal [gv ws3 0, (.int .i64 (add .i64 n29 1))] h20)) (
        asI .i64 (gv ws3 1) fun n30 =>
        out .normal [gv ws3 0, (.int .i64 (add .i64 n30 1))] h20))) (
    out (.exit 4) [gv ws3 0, gv ws3 1] h18)

noncomputable def f7_l2 (rec : Rec) (k : Nat) (v0 : Value) (v3 : Value) (n17 : Int) (ws2 : List Value) (h17 : H) : Option (Ex × List Value × H) :=
  asI .i64 (gv ws2 1) fun n18 =>
  ifB (lt n18 n17) (
    lp k (f7_l3 rec k v0 v3 ws2) [gv ws2 0, (.int .i64 0)] h17 fun e1 ws4 h24 =>
    onE e1 4 (
      asI .i64 (gv ws2 1) fun n31 =>
      out .normal [gv ws4 0, (.int .i64 (add .i64 n31 1))] h24) (
      none)) (
    out (.exit 2) [gv ws2 0, gv ws2 1] h17)

noncomputable def f7 (rec : Rec) (k : Nat) (v0 : Value) (h0 : H) : Option (Value × H) :=
  calls rec h0 11 [v0] fun v1 h1 =>
  calls rec h1 22 [v1] fun v2 h2 =>
  ext v2 0 fun v3 =>
  ext v2 1 fun v4 =>
  asI .i64 v4 fun n0 =>
  calls rec h2 11 [v0] fun v5 h3 =>
  calls rec h3 30 [v5] fun v6 h4 =>
  ext v6 0 fun v7 =>
  ext v6 1 fun v8 =>
  asI .i64 v8 fun n1 =>
  ifB (not (eq n0 0)) (
    ifB (eq n0 2) (
      calls rec h4 15 [] fun v9 h5 =>
      asB v9 fun q0 =>
      some ((.bool q0), h5)) (
      ifB (eq n0 4) (
        calls rec h4 15 [] fun v10 h6 =>
        asB v10 fun q1 =>
        some ((.bool q1), h6)) (
        ifB (eq n1 5) (
          calls rec h4 15 [] fun v11 h7 =>
          asB v11 fun q2 =>
          some ((.bool q2), h7)) (
          some ((.bool false), h4))))) (
    ifB (not (eq n1 0)) (
      ifB (eq n0 2) (
        calls rec h4 15 [] fun v12 h8 =>
        asB v12 fun q3 =>
        some ((.bool q3), h8)) (
        ifB (eq n0 4) (
          calls rec h4 15 [] fun v13 h9 =>
          asB v13 fun q4 =>
          some ((.bool q4), h9)) (
          ifB (eq n1 5) (
            calls rec h4 15 [] fun v14 h10 =>
            asB v14 fun q5 =>
            some ((.bool q5), h10)) (
            some ((.bool false), h4))))) (
      len v3 fun n2 =>
      len v0 fun n3 =>
      ifB (not (eq n2 n3)) (
        some ((.bool false), h4)) (
        len v3 fun n4 =>
        ifB (lt n4 3) (
          some ((.bool false), h4)) (
          len v3 fun n5 =>
          lp k (f7_l1 rec k v0 v3 n5) [(.bool false), (.int .i64 0)] h4 fun e0 ws1 h12 =>
          onE e0 0 (
            calls rec h12 31 [v3] fun v18 h13 =>
            six v3 0 1 fun b6 b7 =>
            ld Tryd.prog h13 3 b6 b7 fun v19 =>
            asI .i64 v19 fun n16 =>
            ck (freq b6 (nx h12) (same h13 h12)) (
              bls Tryd.prog h13 22 1 [(0, (.int .i64 n16))] fun v20 h14 =>
              app Tryd.prog h14 22 22 v18 v20 fun v21 h15 =>
              bls Tryd.prog h15 61 1 [(0, v21)] fun v22 h16 =>
              len v0 fun n17 =>
              lp k (f7_l2 rec k v0 v3 n17) [v22, (.int .i64 0)] h16 fun e2 ws5 h25 =>
              onE e2 2 (
                calls rec h25 11 [v0] fun v29 h26 =>
                calls rec h26 33 [v29, gv ws5 0] fun v30 h27 =>
                ext v30 0 fun v31 =>
                asB v31 fun q6 =>
                ext v30 1 fun v32 =>
                asI .i64 v32 fun n32 =>
                calls rec h27 11 [v0] fun v33 h28 =>
                calls rec h28 34 [v33] fun v34 h29 =>
                ext v34 0 fun _ =>
                ext v34 1 fun v36 =>
                asI .i64 v36 fun n33 =>
                calls rec h29 11 [v0] fun v37 h30 =>
                calls rec h30 20 [v37] fun v38 h31 =>
                ext v38 0 fun _ =>
                ext v38 1 fun v40 =>
                asI .i64 v40 fun n34 =>
                ifB q6 (
                  ifB (eq n32 0) (
                    ifB (eq n33 0) (
                      ifB (eq n34 0) (
                        len (gv ws5 0) fun n35 =>
                        len v7 fun n36 =>
                        ifB (eq n35 n36) (
                          calls rec h31 15 [] fun v41 h32 =>
                          asB v41 fun q7 =>
                          some ((.bool q7), h32)) (
                          some ((.bool false), h31))) (
                        some ((.bool false), h31))) (
                      some ((.bool false), h31))) (
                    some ((.bool false), h31))) (
                  some ((.bool false), h31))) (
                none))) (
            onR e0 (
              some (gv ws1 0, h12)))))))

theorem e7 (rec : Rec) (k : Nat) (v0 : Value) (h : H) : bodyT Tryd.prog E0 SC (XC Tryd.prog rec k) 7 (Value × H) [.opq v0] h (fun v h => some (v, h)) = f7 rec k v0 h := by kernel_rfl

theorem t7 {k : Nat} {v0 : Value} {h h1 : H} {v : Value} (hh : f7 rn k v0 h = some (v, h1)) : rn 7 #[v0] h = some (v, trunc Tryd.prog h h1 v) :=
  run_of_bodyT (args := [.opq v0]) rfl ((e7 _ _ _ _).trans hh)

theorem p7 {k : Nat} {v0 : Value} {h h1 : H} {v : Value} (hh : f7 rn k v0 h = some (v, h1)) (hp : plainO v = true) (x : Ext h h1) : rn 7 #[v0] h = some (v, h) := by rw [t7 hh, trunc_pure hp x]

theorem x7 {k : Nat} {v0 : Value} {h h1 : H} {v : Value} (hh : f7 rn k v0 h = some (v, h1)) (hp : plainO v = false) : ∃ h2, rn 7 #[v0] h = some (v, h2) ∧ Sm h1 h2 ∧ (Ext h h1 → Exw h h2) := trunc_cell hp (t7 hh)

end Go.AM

end

section

/- Orient: the whole. -/
namespace Go.AM
open Go.Proofs
variable {R : Type}
attribute [local simp] nx_eq nx_new nx_set blk_new blk_set asI_int asK_int asB_bool asP_ptr al_eq bx_eq len_slice onE_exit onE_ret onR_ret Value.cells cell_new cell_set rd_new rd_set off eq lt le ifB gv out ext20 ext21
set_option maxHeartbeats 1000000 in
theorem s34 {v : Value} {g : List Nat} {h : H} (hg : GrN g) (hval : validG (g.map Int.ofNat) = true) (hs : SlR h 3 1 v (cellsN g)) :
    ∃ v' e h', rn 34 #[v] h = some (.tuple #[v', iv e], h') ∧ Exw h h' ∧
      if firmP g = true then e = 0 ∧ ∃ T, Tree g T ∧ SlR h' 124 2 v' (cellsQ (streetsP g T)) else v' = .slice none 0 0 ∧ e = 4 := by
  have hlen := hg.len
  have hpos := hg.pos
  have c63 := fun (K : Value → H → Option (Value × H)) => calls_eq (K := K) (xs := [v]) (s36 (l := g.map Int.ofNat) (h := h) (by rw [cellsN_eq]; exact hs))
  rw [if_pos hval] at c63
  obtain ⟨h3, hh3⟩ : ∃ h3, h3 = (h.new (.row [.slice none 0 0] 72 true)).set h.nx (.row [v] 72 true) := ⟨_, rfl⟩
  have hw3 : wrc 1 (h.new (.row [.slice none 0 0] 72 true)) h.nx 0 v = some h3 := by
    rw [hh3]; unfold wrc; rw [blk_new_self]
    obtain ⟨x, y, z, rfl⟩ := hs.isSl
    rfl
  have hb3 : h3.blk h.nx = some (.row [v] 72 true) := by rw [hh3]; exact blk_set_self _ _ _
  have hn3 : h3.nx = h.nx + 1 := by rw [hh3]; rfl
  have x3 : Ext h h3 := by rw [hh3]; exact ((Ext.refl h).new' _).set (Nat.le_refl _) _
  have hs3 := hs.ext x3
  have c65 := fun (K : Value → H → Option (Value × H)) => calls_eq (K := K) (xs := [v]) (s43 hg.toGrB hs3)
  have c64 := fun (K : Value → H → Option (Value × H)) => calls_eq (K := K) (xs := [v, iv (allN g : Nat)]) (s44 hg.toGrB hs3 (allN_lt g))
  have ldt : ∀ {g' : H} {T : Type} (hx : Ext h3 g') (K : Value → Option T), (ld Tryd.prog g' 72 h.nx 0 K) = K v := fun hx K => by rw [d72, cell_of ((hx.blk _ (by omega)).trans hb3)]; rfl
  have start : ∀ r, (ifB (!connS g (allN g)) (some ((.tuple #[(.slice none 0 0), (.int .i64 4)]), h3)) (calls rn h3 81 [v] fun v9 h6 =>
        len v9 fun n1 =>
        ifB (AM.lt 0 n1) (
          some ((.tuple #[(.slice none 0 0), (.int .i64 4)]), h6)) (
          mkm h6 fun h7 =>
          mup Tryd.prog h7 120 (.map (some (nx h6))) (.int .i64 0) (.int .i64 0) fun h8 =>
          al h8 120 [(.map none)] fun h9 =>
          st Tryd.prog h9 120 (nx h8) 0 (.map (some (nx h6))) fun h10 =>
          mkm h10 fun h11 =>
          mup Tryd.prog h11 120 (.map (some (nx h10))) (.int .i64 0) (.int .i64 (-1)) fun h12 =>
          al h12 120 [(.map none)] fun h13 =>
          st Tryd.prog h13 120 (nx h12) 0 (.map (some (nx h10))) fun h14 =>
          al h14 121 [.nilFunc] fun h15 =>
          st Tryd.prog h15 121 (nx h14) 0 (.func (.func 82) #[] #[(pt h.nx 0), (pt (nx h8) 0), (pt (nx h12) 0), (pt (nx h14) 0)]) fun h16 =>
          ld Tryd.prog h16 121 (nx h14) 0 fun v10 =>
          callsV rn h16 v10 [(.int .i64 0)] fun _ h17 =>
          ld Tryd.prog h17 72 h.nx 0 fun v12 =>
          calls rn h17 77 [v12] fun v13 h18 =>
          len v13 fun n2 =>
          lp 200 (f34_l1 rn 200 h8 h12 v13 n2) [(.slice none 0 0), (.int .i64 0)] h18 fun e0 ws1 h30 =>
          onE e0 0 (
            some ((.tuple #[AM.gv ws1 0, (.int .i64 0)]), h30)) (
            none)))) = r → f34 rn 200 v h = r := by
    intro r hr
    unfold f34
    rw [c63]
    simp only [ext20, ext21, asB_bool, al_eq, w72, nx_eq]
    rw [hw3, Option.bind_some, show (!true) = false from rfl, ifB_false, ldt (.refl _), ldt (.refl _), c65, asI_int]
    simp only [freq, same_self, hn3, decide_eq_true (show h.nx < h.nx + 1 by omega), Bool.and_self, ck_true]
    rw [c64, asB_bool, ldt (.refl _)]
    exact hr
  by_cases hcon : connS g (allN g) = true
  · obtain ⟨v9, h6, e81, x6, hs9⟩ := s81 hg.toGrB hs3
    have c69 := fun (K : Value → H → Option (Value × H)) => calls_eq (K := K) (xs := [v]) e81
    have hn9 : ∀ {T : Type} (K : Int → Option T), len v9 K = K ((bridgesP g).length : Int) := fun K => by rw [hs9.len]; simp
    by_cases hbr : bridgesP g = []
    · have hfirm : firmP g = true := by unfold firmP; rw [hcon, decide_eq_true hbr]; rfl
      simp only [hfirm, if_true]
      obtain ⟨h8, h10, es, c, em1, n8, n10, b8, kv8, b10, x24⟩ := mk_map (R := Value × H) h6 0
      obtain ⟨h12, h14, es', c', em2, n12, n14, b12, kv12, b14, x14⟩ := mk_map (R := Value × H) h10 (-1)
      obtain ⟨h16, hh16⟩ : ∃ h16, h16 = (h14.new (.row [.nilFunc] 121 true)).set h14.nx (.row [visF h.nx h8.nx h12.nx h14.nx] 121 true) := ⟨_, rfl⟩
      have hw16 : wrc 1 (h14.new (.row [.nilFunc] 121 true)) h14.nx 0 (visF h.nx h8.nx h12.nx h14.nx) = some h16 := by
        rw [hh16]; unfold wrc; rw [blk_new_self]; rfl
      have hb16 : h16.blk h14.nx = some (.row [visF h.nx h8.nx h12.nx h14.nx] 121 true) := by rw [hh16]; exact blk_set_self _ _ _
      have hn16 : h16.nx = h14.nx + 1 := by rw [hh16]; rfl
      have x27 : Ext h14 h16 := by rw [hh16]; exact ((Ext.refl h14).new' _).set (Nat.le_refl _) _
      have xa : Ext h3 h16 := ((x6.toExt.trans x24).trans x14).trans x27
      have x1016 : Ext h10 h16 := x14.trans x27
      have hn36 := x6.nx
      have ht16 : HT g ([] ++ [(0, -1)]) h.nx h8.nx h12.nx h14.nx h6.nx h10.nx v h16 := by
        refine ⟨(xa.blk _ (by omega)).trans hb3, ?_, ?_, hb16, hs3.ext xa, ⟨es, c, (x1016.blk _ (by omega)).trans b8, kv8⟩, ⟨es', c', (x27.blk _ (by omega)).trans b12, kv12⟩, by omega, by omega, by omega, by omega, by omega, by omega, by omega⟩
        · rw [n8]; exact (x1016.blk _ (by omega)).trans b10
        · rw [n12]; exact (x27.blk _ (by omega)).trans b14
      obtain ⟨X, h17, e82, ht17, f17, vis⟩ := s82 hg g.length [] 0 (-1) h16 (wf0 hg) (by simp) ht16
      have tree := vis.tree
      rw [List.nil_append] at ht17
      generalize hT : [(0, -1)] ++ X = T at *
      have c75 := fun (K : Value → H → Option (Value × H)) => calls_eq (K := K) (xs := [.int .i64 0, pt h.nx 0, pt h8.nx 0, pt h12.nx 0, pt h14.nx 0]) e82
      obtain ⟨v13, h18, e77, x18, hap0⟩ := s77 hg.toGrB ht17.s
      have c77 := fun (K : Value → H → Option (Value × H)) => calls_eq (K := K) (xs := [v]) e77
      have ht18 := ht17.ext x18.toExt
      have hel := edges_len g hg.toGrB
      have hn13 : ∀ {T : Type} (K : Int → Option T), len v13 K = K ((edgesP g).length : Int) := fun K => by rw [hap0.slR.len]; simp
      have hc0 : Conn g (allN g) := (conn_iff hg (allN_lt g)).1 hcon
      obtain ⟨sv', w', h30, hl, xg, hap'⟩ := or_loop hg tree hc0 ht18 rfl rfl hap0.slR
      have x17 : Ext h h17 := by
        have q1 := (x3.trans xa)
        refine ⟨by have := q1.nx; have := f17.nx; omega, fun b hb => ?_⟩
        rw [f17.blk b (by have := q1.nx; omega) (by omega) (by omega)]
        exact q1.blk b hb
      have xend : Ext h h30 := (x17.trans x18.toExt).trans xg
      obtain ⟨h31, e63, m31, w32⟩ := x34 (k := 200) (v0 := v) (h := h) (h1 := h30) (v := .tuple #[sv', iv 0]) (start _ (by
        rw [hcon, show (!true) = false from rfl, ifB_false, c69, hn9, hbr, show AM.lt 0 (([] : List (Nat × Nat)).length : Int) = false from rfl, ifB_false, em1, em2, al_eq, w121]
        simp only [nx_eq]
        rw [hw16, Option.bind_some, d121, cell_of hb16]
        rw [show ([visF h.nx h8.nx h12.nx h14.nx] : List Value)[0]? = some (visF h.nx h8.nx h12.nx h14.nx) from rfl, Option.bind_some, callsV_eq, show (#[] : Array Value).toList ++ [.int .i64 0] ++ (#[pt h.nx 0, pt h8.nx 0, pt h12.nx 0, pt h14.nx 0] : Array Value).toList = [.int .i64 0, pt h.nx 0, pt h8.nx 0, pt h12.nx 0, pt h14.nx 0] from rfl, c75]
        rw [d72, cell_of ht17.t, show ([v] : List Value)[0]? = some v from rfl, Option.bind_some, c77, hn13]
        refine (lp_eq hl).trans ?_
        rfl)) hap'.slR.notR2
      exact ⟨sv', 0, h31, e63, w32 xend, rfl, T, tree, hap'.slR.ext m31.ext⟩
    · have hfirm : firmP g = false := by unfold firmP; rw [hcon, decide_eq_false hbr]; rfl
      simp only [hfirm, Bool.false_eq_true, if_false]
      have hpos' : (bridgesP g).length ≠ 0 := by simpa using hbr
      obtain ⟨h2, e2, m2, w2⟩ := x34 (k := 200) (v0 := v) (h := h) (h1 := h6) (v := .tuple #[.slice none 0 0, iv 4]) (start _ (by
        rw [hcon, show (!true) = false from rfl, ifB_false, c69, hn9, lt_t (by omega), ifB_true])) rfl
      exact ⟨_, 4, h2, e2, w2 (x3.trans x6.toExt), rfl, rfl⟩
  · have hfirm : firmP g = false := by unfold firmP; rw [Bool.eq_false_iff.2 hcon]; rfl
    simp only [hfirm, Bool.false_eq_true, if_false]
    obtain ⟨h2, e2, m2, w2⟩ := x34 (k := 200) (v0 := v) (h := h) (h1 := h3) (v := .tuple #[.slice none 0 0, iv 4]) (start _ (by
      rw [Bool.eq_false_iff.2 hcon, show (!false) = true from rfl, ifB_true])) rfl
    exact ⟨_, 4, h2, e2, w2 x3, rfl, rfl⟩

end Go.AM

end

section

/- Law 7: an outer order of a double graph goes round a cycle. -/
namespace Go.AM
open Go.Proofs
variable {k : Nat} {R : Type}
attribute [local simp] eq lt le
/-- A copy that is one's own. -/
theorem s31a {v : Value} {m : List Nat} {h : H} (hs : SlR h 3 1 v (cellsN m)) (hm0 : m ≠ []) (hm : m.length < 1000) : ∃ v' h', rn 31 #[v] h = some (v', h') ∧ Exw h h' ∧ AqR h.nx h' 3 1 v' (cellsN m) := by
  have x1 := Ext.new h (.row [] 3 true)
  have hlit : AqR h.nx (h.new (.row [] 3 true)) 3 1 (.slice (some ⟨h.nx, 0, none⟩) 0 0) [] := AqR.lit (l := []) (Nat.le_refl _) rfl (by simp) (by simp)
  obtain ⟨v', h', e, a, n, kk, _⟩ := hlit.app app22 app22 (hs.ext x1) (cellsN_scal m) (by simp; omega) (by rw [nx_new]; omega)
  rw [List.nil_append] at a
  have x : Ext h h' := ⟨by rw [nx_new] at n; omega, fun q hq => by
    rw [kk q (by rw [nx_new]; omega) (fun e => by cases e; omega)]
    exact x1.blk q hq⟩
  have hv : ∃ b o n c, v = .slice (some ⟨b, o, none⟩) n c := by
    generalize hC : cellsN m = C at hs
    cases hs with
    | nil => cases m with
      | nil => exact absurd rfl hm0
      | cons a t => cases hC
    | at_ hb hr hk hc hl hx => exact ⟨_, _, _, _, rfl⟩
  obtain ⟨vb, vo, vn, vc, rfl⟩ := hv
  obtain ⟨h2, e2, m2, w2⟩ := x31 (k := 0) (v0 := .slice (some ⟨vb, vo, none⟩) vn vc) (h := h) (h1 := h') (v := v') (by
    unfold f31 eqv
    rw [some22]
    simp only []
    rw [ifB_false, bls_some (bls22e h)]
    exact e _) a.slR.notR
  exact ⟨v', h2, e2, w2 x, a.ext m2.ext⟩

/-- Where a number stands. -/
theorem s32 {v : Value} {m : List Nat} {h : H} {a i : Nat} (hs : SlR h 3 1 v (cellsN m)) (hn : m.Nodup) (hm : m.length < 1000) (hi : m[i]? = some a) : rn 32 #[v, iv a] h = some (iv i, h) := by
  have hl : ∀ {T : Type} (K : Int → Option T), len v K = K (m.length : Int) := fun K => by rw [hs.len]; simp
  have hlp := lp_all (F := f32_l1 rn 2000 v a m.length) (k := 2000) (l := m) (h := h) (fun i => [iv 0, iv i])
    (fun _ y => !decide (a = y)) (fun i => [iv i, iv i]) 0 [iv 0, iv m.length] (ws := [iv 0, iv 0]) rfl (by omega)
    (by
      unfold f32_l1
      rw [show gv [iv 0, iv (m.length : Int)] 1 = iv m.length from rfl, asI_int, lt_f (by omega), ifB_false]
      rfl)
    (by
      intro j y hy
      have hj := (List.getElem?_eq_some_iff.1 hy).1
      have hadd : add .i64 (j : Int) 1 = ((j + 1 : Nat) : Int) := by rw [add64 (by omega) (by omega)]; omega
      have e1 : ∀ (K : Value → Option (Ex × List Value × H)), (six v (j : Int) 1 fun b o => (h.cell b o).bind K) = K (iv y) := fun K => hs.c0 (by omega) (x := [iv y]) (by simp [hy]) rfl K
      unfold f32_l1
      simp only [d3]
      rw [show gv [iv 0, iv (j : Int)] 1 = iv j from rfl, asI_int, lt_t (by omega), ifB_true, asK_int, e1, asI_int]
      by_cases hay : a = y
      · subst hay
        rw [show AM.eq (a : Int) (a : Int) = true by simp, ifB_true]; simp [out]
      · rw [show AM.eq (a : Int) (y : Int) = false by simp; omega, ifB_false, asI_int, hadd]; simp [hay, out, gv])
  rcases hlp with ⟨j, y, hy, hf, _, hl'⟩ | ⟨hall, _⟩
  · have : a = y := by simpa using hf
    subst this
    have := nodup_get hn hi hy
    subst this
    refine p32 (k := 2000) (h1 := h) ?_ rfl (.refl _)
    unfold f32
    rw [hl]
    exact (lp_eq hl').trans rfl
  · have := hall i a hi
    simp at this

theorem bls66b (a b : Int) (h : H) : buildSlice Tryd.prog 66 2 [(0, .int .i64 a), (1, .int .i64 b)] h = some (.slice (some ⟨h.nx, 0, none⟩) 2 2, h.new (.row [iv a, iv b] 3 true)) := by kernel_rfl

/-- Ears that are gathered. -/
structure OwnE (h0 g : H) (ov : Value) (es : List (List Nat)) : Prop where
  x : Ext h0 g
  vs : ∃ vs, AqR h0.nx g 66 1 ov (cellsV vs) ∧ AllSl vs ∧ LSI g vs (es.map fun m => m.map Int.ofNat)

theorem OwnE.ext {h0 g g' : H} {ov : Value} {es : List (List Nat)} (o : OwnE h0 g ov es) (x : Ext g g') : OwnE h0 g' ov es := by
  obtain ⟨vs, a, b, c⟩ := o.vs
  exact ⟨o.x.trans x, vs, a.ext x, b, c.ext x⟩

theorem OwnE.push {h0 g : H} {ov : Value} {es : List (List Nat)} (o : OwnE h0 g ov es) {p : Option Addr} {n c : Nat} {m : List Nat} (hs : SlR g 3 1 (.slice p n c) (cellsN m)) (hl : es.length < 1000) :
    ∃ v' g', (∀ {R : Type} (K : Value → H → Option R), (bls Tryd.prog g 61 1 [(0, .slice p n c)] fun y h2 => app Tryd.prog h2 61 61 ov y K) = K v' g') ∧ OwnE h0 g' v' (es ++ [m]) := by
  obtain ⟨vs, a, b, cl⟩ := o.vs
  have hvl : vs.length = es.length := by rw [cl.1, List.length_map]
  obtain ⟨v', g', e, a', n', k', b', hb', hb''⟩ := a.push app61 app61 (fun h => bls61 (x := p) (y := n) (z := c) h) rfl rfl (by rw [List.length_map]; omega) o.x.nx
  have keep : ∀ q cs w, q < g.nx → g.blk q = some (.row cs 3 w) → g'.blk q = g.blk q := fun q cs w hq hr => k' q hq (fun e => by
    obtain ⟨_, _, h3⟩ := a.blkOf e
    rw [hr] at h3
    simp at h3)
  have hs' : SlR g' 3 1 (.slice p n c) (cellsN m) := hs.keepB n' fun q hq => by
    obtain ⟨h1, cs, w, h2⟩ := hs.blkR hq
    exact keep q cs w h1 h2
  refine ⟨v', g', e, ⟨Nat.le_trans o.x.nx n', fun q hq => ?_⟩, vs ++ [.slice p n c], by rw [show cellsV (vs ++ [.slice p n c]) = cellsV vs ++ [[.slice p n c]] by simp]; exact a', fun x hx => ?_, ?_⟩
  · rw [k' q (by have := o.x.nx; omega) (fun e => by have := (a.blkOf e).1; omega)]
    exact o.x.blk q hq
  · rcases List.mem_append.1 hx with hx | hx
    · exact b x hx
    · rw [List.mem_singleton.1 hx]; exact ⟨_, _, _, rfl⟩
  · rw [List.map_append]
    refine (cl.keep n' keep).snoc ?_
    rw [cellsN_eq]; exact hs'

/-! ### The other edges -/
open Classical in
noncomputable def ixOf (m : List Nat) (a : Nat) : Nat := if h : ∃ i : Nat, m[i]? = some a then h.choose else 0

theorem ixOf_at {m : List Nat} {a : Nat} (h : a ∈ m) : m[ixOf m a]? = some a := by
  have h := List.mem_iff_getElem?.1 h
  unfold ixOf
  rw [dif_pos h]
  exact h.choose_spec

noncomputable def otherQ (g m : List Nat) (a b : Nat) : Bool := adj g a b && !decide (dst (ixOf m a) (ixOf m b) = 1) && !decide (dst (ixOf m a) (ixOf m b) = m.length - 1)

noncomputable def rowO (g m : List Nat) (a j : Nat) : List (Nat × Nat) := ((List.range j).filter (otherQ g m a)).map fun b => (a, b)

noncomputable def allO (g m : List Nat) (n : Nat) : List (Nat × Nat) := (List.range n).flatMap fun a => rowO g m a a

theorem rowO_succ (g m : List Nat) (a j : Nat) : rowO g m a (j + 1) = rowO g m a j ++ if otherQ g m a j = true then [(a, j)] else [] := by
  unfold rowO
  rw [List.range_succ, List.filter_append, List.map_append]
  by_cases h : otherQ g m a j = true
  · simp [h]
  · simp [h]

theorem allO_succ (g m : List Nat) (n : Nat) : allO g m (n + 1) = allO g m n ++ rowO g m n n := by
  unfold allO
  rw [List.range_succ, List.flatMap_append]
  simp

theorem mem_rowO {g m : List Nat} {a j : Nat} {e : Nat × Nat} : e ∈ rowO g m a j ↔ e.1 = a ∧ e.2 < j ∧ otherQ g m a e.2 = true := by
  unfold rowO
  rw [List.mem_map]
  constructor
  · rintro ⟨b, hb, rfl⟩
    rw [List.mem_filter, List.mem_range] at hb
    exact ⟨rfl, hb.1, hb.2⟩
  · rintro ⟨h1, h2, h3⟩
    exact ⟨e.2, List.mem_filter.2 ⟨List.mem_range.2 h2, h3⟩, by rw [← h1]⟩

theorem mem_allO {g m : List Nat} {n : Nat} {e : Nat × Nat} : e ∈ allO g m n ↔ e.2 < e.1 ∧ e.1 < n ∧ otherQ g m e.1 e.2 = true := by
  unfold allO
  rw [List.mem_flatMap]
  constructor
  · rintro ⟨a, ha, he⟩
    obtain ⟨h1, h2, h3⟩ := mem_rowO.1 he
    subst h1
    exact ⟨h2, List.mem_range.1 ha, h3⟩
  · rintro ⟨h1, h2, h3⟩
    exact ⟨e.1, List.mem_range.2 h2, mem_rowO.2 ⟨rfl, h1, h3⟩⟩

theorem rowO_nodup (g m : List Nat) (a j : Nat) : (rowO g m a j).Nodup := by
  unfold rowO
  refine List.Pairwise.map _ (fun x y hxy h => hxy ?_) ((List.nodup_range (n := j)).filter _)
  exact (Prod.mk.inj h).2

theorem allO_nodup (g m : List Nat) : ∀ n, (allO g m n).Nodup
  | 0 => by unfold allO; simp
  | n + 1 => by
    rw [allO_succ, List.nodup_append]
    refine ⟨allO_nodup g m n, rowO_nodup _ _ _ _, fun x hx y hy e => ?_⟩
    subst e
    have h1 := (mem_allO.1 hx).2.1
    have h2 := (mem_rowO.1 hy).1
    omega

theorem allO_len (g m : List Nat) (n : Nat) (hn : n ≤ 8) : (allO g m n).length ≤ 64 ∧ ∀ a j, j ≤ 8 → (rowO g m a j).length ≤ 8 := by
  have h2 : ∀ a j, (rowO g m a j).length ≤ j := fun a j => by
    unfold rowO
    rw [List.length_map]
    have := List.length_filter_le (otherQ g m a) (List.range j)
    rwa [List.length_range] at this
  refine ⟨?_, fun a j hj => by have := h2 a j; omega⟩
  have : ∀ n, (allO g m n).length ≤ n * n := by
    intro n
    induction n with
    | zero => unfold allO; simp
    | succ n ih =>
      rw [allO_succ, List.length_append]
      have := h2 n n
      rw [Nat.add_mul, Nat.mul_add]
      omega
  have h3 := this n
  have : n * n ≤ 8 * 8 := Nat.mul_le_mul hn hn
  omega

set_option maxHeartbeats 1000000 in
theorem own_loop {v v3 ov : Value} {g m : List Nat} {c0 : List Nat} {h0 h : H} (hg : GrN g) (h8 : g.length ≤ 8) (hs : SlR h0 3 1 v (cellsN g)) (hs3 : SlR h0 3 1 v3 (cellsN m)) (hn : m.Nodup) (hm : ∀ i, i ∈ m ↔ (allN g).testBit i = true) (hl : m.length = g.length) (h3 : 3 ≤ g.length) (o : OwnE h0 h ov [c0]) :
    ∃ ov' h' w, lpGo (f7_l2 rn 2000 v v3 g.length) 2000 [ov, iv 0] h = some (.exit 2, [ov', w], h') ∧ OwnE h0 h' ov' (c0 :: (allO g m g.length).map fun e => [e.1, e.2]) := by
  have hlen := hg.len
  have hpow := hg.pow
  have hl3 : ∀ {T : Type} (K : Int → Option T), len v3 K = K (m.length : Int) := fun K => by rw [hs3.len]; simp
  have inm : ∀ {a}, a < g.length → a ∈ m := fun h => (hm _).2 (by rw [allN_bit, decide_eq_true_iff]; exact h)
  have ixl : ∀ {a}, a < g.length → ixOf m a < g.length := fun {a} h => by
    have := (List.getElem?_eq_some_iff.1 (ixOf_at (inm h))).1
    omega
  have inner : ∀ (a : Nat) (ov : Value) (h : H), a < g.length → OwnE h0 h ov (c0 :: (allO g m a).map fun e => [e.1, e.2]) → ∃ ov' h' w, lpGo (f7_l3 rn 2000 v v3 [ov, iv a]) 2000 [ov, iv 0] h = some (.exit 4, [ov', w], h') ∧ OwnE h0 h' ov' (c0 :: (allO g m a ++ rowO g m a a).map fun e => [e.1, e.2]) := by
    intro a ov h ha o
    obtain ⟨e, ws', h', hlp, rfl, ov', w, rfl, o'⟩ := lp_range (F := f7_l3 rn 2000 v v3 [ov, iv a]) (k := 2000) (n := a)
      (fun j ws g' => ∃ ov', ws = [ov', iv j] ∧ OwnE h0 g' ov' (c0 :: (allO g m a ++ rowO g m a j).map fun e => [e.1, e.2]))
      (fun e ws g' => e = .exit 4 ∧ ∃ ov' w, ws = [ov', w] ∧ OwnE h0 g' ov' (c0 :: (allO g m a ++ rowO g m a a).map fun e => [e.1, e.2]))
      (by
        rintro j ws g1 hj ⟨ov1, rfl, o1⟩
        have hjg : j < g.length := by omega
        have hadd : add .i64 (j : Int) 1 = ((j + 1 : Nat) : Int) := by rw [add64 (by omega) (by omega)]; omega
        have e1 := s32 (hs3.ext o1.x) hn (by omega) (ixOf_at (inm ha))
        have e2 := s32 (hs3.ext o1.x) hn (by omega) (ixOf_at (inm hjg))
        have hia := ixl ha
        have hij := ixl hjg
        have hnb := hg.nb_lt a
        have hb1 : AM.and .i64 (shr .i64 ((nb g a : Nat) : Int) (j : Int)) 1 = if adj g a j then 1 else 0 := bit_nat (by omega) (by omega)
        have hd : imax (sub .i64 ((ixOf m a : Nat) : Int) ((ixOf m j : Nat) : Int)) (sub .i64 ((ixOf m j : Nat) : Int) ((ixOf m a : Nat) : Int)) = ((dst (ixOf m a) (ixOf m j) : Nat) : Int) := by
          rw [sub64 (by omega) (by omega), sub64 (by omega) (by omega)]
          unfold imax dst
          split <;> omega
        have hd8 : dst (ixOf m a) (ixOf m j) < 100 := by unfold dst; omega
        have hsub : sub .i64 (m.length : Int) 1 = ((m.length - 1 : Nat) : Int) := by rw [sub64 (by omega) (by omega)]; omega
        have hq1 : AM.eq ((dst (ixOf m a) (ixOf m j) : Nat) : Int) 1 = decide (dst (ixOf m a) (ixOf m j) = 1) := by unfold AM.eq; rw [Bool.eq_iff_iff, beq_iff_eq, decide_eq_true_iff]; omega
        have hq2 : AM.eq ((dst (ixOf m a) (ixOf m j) : Nat) : Int) ((m.length - 1 : Nat) : Int) = decide (dst (ixOf m a) (ixOf m j) = m.length - 1) := by unfold AM.eq; rw [Bool.eq_iff_iff, beq_iff_eq, decide_eq_true_iff]; omega
        have head : f7_l3 rn 2000 v v3 [ov, iv a] [ov1, iv j] g1 = ifB (eq (if adj g a j then 1 else 0) 1) (
              ifB (not (decide (dst (ixOf m a) (ixOf m j) = 1))) (
                ifB (not (decide (dst (ixOf m a) (ixOf m j) = m.length - 1))) (
                  bls Tryd.prog g1 66 2 [(0, iv a), (1, iv j)] fun v26 h21 =>
                  bls Tryd.prog h21 61 1 [(0, v26)] fun v27 h22 =>
                  app Tryd.prog h22 61 61 ov1 v27 fun v28 h23 =>
                  out .normal [v28, iv ((j + 1 : Nat) : Int)] h23) (out .normal [ov1, iv ((j + 1 : Nat) : Int)] g1)) (out .normal [ov1, iv ((j + 1 : Nat) : Int)] g1)) (out .normal [ov1, iv ((j + 1 : Nat) : Int)] g1) := by
          unfold f7_l3
          rw [show gv [ov1, iv (j : Int)] 1 = iv j from rfl, show gv [ov, iv (a : Int)] 1 = iv a from rfl, show gv [ov1, iv (j : Int)] 0 = ov1 from rfl, asI_int, asI_int, lt_t (by omega), ifB_true, calls_eq (xs := [v3, iv a]) e1, asI_int, calls_eq (xs := [v3, iv j]) e2, asI_int, asK_int]
          simp only [d3]
          rw [getN (hs.ext o1.x) ha, asI_int, asK_int, nn_ge (by omega), hb1, hd, hq1, hl3, hsub, hq2]
          simp only [asI_int, hadd]
        rw [head]
        have hol := allO_len g m a (by omega)
        have hrl := hol.2 a j (by omega)
        by_cases ha1 : adj g a j = true
        · rw [if_pos ha1, show AM.eq 1 1 = true from rfl, ifB_true]
          by_cases h1 : dst (ixOf m a) (ixOf m j) = 1
          · rw [decide_eq_true h1, show (!true) = false from rfl, ifB_false]
            refine ⟨.normal, _, g1, rfl, .inl ⟨rfl, ov1, rfl, ?_⟩⟩
            rw [rowO_succ, if_neg (by unfold otherQ; simp [h1]), List.append_nil]
            exact o1
          · rw [decide_eq_false h1, show (!false) = true from rfl, ifB_true]
            by_cases h2 : dst (ixOf m a) (ixOf m j) = m.length - 1
            · rw [decide_eq_true h2, show (!true) = false from rfl, ifB_false]
              refine ⟨.normal, _, g1, rfl, .inl ⟨rfl, ov1, rfl, ?_⟩⟩
              rw [rowO_succ, if_neg (by unfold otherQ; simp [h2]), List.append_nil]
              exact o1
            · rw [decide_eq_false h2, show (!false) = true from rfl, ifB_true]
              have x1 := Ext.new g1 (.row [iv (a : Int), iv (j : Int)] 3 true)
              have hlit : AqR g1.nx (g1.new (.row [iv (a : Int), iv (j : Int)] 3 true)) 3 1 (.slice (some ⟨g1.nx, 0, none⟩) 2 2) (cellsN [a, j]) := AqR.lit (l := cellsN [a, j]) (Nat.le_refl _) rfl (by intro x hx; simp at hx; rcases hx with rfl | rfl <;> rfl) (by simp)
              obtain ⟨v', g', e, o'⟩ := (o1.ext x1).push (hlit.slR) (by simp only [List.length_cons, List.length_map, List.length_append]; omega)
              refine ⟨.normal, [v', iv ((j + 1 : Nat) : Int)], g', ?_, .inl ⟨rfl, v', rfl, ?_⟩⟩
              · rw [bls_some (bls66b a j g1)]
                exact e _
              · rw [rowO_succ, if_pos (by unfold otherQ; simp [ha1, h1, h2]), ← List.append_assoc, List.map_append]
                exact o'
        · rw [if_neg ha1, show AM.eq 0 1 = false from rfl, ifB_false]
          refine ⟨.normal, _, g1, rfl, .inl ⟨rfl, ov1, rfl, ?_⟩⟩
          rw [rowO_succ, if_neg (by unfold otherQ; simp [ha1]), List.append_nil]
          exact o1)
      (by
        rintro ws g1 ⟨ov1, rfl, o1⟩
        refine ⟨.exit 4, _, g1, ?_, by simp, rfl, ov1, iv a, rfl, o1⟩
        unfold f7_l3
        rw [show gv [ov1, iv (a : Int)] 1 = iv a from rfl, show gv [ov, iv (a : Int)] 1 = iv a from rfl, asI_int, asI_int, lt_f (by omega), ifB_false]
        rfl)
      (ws := [ov, iv 0]) (h := h) (by omega) ⟨ov, rfl, by simpa [rowO] using o⟩
    exact ⟨ov', h', w, hlp, o'⟩
  obtain ⟨e, ws', h', hlp, rfl, ov', w, rfl, o'⟩ := lp_range (F := f7_l2 rn 2000 v v3 g.length) (k := 2000) (n := g.length)
    (fun a ws g' => ∃ ov', ws = [ov', iv a] ∧ OwnE h0 g' ov' (c0 :: (allO g m a).map fun e => [e.1, e.2]))
    (fun e ws g' => e = .exit 2 ∧ ∃ ov' w, ws = [ov', w] ∧ OwnE h0 g' ov' (c0 :: (allO g m g.length).map fun e => [e.1, e.2]))
    (by
      rintro a ws g1 ha ⟨ov1, rfl, o1⟩
      obtain ⟨ov2, g2, w, e2, o2⟩ := inner a ov1 g1 ha o1
      have hadd : add .i64 (a : Int) 1 = ((a + 1 : Nat) : Int) := by rw [add64 (by omega) (by omega)]; omega
      refine ⟨.normal, [ov2, iv ((a + 1 : Nat) : Int)], g2, ?_, .inl ⟨rfl, ov2, rfl, by rw [allO_succ]; exact o2⟩⟩
      unfold f7_l2
      rw [show gv [ov1, iv (a : Int)] 1 = iv a from rfl, show gv [ov1, iv (a : Int)] 0 = ov1 from rfl, asI_int, lt_t (by omega), ifB_true, lp_eq e2, onE_exit, if_pos rfl, asI_int, hadd]
      rfl)
    (by
      rintro ws g1 ⟨ov1, rfl, o1⟩
      refine ⟨.exit 2, _, g1, ?_, by simp, rfl, ov1, iv g.length, rfl, o1⟩
      unfold f7_l2
      rw [show gv [ov1, iv (g.length : Int)] 1 = iv g.length from rfl, asI_int, lt_f (by omega), ifB_false]
      rfl)
    (ws := [ov, iv 0]) (h := h) (by omega) ⟨ov, rfl, by simpa [allO] using o⟩
  exact ⟨ov', h', w, hlp, o'⟩

end Go.AM

end

section

/- Law 7, the whole. -/
namespace Go.AM
open Go.Proofs
variable {k : Nat} {R : Type}
attribute [local simp] eq lt le
theorem cyc_loop {v v3 : Value} {g m : List Nat} {h : H} (hg : GrN g) (hs : SlR h 3 1 v (cellsN g)) (hs3 : SlR h 3 1 v3 (cellsN m)) (hlt : ∀ x ∈ m, x < g.length) (hl : m.length = g.length) (h3 : 3 ≤ g.length)
    (hc : ∀ i, i < m.length → adj g (m.getD i 0) (m.getD ((i + 1) % m.length) 0) = true) : ∃ w, lpGo (f7_l1 rn 2000 v v3 g.length) 2000 [.bool false, iv 0] h = some (.exit 0, w, h) := by
  have hlen := hg.len
  have hpow := hg.pow
  have hl3 : ∀ {T : Type} (K : Int → Option T), len v3 K = K (m.length : Int) := fun K => by rw [hs3.len]; simp
  have hlv : ∀ {T : Type} (K : Int → Option T), len v K = K (g.length : Int) := fun K => by rw [hs.len]; simp
  have at3 : ∀ {i : Nat}, i < m.length → ∀ (K : Value → Option (Ex × List Value × H)), (six v3 (i : Int) 1 fun b o => (h.cell b o).bind K) = K (iv (m.getD i 0 : Nat)) := fun hi K => hs3.c0 (by omega) (x := [iv (m.getD _ 0 : Nat)]) (by rw [Int.toNat_natCast, List.getElem?_map, get_of hi]; rfl) rfl K
  obtain ⟨e, ws', h', hlp, rfl, rfl⟩ := lp_range (F := f7_l1 rn 2000 v v3 g.length) (k := 2000) (n := g.length)
    (fun i ws g' => g' = h ∧ ws = [.bool false, iv i])
    (fun e ws g' => e = .exit 0 ∧ g' = h)
    (by
      rintro i ws g1 hi ⟨rfl, rfl⟩
      have him : i < m.length := by omega
      have hadd : add .i64 (i : Int) 1 = ((i + 1 : Nat) : Int) := by rw [add64 (by omega) (by omega)]; omega
      have hmod : (i + 1) % m.length < m.length := Nat.mod_lt _ (by omega)
      have hx := hlt _ (List.mem_of_getElem? (get_of him))
      have hy := hlt _ (List.mem_of_getElem? (get_of hmod))
      have hnb := hg.nb_lt (m.getD i 0)
      have hb1 : AM.and .i64 (shr .i64 ((nb g (m.getD i 0) : Nat) : Int) ((m.getD ((i + 1) % m.length) 0 : Nat) : Int)) 1 = if adj g (m.getD i 0) (m.getD ((i + 1) % m.length) 0) then 1 else 0 := bit_nat (by omega) (by omega)
      refine ⟨.normal, [.bool false, iv ((i + 1 : Nat) : Int)], g1, ?_, .inl ⟨rfl, rfl, rfl⟩⟩
      unfold f7_l1
      simp only [d3]
      rw [show gv [Value.bool false, iv (i : Int)] 1 = iv i from rfl, asI_int, lt_t (by omega), ifB_true, asK_int, at3 him, asI_int, asI_int, hl3, nz_ne (by omega), hadd, rem_nat (by omega), at3 hmod, asI_int, lt_f (by omega), ifB_false, hlv, show AM.le (g.length : Int) ((m.getD i 0 : Nat) : Int) = false from decide_eq_false (by omega), ifB_false, lt_f (by omega), ifB_false, hlv, show AM.le (g.length : Int) ((m.getD ((i + 1) % m.length) 0 : Nat) : Int) = false from decide_eq_false (by omega), ifB_false, getN hs hx, asI_int, nn_ge (by omega), hb1, hc i him, if_pos rfl, show AM.eq 1 0 = false from rfl, ifB_false, asI_int, hadd]
      rfl)
    (by
      rintro ws g1 ⟨rfl, rfl⟩
      refine ⟨.exit 0, [.bool false, iv g.length], g1, ?_, by simp, rfl, rfl⟩
      unfold f7_l1
      rw [show gv [Value.bool false, iv (g.length : Int)] 1 = iv g.length from rfl, asI_int, lt_f (by omega), ifB_false]
      rfl)
    (ws := [.bool false, iv 0]) (h := h) (by omega) ⟨rfl, rfl⟩
  exact ⟨ws', hlp⟩

/-- Ears of whatever comes: there is an answer. -/
theorem s30_any {v : Value} {l : List Int} {h : H} (hs : SlR h 3 1 v (cellsI l)) : ∃ v' e h', rn 30 #[v] h = some (.tuple #[v', iv e], h') ∧ Exw h h' := by
  by_cases hval : validG l = true
  · obtain ⟨g, rfl, hg⟩ := valid_nat hval
    rw [cellsN_eq] at hs
    by_cases hd : doubleP g = true
    · obtain ⟨v', h', vs, es, left, e, x, _⟩ := s30 hg hval hs hd
      exact ⟨v', 0, h', e, x⟩
    · exact ⟨_, 5, h, s30_single hg hval hs (by simpa using hd), .refl _⟩
  · exact ⟨_, 2, h, s30_bad (by simpa using hval) hs, .refl _⟩

theorem double_iff {g : List Nat} (hg : GrN g) (h : doubleP g = true) : Bi g (allN g) ∧ 3 ≤ g.length := by
  refine ⟨double_bi hg h, ?_⟩
  unfold doubleP at h
  simp only [Bool.and_eq_true, decide_eq_true_eq] at h
  exact h.1.1

set_option maxHeartbeats 2000000 in
/-- The law. -/
theorem s7 (s15 : ∀ h, rn 15 #[] h = some (.bool true, h)) {h : H} {v : Value} {l : List Int} (hs : SlR h 3 1 v (cellsI l)) : ∃ h', rn 7 #[v] h = some (.bool true, h') := by
  have c15 := fun (g : H) (K : Value → H → Option (Value × H)) => calls_eq (K := K) (xs := []) (s15 g)
  obtain ⟨v1, h1, e1, x1, hs1⟩ := s11 hs
  by_cases hval : valid8 (l.take 13) = true
  · have hv := hval
    unfold valid8 at hv
    rw [Bool.and_eq_true, decide_eq_true_iff] at hv
    have hl13 : l.take 13 = l := by
      have := hv.2
      rw [List.length_take] at this
      exact List.take_of_length_le (by omega)
    rw [hl13] at hv hval hs1
    obtain ⟨g, rfl, hg⟩ := valid_nat hv.1
    have h8 : g.length ≤ 8 := by simpa using hv.2
    have hlen := hg.len
    rw [cellsN_eq] at hs hs1
    obtain ⟨v3, er, h2, e2, x2, q⟩ := s22 hg h8 hs1
    obtain ⟨v5, h3, e3, x3, hs5⟩ := s11g hg.toGrB (hs.ext (x1.tr x2).toExt)
    rcases q with ⟨rfl, m, hm, hs3⟩ | ⟨rfl, rfl, _⟩
    · by_cases hd : doubleP g = true
      · obtain ⟨hbi, h3l⟩ := double_iff hg hd
        obtain ⟨v7, h4, vs7, es7, left7, e4, x4, el7, he7, hs7, _, hvs7, _⟩ := s30 hg hv.1 hs5 hd
        have x14 := ((x1.tr x2).tr x3).tr x4
        have hs4 := hs.ext x14.toExt
        have hs34 := hs3.ext (x3.tr x4).toExt
        obtain ⟨hmn, hmm, hmx⟩ := hm
        rw [List.nil_append] at hmx
        have hml : m.length = g.length := by
          have := len_eq_of hmn List.nodup_range (m := List.range g.length) fun i => by rw [hmm, allN_bit, decide_eq_true_iff, List.mem_range]
          rw [this, List.length_range]
        have hmlt : ∀ x ∈ m, x < g.length := fun x hx => by
          have := (hmm x).1 hx
          rwa [allN_bit, decide_eq_true_iff] at this
        have hcyc : ∀ i, i < m.length → adj g (m.getD i 0) (m.getD ((i + 1) % m.length) 0) = true := fun i hi => out_cycle hg hbi hmn hmm hmx (by omega) hi
        obtain ⟨w1, lp1⟩ := cyc_loop hg hs4 hs34 hmlt hml h3l hcyc
        have hm0 : m ≠ [] := by rintro rfl; simp at hml; omega
        -- the cycle's ear
        obtain ⟨v18, h13, e31, x13, a18⟩ := s31a hs34 hm0 (by omega)
        obtain ⟨b6, o6, cs6, own6, q1, q2, q3, q4, q5, q6⟩ := hs34.six (i := 0) (by omega) (x := [iv (m.getD 0 0 : Nat)]) (by rw [show (0 : Int).toNat = 0 from rfl, List.getElem?_map, get_of (by omega)]; rfl)
        have hc6 : h13.cell b6 o6 = some (iv (m.getD 0 0 : Nat)) := by
          rw [cell_of ((x13.blk _ q1).trans q2)]
          have := q5 0 (by omega)
          simpa using this
        obtain ⟨v21, h15, e15, a15, n15, k15, b15, hb15, _⟩ := a18.push app22 app22 (bls22 ((m.getD 0 0 : Nat) : Int)) rfl rfl (by simp; omega) x13.nx
        have x15 : Ext h4 h15 := ⟨by have := x13.nx; omega, fun b hb => by
          rw [k15 b (by have := x13.nx; omega) (fun e => by have := (a18.blkOf e).1; omega)]
          exact x13.blk b hb⟩
        obtain ⟨p21, n21, c21, hv21⟩ := a15.isSl
        have hs21 : SlR h15 3 1 v21 (cellsN (m ++ [m.getD 0 0])) := by
          have := a15.slR
          rw [show cellsN m ++ [[iv ((m.getD 0 0 : Nat) : Int)]] = cellsN (m ++ [m.getD 0 0]) by simp] at this
          exact this
        have x16 := Ext.new h15 (.row [v21] 66 true)
        have own0 : OwnE h4 (h15.new (.row [v21] 66 true)) (.slice (some ⟨h15.nx, 0, none⟩) 1 1) [m ++ [m.getD 0 0]] := by
          refine ⟨x15.trans x16, [v21], AqR.lit (l := [[v21]]) x15.nx rfl (by simp) (by simp), fun x hx => ?_, rfl, fun i x mm hx hmm' => ?_⟩
          · rw [List.mem_singleton.1 hx]; exact ⟨_, _, _, hv21⟩
          · cases i with
            | zero =>
              simp at hx hmm'
              subst hx hmm'
              have := hs21.ext x16
              rw [← cellsN_eq] at this
              simpa using this
            | succ i => simp at hx
        obtain ⟨ov, h25, w5, lp2, own⟩ := own_loop hg h8 hs4 hs34 hmn hmm hml h3l own0
        obtain ⟨vs, avs, sls, lsi⟩ := own.vs
        have hs25 := hs4.ext own.x
        obtain ⟨v29, h26, e26, x26, hs29⟩ := s11g hg.toGrB hs25
        -- the ears take the graph together
        have hcs : ∀ a b, (a, b) ∈ allO g m g.length ↔ b < a ∧ adj g a b = true ∧ ¬ onP (m ++ [m.getD 0 0]) a b := by
          intro a b
          rw [mem_allO]
          unfold otherQ
          constructor
          · rintro ⟨h1, h2, h3⟩
            simp only [Bool.and_eq_true, Bool.not_eq_true', decide_eq_false_iff_not] at h3
            have ia := ixOf_at ((hmm a).2 (by rw [allN_bit, decide_eq_true_iff]; exact h2))
            have ib := ixOf_at ((hmm b).2 (by rw [allN_bit, decide_eq_true_iff]; omega))
            refine ⟨h1, h3.1.1, fun ho => ?_⟩
            rcases (onC_iff hmn (by omega) ia ib).1 ho with q | q
            · exact h3.1.2 q
            · exact h3.2 q
          · rintro ⟨h1, h2, h3⟩
            have hlt := hg.adj_lt h2
            have ia := ixOf_at ((hmm a).2 (by rw [allN_bit, decide_eq_true_iff]; exact hlt.1))
            have ib := ixOf_at ((hmm b).2 (by rw [allN_bit, decide_eq_true_iff]; exact hlt.2))
            rw [onC_iff hmn (by omega) ia ib] at h3
            refine ⟨h1, hlt.1, ?_⟩
            simp only [Bool.and_eq_true, Bool.not_eq_true', decide_eq_false_iff_not]
            exact ⟨⟨h2, fun q => h3 (.inl q)⟩, fun q => h3 (.inr q)⟩
        obtain ⟨left, elo, heo⟩ := own_el hg hmn (by omega) hmm hcyc (allO_nodup g m g.length) hcs
        have hcnt := el_count hg hbi elo el7 heo he7
        have hall := (allO_len g m g.length h8).1
        have hesl : ((m ++ [m.getD 0 0]) :: (allO g m g.length).map fun e => [e.1, e.2]).length ≤ 65 := by simp; omega
        generalize hES : ((m ++ [m.getD 0 0]) :: (allO g m g.length).map fun e => [e.1, e.2]) = ES at own lsi elo hcnt hesl
        obtain ⟨q, e33, hq⟩ := s33 hg hv.1 hs29 ((avs.ext x26.toExt).slR) sls (lsi.ext x26.toExt) (by rw [List.length_map]; omega) (fun x hx => by
          obtain ⟨y, hy, rfl⟩ := List.mem_map.1 hx
          rw [List.length_map]
          have := elo.ear_len y hy
          omega)
        have hqt : q = true := hq.2 ⟨ES, left, rfl, elo, heo⟩
        subst hqt
        obtain ⟨v33, h28, e28, x28, hs33⟩ := s11g hg.toGrB (hs25.ext x26.toExt)
        obtain ⟨v35, eo, h29, e34, x29, hfo⟩ := s34 hg hv.1 hs33
        rw [if_pos (firm_bi hg hbi h3l)] at hfo
        obtain ⟨rfl, _⟩ := hfo
        obtain ⟨v37, h30, e30, x30, hs37⟩ := s11g hg.toGrB (hs25.ext ((x26.tr x28).tr x29).toExt)
        obtain ⟨v39, h31, e20, x31⟩ := s20 hg h8 hs37
        have hred : redF 10 g (allN g) = true := red_out hg.len 10 g (allN g) m (pop_le_n (Nat.le_refl 10) (by have := allN_lt g; have := hg.pow; omega)) rfl hg.lt hg.symA (allN_lt g) hmn hmm hmx
        rw [if_pos hred] at e20
        have hlv3 : ∀ {T : Type} (K : Int → Option T), len v3 K = K (m.length : Int) := fun K => by rw [hs34.len]; simp
        have hlv : ∀ {T : Type} (K : Int → Option T), len v K = K (g.length : Int) := fun K => by rw [hs4.len]; simp
        have hlov : ∀ {T : Type} (K : Int → Option T), len ov K = K (ES.length : Int) := fun K => by
          rw [avs.slR.len, List.length_map, lsi.1, List.length_map]
        have hl7 : ∀ {T : Type} (K : Int → Option T), len v7 K = K (es7.length : Int) := fun K => by rw [hs7.len, List.length_map, hvs7]
        refine ⟨_, t7 (k := 2000) (v0 := v) (h1 := h31) (v := .bool true) ?_⟩
        unfold f7
        rw [calls_eq (xs := [v]) e1, calls_eq (xs := [v1]) e2, ext20, ext21, asI_int, calls_eq (xs := [v]) e3, calls_eq (xs := [v5]) e4, ext20, ext21, asI_int, show AM.eq (0 : Int) 0 = true from rfl, show (!true) = false from rfl, ifB_false, ifB_false, hlv3, hlv, show AM.eq (m.length : Int) (g.length : Int) = true by simp [hml], show (!true) = false from rfl, ifB_false, hlv3, lt_f (by omega), ifB_false, hlv3, hml, lp_eq lp1, onE_exit, if_pos rfl]
        rw [calls_eq (xs := [v3]) e31, q6, d3, hc6, Option.bind_some, asI_int]
        simp only [nx_eq]
        rw [show freq b6 h4.nx (same h13 h4) = true by unfold freq same; rw [decide_eq_true q1, decide_eq_true x13.wr]; rfl, ck_true, e15]
        rw [hv21, bls_some (bls61 h15), ← hv21, hlv, lp_eq lp2, onE_exit, if_pos rfl]
        rw [show gv [ov, w5] 0 = ov from rfl, calls_eq (xs := [v]) e26, calls_eq (xs := [v29, ov]) e33, ext20, asB_bool, ext21, asI_int, calls_eq (xs := [v]) e28, calls_eq (xs := [v33]) e34, ext20, ext21, asI_int, calls_eq (xs := [v]) e30, calls_eq (xs := [v37]) e20, ext20, ext21, asI_int]
        simp only [ifB_true, show AM.eq (0 : Int) 0 = true from rfl]
        rw [hlov, hl7, show AM.eq (ES.length : Int) (es7.length : Int) = true by simp [hcnt], ifB_true, c15, asB_bool]
      · have e4 := s30_single hg hv.1 hs5 (by simpa using hd)
        refine ⟨_, t7 (k := 0) (v0 := v) (h1 := h3) (v := .bool true) ?_⟩
        unfold f7
        rw [calls_eq (xs := [v]) e1, calls_eq (xs := [v1]) e2, ext20, ext21, asI_int, calls_eq (xs := [v]) e3, calls_eq (xs := [v5]) e4, ext20, ext21, asI_int, show AM.eq (0 : Int) 0 = true from rfl, show (!true) = false from rfl, ifB_false, show AM.eq (5 : Int) 0 = false from rfl, show (!false) = true from rfl, ifB_true, show AM.eq (0 : Int) 2 = false from rfl, ifB_false, show AM.eq (0 : Int) 4 = false from rfl, ifB_false, show AM.eq (5 : Int) 5 = true from rfl, ifB_true, c15, asB_bool]
    · obtain ⟨v7, e7, h4, e4, x4⟩ := s30_any (l := g.map Int.ofNat) (by rw [cellsN_eq]; exact hs5)
      refine ⟨_, t7 (k := 0) (v0 := v) (h1 := h4) (v := .bool true) ?_⟩
      unfold f7
      rw [calls_eq (xs := [v]) e1, calls_eq (xs := [v1]) e2, ext20, ext21, asI_int, calls_eq (xs := [v]) e3, calls_eq (xs := [v5]) e4, ext20, ext21, asI_int, show AM.eq (4 : Int) 0 = false from rfl, show (!false) = true from rfl, ifB_true, show AM.eq (4 : Int) 2 = false from rfl, ifB_false, show AM.eq (4 : Int) 4 = true from rfl, ifB_true, c15, asB_bool]
  · have e2 := s22_bad (by simpa using hval) hs1
    obtain ⟨v5, h3, e3, x3, hs5⟩ := s11 (hs.ext x1.toExt)
    obtain ⟨v7, e7, h4, e4, x4⟩ := s30_any hs5
    refine ⟨_, t7 (k := 0) (v0 := v) (h1 := h4) (v := .bool true) ?_⟩
    unfold f7
    rw [calls_eq (xs := [v]) e1, calls_eq (xs := [v1]) e2, ext20, ext21, asI_int, calls_eq (xs := [v]) e3, calls_eq (xs := [v5]) e4, ext20, ext21, asI_int, show AM.eq (2 : Int) 0 = false from rfl, show (!false) = true from rfl, ifB_true, show AM.eq (2 : Int) 2 = true from rfl, ifB_true, c15, asB_bool]

end Go.AM

end

section

/- The examples at the end: by the kernel's own run. -/
namespace Go.AM
open Go.Proofs
noncomputable def loneOk (f : FuncId) : Bool := match call Tryd.prog E0 60 f #[] ⟨fun _ => none, 0, 0⟩ with
  | some (.bool b, _) => b
  | _ => false

theorem lone_run {f : FuncId} (hf : E0.iso f = true) (ht : loneOk f = true) (h : H) : rn f #[] h = some (.bool true, h) := by
  unfold loneOk at ht
  split at ht
  · rename_i b h' hc
    subst ht
    exact run_iso (n := 59) (by rw [hf]; rfl) (iso_any (by rw [hf]; rfl) hc)
  · cases ht

theorem parts_run : loneOk 9 = true := by decide +kernel

theorem s9 (h : H) : rn 9 #[] h = some (.bool true, h) := lone_run rfl parts_run h

theorem finds_run : loneOk 15 = true := by decide +kernel

theorem s15 (h : H) : rn 15 #[] h = some (.bool true, h) := lone_run rfl finds_run h

end Go.AM

end

section

/- Slices of numbers that a statement is handed, in the abstract heap. -/
namespace Go.AM
open Go.Proofs Go.ChangeShapes
variable {HH : Type} {enc : TypeId × Value → HH} {w : World} {base : Nat} {held : Bool}
theorem flat3 (n : Nat) (cs : List Value) (x : DataW HH × List MemPlace) (h : DataW.trod enc Tryd.prog w base (fun _ => true) held n 3 cs = some x) : ∃ z : Int, cs = [iv z] := by
  obtain ⟨z, h1, _⟩ := DataW.trod_int (show Tryd.prog.underlying 3 = some (.int .i64) from by kernel_rfl) h
  exact ⟨z, h1⟩

theorem cellsOf3 : Tryd.prog.cellsOf 3 = 1 := by kernel_rfl

theorem bytes3 : Tryd.prog.bytesOf 3 = 8 := by kernel_rfl

theorem ints_of : ∀ (l : List (List Value)), (∀ x ∈ l, ∃ z : Int, x = [iv z]) → ∃ l' : List Int, l = l'.map fun z => [iv z] := by
  intro l
  induction l with
  | nil => intro _; exact ⟨[], rfl⟩
  | cons x l ih =>
    intro h
    obtain ⟨c, hc⟩ := h x (by simp)
    obtain ⟨l', hl⟩ := ih (fun y hy => h y (List.mem_cons_of_mem _ hy))
    exact ⟨c :: l', by rw [hc, hl]; rfl⟩

set_option maxRecDepth 100000 in
/-- A graph that came in. -/
theorem open_graph {rr : Reach} {b0 : Nat} {v : Value} {d : DataW HH} {ps : List MemPlace} (hv : Value.okWide Tryd.prog w rr b0 23 v) (hwt : ∀ x ∈ d.weights Tryd.prog 23, x ≤ reachBytes)
    (hd : DataW.Trod enc Tryd.prog w base (fun _ => true) held 23 v d ps) {ι : Nat → Emb} {h : H} (r : Rel Tryd.prog E0 ι h w) (hro : ∀ b k, h.blk b = some k → k.own = false) :
    ∃ (v0 : Value) (ι' : Nat → Emb) (h' : H) (l : List Int), Rel Tryd.prog E0 ι' h' w ∧ (∀ b k, h'.blk b = some k → k.own = false) ∧ Ext h h' ∧ (∀ b, b < h.nx → ι' b = ι b) ∧
      VR ι' h'.nx v0 v ∧ SlR h' 3 1 v0 (l.map fun z => [iv z]) := by
  have hu : Tryd.prog.underlying 23 = some (.slice 3) := by kernel_rfl
  simp only [Value.okWide, hu] at hv
  have hy : ∃ a len cap, v = .slice a len cap := by
    simp only [Cell.okWide, hu] at hv
    cases v <;> simp_all [Cell.ok]
  obtain ⟨a, len, cap, rfl⟩ := hy
  obtain ⟨ι', h', v0, l, g1, g2, g3, g4, g5, g6, g7⟩ := open_flat r hro hu sz3 cellsOf3 (by decide) (Q := fun x => ∃ z : Int, x = [iv z]) flat3 (by
    rintro cs ⟨c, rfl⟩
    exact ⟨rfl, fun v hv => by simp at hv; subst hv; exact ⟨_, _, rfl⟩⟩) (by rw [bytes3]; exact Nat.succ_pos _) hwt (okWide_has hu hv) hd
  obtain ⟨l', rfl⟩ := ints_of l g7
  exact ⟨v0, ι', h', l', g1, g2, g3, g4, g5, g6⟩

/-! ### Streets and numbers that came in -/
/-! ### The table -/
open Go.Proofs.YtphchobmencipaaDoor
theorem glTab : Tryd.prog.globalNamed "math/bits.deBruijn64tab" = some 1 := by kernel_rfl

theorem tyTab : (Tryd.prog.globals[1]?).map (·.type) = some 160 := by kernel_rfl

theorem under160 : Tryd.prog.underlying 160 = some (.array 64 5) := by kernel_rfl

theorem under5 : Tryd.prog.underlying 5 = some (.int .u8) := by kernel_rfl

theorem cellsOf5 : Tryd.prog.cellsOf 5 = 1 := by kernel_rfl

/-- What the rows say of the package-level variables. -/
def laidT : List (String × DataW Unit) := [("math/bits.deBruijn32tab", Rows.laid_math_bits_deBruijn32tab), ("math/bits.deBruijn64tab", Rows.laid_math_bits_deBruijn64tab)]

theorem laid64_eq : (Rows.laid_math_bits_deBruijn64tab : DataW Unit) = .agg (tab64.map fun n => .lit (.int .u8 n)) := by kernel_rfl

theorem tab_len : tab64.length = 64 := by decide

set_option maxRecDepth 100000 in
/-- What the condition gives: each cell of the table. -/
theorem of_laid {W : World} (h : laidMetH Tryd.prog laidT W) (i : Nat) (z : Int) (hz : tab64[i]? = some z) : W.cell? ⟨1, i, none⟩ = some (.int .u8 z) := by
  rw [MakeChecks.laidMetH_plain _ _ _ (by kernel_rfl)] at h
  obtain ⟨ps, ⟨g0, t0, cs0, f0, p0, q0, hg0, ht0, hv0, hd0, ⟨g1, t1, cs1, f1, p1, q1, hg1, ht1, hv1, hd1, _, _⟩, _⟩, _, _⟩ := h
  obtain rfl := Option.some.inj (glTab.symm.trans hg1)
  obtain rfl := Option.some.inj (tyTab.symm.trans ht1)
  obtain ⟨xs, m1, rfl, hx1, hlen, hn3, hel⟩ := DataW.trod_array under160 hd1
  have hi : i < 64 := by rw [← tab_len]; exact (List.getElem?_eq_some_iff.1 hz).1
  have h0 := hel i hi
  rw [cellsOf5, Nat.mul_one] at h0
  have hxi : xs[i]? = some xs[i] := List.getElem?_eq_getElem (by omega)
  rw [hxi] at h0
  obtain ⟨k, e1, e2, _⟩ := DataW.trod_int under5 h0
  have hx2 : DataW.agg (tab64.map fun n => DataW.lit (.int .u8 n)) = DataW.agg (xs.map (·.1)) := by
    rw [← laid64_eq]
    exact congrArg Prod.fst hx1
  have hx3 : (tab64.map fun n => (DataW.lit (.int .u8 n) : DataW Unit)) = xs.map (·.1) := by
    exact DataW.agg.inj hx2
  have hx4 := congrArg (·[i]?) hx3
  simp only [List.getElem?_map, hz, hxi, Option.map_some, Option.some.injEq] at hx4
  rw [e2] at hx4
  have hk : z = k := by
    have h5 : (DataW.lit (Lit.int .u8 z) : DataW Unit) = DataW.lit (Lit.int .u8 k) := hx4
    exact (Lit.int.inj (DataW.lit.inj h5)).2
  subst hk
  rw [World.var?_cell hg1 hv1 i]
  have hcl : cs1.toList[i]? = some (.int .u8 z) := by
    have := congrArg (·[0]?) e1
    simpa [List.getElem?_take, List.getElem?_drop] using this
  simpa using hcl

/-- The beginning: the table alone. -/
def hTab : H := ⟨fun b => if b = 1 then some (.row (tab64.map fun n => .int .u8 n) 5 false) else none, 2, 0⟩

def ιTab : Nat → Emb := fun g => ⟨g, 0, 64, 1⟩

set_option maxRecDepth 100000 in
theorem rel_tab {W : World} (h : laidMetH Tryd.prog laidT W) : Rel Tryd.prog E0 ιTab hTab W := by
  have hc := of_laid h
  have h0 := hc 0 0 (by decide)
  have hsz : 1 < W.heap.size := by
    unfold World.cell? at h0
    split at h0
    · rename_i hb
      rcases Nat.lt_or_ge 1 W.heap.size with h1 | h1
      · exact h1
      · rw [Array.getElem?_eq_none h1] at hb; cases hb
    · cases h0
  have hrow : ∀ n, BlkR Tryd.prog ιTab n W 1 (.row (tab64.map fun n => .int .u8 n) 5 false) := by
    intro n
    refine ⟨hsz, sz5, fun i v hv => ?_⟩
    rw [List.getElem?_map] at hv
    obtain ⟨z, hz, rfl⟩ := Option.map_eq_some_iff.1 hv
    refine ⟨.int .u8 z, ?_, .int .u8 z⟩
    have := hc i z hz
    simpa [ιTab] using this
  refine ⟨fun b k hb => ?_, fun b k hb => ?_, fun b b' k k' hb _ _ ho => ?_, Nat.le_refl _, fun g _ => ⟨rfl, rfl⟩, fun g hg => ?_, fun g k hg hk => ?_⟩
  · simp only [hTab] at hb ⊢
    split at hb
    · omega
    · cases hb
  · simp only [hTab] at hb
    split at hb
    · rename_i h1
      subst h1
      cases hb
      exact hrow _
    · cases hb
  · simp only [hTab] at hb
    split at hb
    · cases hb; cases ho
    · cases hb
  · simp only [hTab, E0]
  · simp only [E0] at hk
    split at hk
    · rename_i h1
      subst h1
      cases hk
      exact ⟨rfl, hrow _⟩
    · cases hk

theorem ro_tab : ∀ b k, hTab.blk b = some k → k.own = false := by
  intro b k hb
  simp only [hTab] at hb
  split at hb
  · cases hb; rfl
  · cases hb

end Go.AM

end
