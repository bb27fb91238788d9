/- Graphs of at most ten nodes, in plain words: sets as numbers, and what a node reaches within a set. -/
import Derived.Test.YtakhklelgcfgjaaDoorEa
namespace Go.AM

/-! ### Sets as numbers -/

/-- The set of the numbers below n with a property. -/
def mkS (p : Nat → Bool) : Nat → Nat
  | 0 => 0
  | n + 1 => mkS p n ||| (if p n = true then 2 ^ n else 0)

theorem mkS_lt (p : Nat → Bool) : ∀ n, mkS p n < 2 ^ n := by
  intro n
  induction n with
  | zero => simp [mkS]
  | succ n ih =>
    simp only [mkS]
    have h1 : mkS p n < 2 ^ (n + 1) := Nat.lt_trans ih (Nat.pow_lt_pow_right (by omega) (by omega))
    refine Nat.or_lt_two_pow h1 ?_
    split
    · exact Nat.pow_lt_pow_right (by omega) (by omega)
    · exact Nat.two_pow_pos _

theorem mkS_bit (p : Nat → Bool) : ∀ n i, (mkS p n).testBit i = (decide (i < n) && p i) := by
  intro n
  induction n with
  | zero => intro i; simp [mkS]
  | succ n ih =>
    intro i
    simp only [mkS]
    rw [Nat.testBit_or, ih]
    by_cases hi : i = n
    · subst hi
      cases hp : p i <;> simp
    · have h1 : (if p n = true then 2 ^ n else 0).testBit i = false := by
        split
        · rw [Nat.testBit_two_pow]; simp; omega
        · simp
      rw [h1, Bool.or_false]
      have : decide (i < n) = decide (i < n + 1) := by rw [decide_eq_decide]; omega
      rw [this]

theorem big_bit {a n i : Nat} (ha : a < 2 ^ n) (hi : n ≤ i) : a.testBit i = false := Nat.testBit_lt_two_pow (Nat.lt_of_lt_of_le ha (Nat.pow_le_pow_right (by omega) hi))

theorem bit_lt {a n i : Nat} (ha : a < 2 ^ n) (h : a.testBit i = true) : i < n := by
  refine Classical.byContradiction fun hc => ?_
  rw [big_bit ha (by omega)] at h
  cases h

theorem set_ext {a b n : Nat} (ha : a < 2 ^ n) (hb : b < 2 ^ n) (h : ∀ i, i < n → a.testBit i = b.testBit i) : a = b := by
  apply Nat.eq_of_testBit_eq
  intro i
  by_cases hi : i < n
  · exact h i hi
  · rw [big_bit ha (by omega), big_bit hb (by omega)]

/-- The numbers of a set, rising. -/
def elts (s : Nat) : List Nat := (List.range 10).filter fun i => s.testBit i

theorem mem_elts {s i : Nat} (hs : s < 1024) : i ∈ elts s ↔ s.testBit i = true := by
  unfold elts
  rw [List.mem_filter, List.mem_range]
  exact ⟨And.right, fun h => ⟨bit_lt (n := 10) hs h, h⟩⟩

theorem elts_all : ((List.range 1024).all fun n => decide (n = 0) || (decide (elts n = low n :: elts (n &&& (n - 1))) && decide (n &&& (n - 1) < n))) = true := by decide +kernel

theorem elts_next {n : Nat} (h0 : 0 < n) (h : n < 1024) : elts n = low n :: elts (n &&& (n - 1)) ∧ n &&& (n - 1) < n := by
  have := List.all_eq_true.1 elts_all n (List.mem_range.2 h)
  simp only [Bool.or_eq_true, Bool.and_eq_true, decide_eq_true_iff] at this
  rcases this with h1 | h1
  · omega
  · exact h1

theorem elts_zero : elts 0 = [] := by decide

theorem low_bit {n : Nat} (h0 : 0 < n) (h : n < 1024) : n.testBit (low n) = true := by
  rw [← mem_elts h, (elts_next h0 h).1]
  exact List.mem_cons_self

theorem low_min {n i : Nat} (h : n < 1024) (hi : n.testBit i = true) : low n ≤ i := by
  have h0 : 0 < n := by
    refine Nat.pos_of_ne_zero fun e => ?_
    subst e
    simp at hi
  have h1 := (mem_elts h).2 hi
  have hp : (elts n).Pairwise (· < ·) := by
    unfold elts
    exact List.Pairwise.filter _ List.pairwise_lt_range
  rw [(elts_next h0 h).1] at h1 hp
  rcases List.mem_cons.1 h1 with h2 | h2
  · omega
  · exact Nat.le_of_lt ((List.pairwise_cons.1 hp).1 i h2)

theorem elts_len (n : Nat) : (elts n).length = pop n := by
  unfold elts pop
  rw [List.countP_eq_length_filter]

theorem elts_nodup (n : Nat) : (elts n).Nodup := by
  unfold elts
  exact List.Pairwise.filter _ List.nodup_range

/-- Fewer numbers in a smaller set. -/
theorem pop_lt {a b i : Nat} (hb : b < 1024) (h : ∀ j, a.testBit j = true → b.testBit j = true) (hi : b.testBit i = true) (ha : a.testBit i = false) : pop a < pop b := by
  have hi10 : i < 10 := bit_lt (n := 10) hb hi
  have key : ∀ n, i < n → ((List.range n).countP fun j => a.testBit j) < ((List.range n).countP fun j => b.testBit j) := by
    intro n
    induction n with
    | zero => intro h; omega
    | succ n ih =>
      intro hn
      rw [List.range_succ, List.countP_append, List.countP_append]
      have hle : ((List.range n).countP fun j => a.testBit j) ≤ ((List.range n).countP fun j => b.testBit j) := List.countP_mono_left fun j _ hj => h j hj
      by_cases hin : i = n
      · subst hin
        simp [hi, ha]
        omega
      · have := ih (by omega)
        have h2 : ([n].countP fun j => a.testBit j) ≤ ([n].countP fun j => b.testBit j) := List.countP_mono_left fun j _ hj => h j hj
        omega
  exact key 10 hi10

theorem pop_le_of {a b : Nat} (h : ∀ j, a.testBit j = true → b.testBit j = true) : pop a ≤ pop b := List.countP_mono_left fun j _ hj => h j hj

theorem pop_le_n {a n : Nat} (hn : n ≤ 10) (ha : a < 2 ^ n) : pop a ≤ n := by
  unfold pop
  rw [show 10 = n + (10 - n) by omega, List.range_add, List.countP_append]
  have h1 : ((List.range n).countP fun i => a.testBit i) ≤ n := Nat.le_trans List.countP_le_length (by simp)
  have h2 : (((List.range (10 - n)).map (n + ·)).countP fun i => a.testBit i) = 0 := by
    rw [List.countP_eq_zero]
    intro x hx
    obtain ⟨y, _, rfl⟩ := List.mem_map.1 hx
    rw [big_bit ha (by omega)]
    simp
  omega

/-! ### Graphs -/

/-- The neighbours of a node. -/
def nb (g : List Nat) (i : Nat) : Nat := g.getD i 0
def adj (g : List Nat) (a b : Nat) : Bool := (nb g a).testBit b

/-- Arrows between at most ten nodes. -/
structure GrB (g : List Nat) : Prop where
  len : g.length ≤ 10
  lt : ∀ x ∈ g, x < 2 ^ g.length

theorem GrB.nb_lt {g : List Nat} (hg : GrB g) (i : Nat) : nb g i < 2 ^ g.length := by
  unfold nb
  rw [List.getD_eq_getElem?_getD]
  cases h : g[i]? with
  | none => exact Nat.two_pow_pos _
  | some x => exact hg.lt x (List.mem_of_getElem? h)

theorem GrB.adj_lt {g : List Nat} (hg : GrB g) {a b : Nat} (h : adj g a b = true) : a < g.length ∧ b < g.length := by
  refine ⟨Classical.byContradiction fun hc => ?_, bit_lt (hg.nb_lt a) h⟩
  unfold adj nb at h
  rw [List.getD_eq_getElem?_getD, List.getElem?_eq_none (by omega)] at h
  simp at h

theorem GrB.pow {g : List Nat} (hg : GrB g) : 2 ^ g.length ≤ 1024 := Nat.pow_le_pow_right (n := 2) (by omega) hg.len

/-- What a node reaches within a set. -/
inductive Rch (g : List Nat) (W : Nat) (v : Nat) : Nat → Prop
  | base : Rch g W v v
  | step {a b : Nat} : Rch g W v a → adj g a b = true → W.testBit b = true → Rch g W v b

open Classical in
/-- The set of these. -/
noncomputable def rch (g : List Nat) (W v : Nat) : Nat := mkS (fun u => decide (Rch g W v u)) 10

theorem rch_lt (g : List Nat) (W v : Nat) : rch g W v < 1024 := mkS_lt _ 10

theorem Rch.bound {g : List Nat} {W v u : Nat} (hv : v < 10) (hW : W < 1024) (h : Rch g W v u) : u < 10 := by
  cases h with
  | base => exact hv
  | step _ _ hb => exact bit_lt (n := 10) hW hb

open Classical in
theorem rch_bit {g : List Nat} {W v u : Nat} (hv : v < 10) (hW : W < 1024) : (rch g W v).testBit u = true ↔ Rch g W v u := by
  unfold rch
  rw [mkS_bit, Bool.and_eq_true, decide_eq_true_iff, decide_eq_true_iff]
  exact ⟨And.right, fun h => ⟨h.bound hv hW, h⟩⟩

/-- A set that has the node, and of which all has been reached, and that is closed, is the set of all that is reached. -/
theorem rch_eq {g : List Nat} {W v S : Nat} (hv : v < 10) (hW : W < 1024) (hS : S < 1024) (h0 : S.testBit v = true) (h1 : ∀ u, S.testBit u = true → Rch g W v u) (h2 : ∀ a b, S.testBit a = true → adj g a b = true → W.testBit b = true → S.testBit b = true) : S = rch g W v := by
  refine set_ext (n := 10) hS (rch_lt g W v) fun i hi => ?_
  clear hi
  rw [Bool.eq_iff_iff, rch_bit hv hW]
  refine ⟨h1 i, fun h => ?_⟩
  induction h with
  | base => exact h0
  | step _ hab hb ih => exact h2 _ _ ih hab hb

theorem orAll {g : List Nat} {W u : Nat} : ∀ (L : List Nat) (s : Nat), (L.foldl (fun s i => s ||| (nb g i &&& W)) s).testBit u = true ↔ s.testBit u = true ∨ ∃ i ∈ L, adj g i u = true ∧ W.testBit u = true := by
  intro L
  induction L with
  | nil => intro s; simp
  | cons i L ih =>
    intro s
    rw [List.foldl_cons, ih, Nat.testBit_or, Nat.testBit_and, Bool.or_eq_true, Bool.and_eq_true]
    constructor
    · rintro ((h | h) | ⟨j, hj, h⟩)
      · exact .inl h
      · exact .inr ⟨i, List.mem_cons_self, h⟩
      · exact .inr ⟨j, List.mem_cons_of_mem _ hj, h⟩
    · rintro (h | ⟨j, hj, h⟩)
      · exact .inl (.inl h)
      · rcases List.mem_cons.1 hj with rfl | hj
        · exact .inl (.inr h)
        · exact .inr ⟨j, hj, h⟩

/-- One step of the search. -/
def grow (g : List Nat) (W S : Nat) : Nat := (elts S).foldl (fun s i => s ||| (nb g i &&& W)) S

theorem grow_bit {g : List Nat} {W S u : Nat} (hS : S < 1024) : (grow g W S).testBit u = true ↔ S.testBit u = true ∨ ∃ i, S.testBit i = true ∧ adj g i u = true ∧ W.testBit u = true := by
  unfold grow
  rw [orAll]
  simp only [mem_elts hS]

theorem orAll_lt {g : List Nat} {W : Nat} (hW : W < 1024) : ∀ (L : List Nat) (s : Nat), s < 1024 → L.foldl (fun s i => s ||| (nb g i &&& W)) s < 1024 := by
  intro L
  induction L with
  | nil => intro s h; exact h
  | cons i L ih =>
    intro s h
    exact ih _ (Nat.or_lt_two_pow (n := 10) h (Nat.and_lt_two_pow _ hW))

theorem grow_lt {g : List Nat} {W S : Nat} (hW : W < 1024) (hS : S < 1024) : grow g W S < 1024 := orAll_lt hW _ _ hS

/-- One round of the document's search. -/
def stepD (g : List Nat) (W : Nat) (m i : Nat) : Nat := if m.testBit i = true then m ||| (nb g i &&& W) else m
def roundD (g : List Nat) (W m : Nat) : Nat := (List.range g.length).foldl (stepD g W) m

theorem stepD_mono {g : List Nat} {W m i u : Nat} (h : m.testBit u = true) : (stepD g W m i).testBit u = true := by
  unfold stepD
  split
  · rw [Nat.testBit_or, h]; rfl
  · exact h

theorem foldD_mono {g : List Nat} {W u : Nat} : ∀ (L : List Nat) (m : Nat), m.testBit u = true → (L.foldl (stepD g W) m).testBit u = true := by
  intro L
  induction L with
  | nil => intro m h; exact h
  | cons i L ih => intro m h; exact ih _ (stepD_mono h)

theorem foldD_lt {g : List Nat} {W n : Nat} (hW : W < 2 ^ n) : ∀ (L : List Nat) (m : Nat), m < 2 ^ n → L.foldl (stepD g W) m < 2 ^ n := by
  intro L
  induction L with
  | nil => intro m h; exact h
  | cons i L ih =>
    intro m h
    refine ih _ ?_
    unfold stepD
    split
    · exact Nat.or_lt_two_pow h (Nat.and_lt_two_pow _ hW)
    · exact h

theorem foldD_rch {g : List Nat} {W v : Nat} : ∀ (L : List Nat) (m : Nat), (∀ u, m.testBit u = true → Rch g W v u) → ∀ u, (L.foldl (stepD g W) m).testBit u = true → Rch g W v u := by
  intro L
  induction L with
  | nil => intro m h; exact h
  | cons i L ih =>
    intro m h
    refine ih _ fun u hu => ?_
    unfold stepD at hu
    split at hu
    · rename_i hi
      rw [Nat.testBit_or, Nat.testBit_and, Bool.or_eq_true, Bool.and_eq_true] at hu
      rcases hu with hu | ⟨h1, h2⟩
      · exact h u hu
      · exact .step (h i hi) h1 h2
    · exact h u hu

theorem foldD_closed {g : List Nat} {W : Nat} : ∀ (L : List Nat) (m : Nat), L.foldl (stepD g W) m = m → ∀ a b, a ∈ L → m.testBit a = true → adj g a b = true → W.testBit b = true → m.testBit b = true := by
  intro L
  induction L with
  | nil => intro m _ a b h; cases h
  | cons i L ih =>
    intro m hm a b ha hma hab hb
    rw [List.foldl_cons] at hm
    have h1 : stepD g W m i = m := by
      apply Nat.eq_of_testBit_eq
      intro u
      rw [Bool.eq_iff_iff]
      refine ⟨fun h => ?_, stepD_mono⟩
      rw [← hm]
      exact foldD_mono L _ h
    rcases List.mem_cons.1 ha with rfl | ha
    · unfold stepD at h1
      rw [if_pos hma] at h1
      rw [← h1, Nat.testBit_or, Nat.testBit_and]
      have : (nb g a).testBit b = true := hab
      rw [this, hb]
      simp
    · rw [h1] at hm
      exact ih m hm a b ha hma hab hb

/-- The document's search finds all that is reached. -/
theorem reachD {g : List Nat} {W v : Nat} (hg : GrB g) (hv : v < g.length) (hW : W < 2 ^ g.length) : (List.range g.length).foldl (fun m _ => roundD g W m) (2 ^ v) = rch g W v := by
  have hlen := hg.len
  have hW' : W < 1024 := Nat.lt_of_lt_of_le hW hg.pow
  have key : ∀ k, let m := (List.range k).foldl (fun m _ => roundD g W m) (2 ^ v)
      m < 2 ^ g.length ∧ m.testBit v = true ∧ (∀ u, m.testBit u = true → Rch g W v u) ∧ (roundD g W m = m ∨ k + 1 ≤ pop m) := by
    intro k
    induction k with
    | zero =>
      refine ⟨Nat.pow_lt_pow_right (by omega) hv, by simp [Nat.testBit_two_pow], fun u hu => ?_, .inr ?_⟩
      · rw [List.range_zero, List.foldl_nil, Nat.testBit_two_pow] at hu
        have : v = u := by simpa using hu
        subst this
        exact .base
      · have : pop 0 < pop (2 ^ v) := pop_lt (i := v) (Nat.lt_of_lt_of_le (Nat.pow_lt_pow_right (by omega) hv) hg.pow) (fun j h => by simp at h) (by simp [Nat.testBit_two_pow]) (by simp)
        simp only [List.range_zero, List.foldl_nil]
        omega
    | succ k ih =>
      simp only at ih
      simp only [List.range_succ, List.foldl_append, List.foldl_cons, List.foldl_nil]
      generalize (List.range k).foldl (fun m _ => roundD g W m) (2 ^ v) = m at *
      obtain ⟨h1, h2, h3, h4⟩ := ih
      refine ⟨foldD_lt hW _ _ h1, foldD_mono _ _ h2, foldD_rch _ _ h3, ?_⟩
      by_cases he : roundD g W m = m
      · left
        rw [he]; exact he
      · right
        have hp := h4.resolve_left he
        obtain ⟨i, hi⟩ : ∃ i, (roundD g W m).testBit i ≠ m.testBit i := by
          refine Classical.byContradiction fun hc => he (Nat.eq_of_testBit_eq fun i => Classical.byContradiction fun h => hc ⟨i, h⟩)
        have hmi : m.testBit i = false := by
          cases hh : m.testBit i with
          | false => rfl
          | true =>
            have : (roundD g W m).testBit i = true := foldD_mono _ _ hh
            rw [this, hh] at hi
            exact absurd rfl hi
        have hri : (roundD g W m).testBit i = true := by
          cases hh : (roundD g W m).testBit i with
          | true => rfl
          | false => rw [hh, hmi] at hi; exact absurd rfl hi
        have hlt : roundD g W m < 1024 := Nat.lt_of_lt_of_le (foldD_lt hW _ _ h1) hg.pow
        have := pop_lt hlt (fun j hj => foldD_mono (g := g) (W := W) (List.range g.length) m hj) hri hmi
        omega
  obtain ⟨h1, h2, h3, h4⟩ := key g.length
  generalize (List.range g.length).foldl (fun m _ => roundD g W m) (2 ^ v) = m at *
  have hfix : roundD g W m = m := by
    refine h4.resolve_right fun h => ?_
    have := pop_le_n hlen h1
    omega
  refine rch_eq (by omega) hW' (Nat.lt_of_lt_of_le h1 hg.pow) h2 h3 fun a b ha hab hb => ?_
  exact foldD_closed _ m hfix a b (List.mem_range.2 (hg.adj_lt hab).1) ha hab hb

end Go.AM
