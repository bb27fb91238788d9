/- Blocks: the document's search finds the same (plain), and its walk. -/
import Derived.Test.YtakhklelgcfgjaaDoorEk
namespace Go.AM
open Go.Proofs

variable {R : Type}

/-! ### Plain -/

/-- A part of another set. -/
def subS (a b : Nat) : Prop := without a b = 0

theorem subS_iff {a b : Nat} : subS a b ↔ ∀ i, a.testBit i = true → b.testBit i = true := by
  unfold subS
  constructor
  · intro h i hi
    have := testBit_without a b i
    rw [h] at this
    cases hb : b.testBit i with
    | true => rfl
    | false => rw [hi, hb] at this; simp at this
  · intro h
    apply Nat.eq_of_testBit_eq
    intro i
    rw [testBit_without]
    cases ha : a.testBit i with
    | false => simp
    | true => rw [h i ha]; simp

theorem subS_refl (a : Nat) : subS a a := subS_iff.2 fun _ h => h
theorem subS_trans {a b c : Nat} (h1 : subS a b) (h2 : subS b c) : subS a c := subS_iff.2 fun i h => subS_iff.1 h2 i (subS_iff.1 h1 i h)

theorem subS_pop {a b : Nat} (hb : b < 1024) (h : subS a b) (hne : a ≠ b) : pop a < pop b := by
  have h' := subS_iff.1 h
  obtain ⟨i, hi⟩ : ∃ i, a.testBit i ≠ b.testBit i := Classical.byContradiction fun hc => hne (Nat.eq_of_testBit_eq fun i => Classical.byContradiction fun hh => hc ⟨i, hh⟩)
  have hai : a.testBit i = false := by
    cases ha : a.testBit i with
    | false => rfl
    | true => rw [ha, h' i ha] at hi; exact absurd rfl hi
  have hbi : b.testBit i = true := by
    cases hb : b.testBit i with
    | true => rfl
    | false => rw [hai, hb] at hi; exact absurd rfl hi
  exact pop_lt hb h' hbi hai

/-- The greatest ones of those with a property. -/
def Mx (n : Nat) (c : Nat → Bool) (S : Nat) : Prop := S < 2 ^ n ∧ c S = true ∧ ∀ x, x < 2 ^ n → c x = true → subS S x → x = S

theorem mx_above {n : Nat} (hn : n ≤ 10) {c : Nat → Bool} : ∀ (d S : Nat), pop S + d = 10 → S < 2 ^ n → c S = true → ∃ y, Mx n c y ∧ subS S y := by
  have hp : 2 ^ n ≤ 1024 := Nat.pow_le_pow_right (n := 2) (by omega) hn
  intro d
  induction d using Nat.strongRecOn with
  | _ d ih =>
    intro S hd hS hc
    by_cases hm : ∀ x, x < 2 ^ n → c x = true → subS S x → x = S
    · exact ⟨S, ⟨hS, hc, hm⟩, subS_refl S⟩
    · obtain ⟨x, hx⟩ := Classical.not_forall.1 hm
      obtain ⟨hx1, hx⟩ := Classical.not_imp.1 hx
      obtain ⟨hx2, hx⟩ := Classical.not_imp.1 hx
      obtain ⟨hx3, hx4⟩ := Classical.not_imp.1 hx
      have h1 := subS_pop (by omega) hx3 (fun e => hx4 e.symm)
      have h2 := pop_le_n (Nat.le_refl 10) (show x < 2 ^ 10 by omega)
      obtain ⟨y, hy1, hy2⟩ := ih (10 - pop x) (by omega) x (by omega) hx1 hx2
      exact ⟨y, hy1, subS_trans hx3 hy2⟩

/-- One step of the document's search. -/
noncomputable def stepB (g : List Nat) (m S : Nat) (acc : List Nat) : List Nat :=
  if (decide (pop S = m) && cand2 g S && !(acc.any fun b => decide (without S b = 0))) = true then acc ++ [S] else acc
noncomputable def rowB (g : List Nat) (m : Nat) (acc : List Nat) : List Nat := foldI (fun _ S acc => stepB g m S acc) (List.range (allN g + 1)) 0 acc
noncomputable def foundB (g : List Nat) : List Nat := foldI (fun _ i acc => rowB g (g.length - i) acc) (List.range (g.length - 1)) 0 []

theorem stepB_mem {g : List Nat} (hg : GrB g) {m t : Nat} (ht : t < 2 ^ g.length) {acc : List Nat} (hnd : acc.Nodup) (hinv : ∀ S, S ∈ acc ↔ Mx g.length (cand2 g) S ∧ (m < pop S ∨ (pop S = m ∧ S < t))) :
    (stepB g m t acc).Nodup ∧ ∀ S, S ∈ stepB g m t acc ↔ Mx g.length (cand2 g) S ∧ (m < pop S ∨ (pop S = m ∧ S < t + 1)) := by
  have hpow := hg.pow
  have hiff : (decide (pop t = m) && cand2 g t && !(acc.any fun b => decide (without t b = 0))) = true ↔ pop t = m ∧ Mx g.length (cand2 g) t := by
    simp only [Bool.and_eq_true, decide_eq_true_iff, Bool.not_eq_true', List.any_eq_false]
    constructor
    · rintro ⟨⟨h1, h2⟩, h3⟩
      refine ⟨h1, ht, h2, fun x hx hcx hsub => ?_⟩
      refine Classical.byContradiction fun hne => ?_
      obtain ⟨y, hy1, hy2⟩ := mx_above hg.len (c := cand2 g) (10 - pop x) x (by have := pop_le_n (Nat.le_refl 10) (show x < 2 ^ 10 by omega); omega) hx hcx
      have h4 := subS_pop (by omega) hsub (fun e => hne e.symm)
      have h5 : pop x ≤ pop y := pop_le_of (subS_iff.1 hy2)
      exact h3 y ((hinv y).2 ⟨hy1, .inl (by omega)⟩) (subS_trans hsub hy2)
    · rintro ⟨h1, h2⟩
      refine ⟨⟨h1, h2.2.1⟩, fun b hb hsub => ?_⟩
      obtain ⟨h3, h4⟩ := (hinv b).1 hb
      have := h2.2.2 b h3.1 h3.2.1 hsub
      subst this
      omega
  unfold stepB
  by_cases hc : pop t = m ∧ Mx g.length (cand2 g) t
  · rw [if_pos (hiff.2 hc)]
    have hnt : t ∉ acc := fun h => by have := ((hinv t).1 h).2; omega
    refine ⟨?_, fun S => ?_⟩
    · rw [List.nodup_append]
      refine ⟨hnd, by simp, fun a ha b hb => ?_⟩
      simp at hb
      subst hb
      exact fun e => hnt (e ▸ ha)
    · rw [List.mem_append, hinv, List.mem_singleton]
      constructor
      · rintro (⟨h1, h2⟩ | rfl)
        · exact ⟨h1, by omega⟩
        · exact ⟨hc.2, by omega⟩
      · rintro ⟨h1, h2⟩
        by_cases hSt : S = t
        · exact .inr hSt
        · exact .inl ⟨h1, by omega⟩
  · rw [if_neg (fun h => hc (hiff.1 h))]
    refine ⟨hnd, fun S => ?_⟩
    rw [hinv]
    constructor
    · rintro ⟨h1, h2⟩; exact ⟨h1, by omega⟩
    · rintro ⟨h1, h2⟩
      refine ⟨h1, ?_⟩
      by_cases hSt : S = t
      · subst hSt
        rcases h2 with h | h
        · exact .inl h
        · exact absurd ⟨h.1, h1⟩ hc
      · omega

theorem rowB_mem {g : List Nat} (hg : GrB g) {m : Nat} {acc : List Nat} (hnd : acc.Nodup) (hinv : ∀ S, S ∈ acc ↔ Mx g.length (cand2 g) S ∧ m < pop S) :
    (rowB g m acc).Nodup ∧ ∀ S, S ∈ rowB g m acc ↔ Mx g.length (cand2 g) S ∧ m ≤ pop S := by
  have hp2 := Nat.two_pow_pos g.length
  have key : ∀ k, k ≤ 2 ^ g.length → (foldI (fun _ S acc => stepB g m S acc) (List.range k) 0 acc).Nodup ∧ ∀ S, S ∈ foldI (fun _ S acc => stepB g m S acc) (List.range k) 0 acc ↔ Mx g.length (cand2 g) S ∧ (m < pop S ∨ (pop S = m ∧ S < k)) := by
    intro k
    induction k with
    | zero =>
      intro _
      refine ⟨hnd, fun S => ?_⟩
      rw [List.range_zero]
      simp only [foldI]
      rw [hinv]
      constructor
      · rintro ⟨h1, h2⟩; exact ⟨h1, .inl h2⟩
      · rintro ⟨h1, h2⟩; exact ⟨h1, by omega⟩
    | succ k ih =>
      intro hk
      obtain ⟨h1, h2⟩ := ih (by omega)
      rw [foldI_foldl (fun S acc => stepB g m S acc)] at h1 h2 ⊢
      rw [List.range_succ, List.foldl_append, List.foldl_cons, List.foldl_nil]
      exact stepB_mem hg (by omega) h1 h2
  have := key (2 ^ g.length) (Nat.le_refl _)
  have h1 : allN g + 1 = 2 ^ g.length := by unfold allN; omega
  unfold rowB
  rw [h1]
  refine ⟨this.1, fun S => ?_⟩
  rw [this.2 S]
  constructor
  · rintro ⟨h1, h2⟩; exact ⟨h1, by omega⟩
  · rintro ⟨h1, h2⟩; exact ⟨h1, by have := h1.1; omega⟩

theorem foundB_mem {g : List Nat} (hg : GrB g) : (foundB g).Nodup ∧ ∀ S, S ∈ foundB g ↔ Mx g.length (cand2 g) S := by
  have hlen := hg.len
  have key : ∀ k, k ≤ g.length - 1 → (foldI (fun _ i acc => rowB g (g.length - i) acc) (List.range k) 0 []).Nodup ∧ ∀ S, S ∈ foldI (fun _ i acc => rowB g (g.length - i) acc) (List.range k) 0 [] ↔ Mx g.length (cand2 g) S ∧ g.length - k < pop S := by
    intro k
    induction k with
    | zero =>
      intro _
      refine ⟨by simp [foldI], fun S => ?_⟩
      simp only [List.range_zero, foldI, List.not_mem_nil, false_iff]
      rintro ⟨h1, h2⟩
      have := pop_le_n hlen h1.1
      omega
    | succ k ih =>
      intro hk
      obtain ⟨h1, h2⟩ := ih (by omega)
      rw [foldI_foldl (fun i acc => rowB g (g.length - i) acc)] at h1 h2 ⊢
      rw [List.range_succ, List.foldl_append, List.foldl_cons, List.foldl_nil]
      obtain ⟨h3, h4⟩ := rowB_mem hg h1 h2
      refine ⟨h3, fun S => ?_⟩
      rw [h4 S]
      constructor
      · rintro ⟨h5, h6⟩; exact ⟨h5, by omega⟩
      · rintro ⟨h5, h6⟩; exact ⟨h5, by omega⟩
  obtain ⟨h1, h2⟩ := key (g.length - 1) (Nat.le_refl _)
  refine ⟨h1, fun S => ?_⟩
  unfold foundB
  rw [h2 S]
  constructor
  · exact And.left
  · intro h
    refine ⟨h, ?_⟩
    have := h.2.1
    unfold cand2 at this
    simp only [Bool.and_eq_true, decide_eq_true_iff] at this
    have h3 := pop_le_n hlen h.1
    omega

theorem pop_two (v : Nat) (hv : v < 10) : pop (2 ^ v) = 1 := by
  have : ∀ v, v < 10 → pop (2 ^ v) = 1 := by decide
  exact this v hv

theorem low_two (v : Nat) (hv : v < 10) : low (2 ^ v) = v := by
  have : ∀ v, v < 10 → low (2 ^ v) = v := by decide
  exact this v hv

theorem pop_zero' {S : Nat} (hS : S < 1024) (h : pop S = 0) : S = 0 := by
  refine Classical.byContradiction fun hc => ?_
  have := (elts_next (Nat.pos_of_ne_zero hc) hS).1
  have h1 := elts_len S
  rw [this, h] at h1
  simp at h1

theorem pop_one {S : Nat} (hS : S < 1024) (h : pop S = 1) : S = 2 ^ low S := by
  have h0 : 0 < S := by
    refine Nat.pos_of_ne_zero fun e => ?_
    subst e
    revert h; decide
  have h1 := elts_len S
  have h2 := (elts_next h0 hS).1
  have h3 : elts (S &&& (S - 1)) = [] := by
    rw [h2, h] at h1
    simpa using h1
  refine Nat.eq_of_testBit_eq fun i => ?_
  rw [Bool.eq_iff_iff, ← mem_elts hS, h2, h3, Nat.testBit_two_pow]
  simp [eq_comm]

/-- A lone node is no part of a connected set. -/
theorem lone_max {g : List Nat} (hg : GrN g) {v x : Nat} (hv : v < g.length) (hx : x < 2 ^ g.length) (h0 : nb g v = 0) (hc : connS g x = true) (hxv : x.testBit v = true) : x = 2 ^ v := by
  have hlen := hg.len
  have hpow := hg.pow
  have hx' : x < 1024 := by omega
  have hx0 : x ≠ 0 := by rintro rfl; simp at hxv
  have hl := low_lt hg.toGrB hx hx0
  have hr : rch g x (low x) = x := by
    unfold connS at hc
    simpa [hx0] using hc
  have hrv : Rch g x (low x) v := by
    have := hxv
    rw [← hr] at this
    exact (rch_bit (by omega) hx').1 this
  have hlow : low x = v := by
    generalize low x = u at hrv
    cases hrv with
    | base => rfl
    | @step a _ _ hab _ =>
      have : adj g v a = true := by rw [hg.sym]; exact hab
      unfold adj at this
      rw [h0] at this
      simp at this
  refine Nat.eq_of_testBit_eq fun i => ?_
  rw [Bool.eq_iff_iff, Nat.testBit_two_pow, decide_eq_true_iff]
  constructor
  · intro hi
    rw [← hr] at hi
    have h1 := (rch_bit (by omega) hx').1 hi
    rw [hlow] at h1
    have : ∀ u, Rch g x v u → u = v := by
      intro u hu
      induction hu with
      | base => rfl
      | step _ hab _ ih =>
        subst ih
        unfold adj at hab
        rw [h0] at hab
        simp at hab
    exact (this i h1).symm
  · rintro rfl; exact hxv

/-- All that is found. -/
noncomputable def foundAll (g : List Nat) : List Nat := foundB g ++ ((List.range g.length).filter fun v => decide (nb g v = 0)).map (2 ^ ·)

theorem foundAll_mem {g : List Nat} (hg : GrN g) : (foundAll g).Nodup ∧ ∀ S, S ∈ foundAll g ↔ Mx g.length (candQ g) S := by
  have hlen := hg.len
  have hpow := hg.pow
  obtain ⟨h1, h2⟩ := foundB_mem hg.toGrB
  have hc2 : ∀ S, cand2 g S = true → 1 < pop S ∧ connS g S = true := by
    intro S h
    unfold cand2 at h
    simp only [Bool.and_eq_true, decide_eq_true_iff] at h
    exact ⟨h.1.1, h.1.2⟩
  have hlone : ∀ S, S < 2 ^ g.length → (loneQ g S = true ↔ ∃ v, v < g.length ∧ nb g v = 0 ∧ S = 2 ^ v) := by
    intro S hS
    unfold loneQ
    simp only [Bool.and_eq_true, decide_eq_true_iff]
    constructor
    · rintro ⟨h3, h4⟩
      have h5 := pop_one (by omega) h3
      exact ⟨low S, low_lt hg.toGrB hS (by rintro rfl; revert h3; decide), h4, h5⟩
    · rintro ⟨v, h3, h4, rfl⟩
      rw [pop_two v (by omega), low_two v (by omega)]
      exact ⟨rfl, h4⟩
  have hmem2 : ∀ S, S ∈ ((List.range g.length).filter fun v => decide (nb g v = 0)).map (2 ^ ·) ↔ ∃ v, v < g.length ∧ nb g v = 0 ∧ S = 2 ^ v := by
    intro S
    simp only [List.mem_map, List.mem_filter, List.mem_range, decide_eq_true_iff]
    constructor
    · rintro ⟨v, ⟨h3, h4⟩, rfl⟩; exact ⟨v, h3, h4, rfl⟩
    · rintro ⟨v, h3, h4, rfl⟩; exact ⟨v, ⟨h3, h4⟩, rfl⟩
  constructor
  · unfold foundAll
    rw [List.nodup_append]
    refine ⟨h1, ?_, fun a ha b hb hab => ?_⟩
    · refine List.Pairwise.map _ ?_ (List.Pairwise.filter _ List.nodup_range)
      intro a b hab e
      exact hab ((Nat.pow_right_inj (by omega)).1 e)
    · subst hab
      obtain ⟨v, h3, h4, rfl⟩ := (hmem2 a).1 hb
      have := (hc2 _ ((h2 _).1 ha).2.1).1
      rw [pop_two v (by omega)] at this
      omega
  · intro S
    unfold foundAll
    rw [List.mem_append, h2, hmem2]
    unfold Mx candQ
    constructor
    · rintro (⟨h3, h4, h5⟩ | ⟨v, h3, h4, rfl⟩)
      · refine ⟨h3, by rw [h4]; simp, fun x hx hcx hsub => ?_⟩
        simp only [Bool.or_eq_true] at hcx
        rcases hcx with hcx | hcx
        · have h6 := (hc2 S h4).1
          obtain ⟨v, h7, h8, rfl⟩ := (hlone x hx).1 hcx
          have h9 : pop S ≤ pop (2 ^ v) := pop_le_of (subS_iff.1 hsub)
          rw [pop_two v (by omega)] at h9
          omega
        · exact h5 x hx hcx hsub
      · have hlt : 2 ^ v < 2 ^ g.length := Nat.pow_lt_pow_right (by omega) h3
        refine ⟨hlt, by rw [(hlone _ hlt).2 ⟨v, h3, h4, rfl⟩]; rfl, fun x hx hcx hsub => ?_⟩
        have hxv : x.testBit v = true := subS_iff.1 hsub v (by simp [Nat.testBit_two_pow])
        simp only [Bool.or_eq_true] at hcx
        rcases hcx with hcx | hcx
        · obtain ⟨u, h7, h8, rfl⟩ := (hlone x hx).1 hcx
          rw [Nat.testBit_two_pow, decide_eq_true_iff] at hxv
          rw [hxv]
        · exact lone_max hg h3 hx h4 (hc2 x hcx).2 hxv
    · rintro ⟨h3, h4, h5⟩
      simp only [Bool.or_eq_true] at h4
      rcases h4 with h4 | h4
      · obtain ⟨v, h7, h8, rfl⟩ := (hlone S h3).1 h4
        exact .inr ⟨v, h7, h8, rfl⟩
      · refine .inl ⟨h3, h4, fun x hx hcx hsub => h5 x hx (by rw [hcx]; simp) hsub⟩

/-- The blocks, in order. -/
theorem mem_blocks {g : List Nat} {S : Nat} : S ∈ blocksP g ↔ Mx g.length (candQ g) S := by
  unfold blocksP Mx
  rw [List.mem_filter, mem_cands]
  simp only [Bool.not_eq_true', List.any_eq_false, mem_cands]
  constructor
  · rintro ⟨⟨h1, h2, h3⟩, h4⟩
    refine ⟨h2, h3, fun x hx hcx hsub => ?_⟩
    refine Classical.byContradiction fun hne => ?_
    refine h4 x ⟨?_, hx, hcx⟩ ?_
    · refine Nat.pos_of_ne_zero fun e => ?_
      subst e
      revert hcx
      unfold candQ loneQ cand2
      simp [show pop 0 = 0 by decide]
    · unfold overQ
      rw [decide_eq_true hne, decide_eq_true (show without S x = 0 from hsub)]
      rfl
  · rintro ⟨h1, h2, h3⟩
    refine ⟨⟨?_, h1, h2⟩, fun x ⟨_, hx, hcx⟩ ho => ?_⟩
    · refine Nat.pos_of_ne_zero fun e => ?_
      subst e
      revert h2
      unfold candQ loneQ cand2
      simp [show pop 0 = 0 by decide]
    · unfold overQ at ho
      simp only [Bool.and_eq_true, decide_eq_true_iff] at ho
      exact ho.1 (h3 x hx hcx ho.2)

theorem blocks_eq {g : List Nat} {l : List Nat} (hg : GrB g) (hnd : l.Nodup) (hm : ∀ S, S ∈ l ↔ S ∈ blocksP g) : (List.range (allN g + 1)).flatMap (fun S => l.filter (· == S)) = blocksP g := by
  have hp2 := Nat.two_pow_pos g.length
  have h1 : blocksP g = (List.range (allN g + 1)).filter (fun S => decide (S ∈ l)) := by
    unfold blocksP candsP
    rw [List.filter_filter, List.range_succ_eq_map, List.filter_cons, if_neg]
    · refine List.filter_congr fun S hS => ?_
      rw [Bool.eq_iff_iff, decide_eq_true_iff, hm]
      unfold blocksP
      rw [List.mem_filter]
      constructor
      · intro h
        simp only [Bool.and_eq_true] at h
        refine ⟨?_, h.1⟩
        unfold candsP
        rw [List.mem_filter]
        exact ⟨hS, h.2⟩
      · intro h
        simp only [Bool.and_eq_true]
        refine ⟨h.2, ?_⟩
        have := h.1
        unfold candsP at this
        exact (List.mem_filter.1 this).2
    · rw [decide_eq_true_iff, hm, mem_blocks]
      rintro ⟨_, h, _⟩
      revert h
      unfold candQ loneQ cand2
      simp [show pop 0 = 0 by decide]
  rw [h1]
  induction List.range (allN g + 1) with
  | nil => rfl
  | cons S L ih =>
    rw [List.flatMap_cons, ih, List.filter_cons]
    have h2 : l.filter (· == S) = if S ∈ l then [S] else [] := by
      clear hm h1 ih
      induction l with
      | nil => rfl
      | cons a l ih2 =>
        rw [List.nodup_cons] at hnd
        rw [List.filter_cons, ih2 hnd.2]
        by_cases ha : a = S
        · subst ha; simp [hnd.1]
        · have : ¬ S = a := fun e => ha e.symm
          simp [ha, this]
    rw [h2]
    by_cases h3 : S ∈ l
    · rw [if_pos h3, if_pos (by simpa using h3)]; rfl
    · rw [if_neg h3, if_neg (by simpa using h3)]; rfl

theorem blocks_doc {g : List Nat} (hg : GrN g) : (List.range (allN g + 1)).flatMap (fun S => (foundAll g).filter (· == S)) = blocksP g := by
  obtain ⟨h1, h2⟩ := foundAll_mem hg
  exact blocks_eq hg.toGrB h1 fun S => by rw [h2, mem_blocks]

end Go.AM
