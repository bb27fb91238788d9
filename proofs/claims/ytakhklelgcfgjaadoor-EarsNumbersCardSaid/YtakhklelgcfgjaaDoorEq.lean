/- PLAIN: ears on sets without cut nodes; where blocks meet. -/
import Derived.Test.YtakhklelgcfgjaaDoorEn
namespace Go.AM
open Go.Proofs

/-- A way from its first node to a set, all of it but the end outside of the set, and never through v. -/
inductive EP (g : List Nat) (A v : Nat) : List Nat → Prop
  | last {a : Nat} : A.testBit a = true → a ≠ v → EP g A v [a]
  | cons {y x : Nat} {l : List Nat} : EP g A v (x :: l) → adj g y x = true → A.testBit y = false → y ≠ v → y ∉ x :: l → EP g A v (y :: x :: l)

theorem EP.suffix {g : List Nat} {A v : Nat} : ∀ {l1 : List Nat} {y : Nat} {l2 : List Nat}, EP g A v (l1 ++ y :: l2) → EP g A v (y :: l2) := by
  intro l1
  induction l1 with
  | nil => intro y l2 h; exact h
  | cons z l1 ih =>
    intro y l2 h
    cases l1 with
    | nil =>
      cases h with
      | cons h _ _ _ _ => exact h
    | cons x l1 =>
      cases h with
      | cons h _ _ _ _ => exact ih h

theorem EP.ne_v {g : List Nat} {A v : Nat} {l : List Nat} (h : EP g A v l) : ∀ x ∈ l, x ≠ v := by
  induction h with
  | last _ h => intro x hx; simp at hx; subst hx; exact h
  | cons _ _ _ h2 _ ih =>
    intro x hx
    rcases List.mem_cons.1 hx with rfl | hx
    · exact h2
    · exact ih x hx

theorem ep_of {g : List Nat} (hs : ∀ a b, adj g a b = adj g b a) {A v W a u : Nat} (hW : W.testBit v = false) (ha : A.testBit a = true) (hav : a ≠ v) (h : Rch g W a u) : ∃ l, EP g A v (u :: l) := by
  induction h with
  | base => exact ⟨[], .last ha hav⟩
  | @step x y _ hxy hy ih =>
    obtain ⟨l, hl⟩ := ih
    have hyv : y ≠ v := by rintro rfl; rw [hW] at hy; cases hy
    cases hA : A.testBit y with
    | true => exact ⟨[], .last hA hyv⟩
    | false =>
      by_cases hm : y ∈ x :: l
      · obtain ⟨l1, l2, he⟩ := List.append_of_mem hm
        rw [he] at hl
        exact ⟨l2, hl.suffix⟩
      · exact ⟨x :: l, .cons hl (by rw [hs]; exact hxy) hA hyv hm⟩

/-- A list of nodes as a set. -/
def setOf (l : List Nat) : Nat := l.foldr (fun i s => s ||| 2 ^ i) 0

theorem setOf_bit {l : List Nat} {i : Nat} : (setOf l).testBit i = true ↔ i ∈ l := by
  induction l with
  | nil => simp [setOf]
  | cons x l ih =>
    unfold setOf at ih ⊢
    rw [List.foldr_cons, Nat.testBit_or, Bool.or_eq_true, ih, Nat.testBit_two_pow, decide_eq_true_iff, List.mem_cons]
    exact ⟨fun h => h.elim .inr fun e => .inl e.symm, fun h => h.elim (fun e => .inr e.symm) .inl⟩

theorem setOf_lt {l : List Nat} {n : Nat} (h : ∀ i ∈ l, i < n) : setOf l < 2 ^ n := by
  refine Nat.lt_pow_two_of_testBit _ fun i hi => ?_
  rw [Bool.eq_false_iff]
  intro hb
  have := h i (setOf_bit.1 hb)
  omega

theorem EP.fwd {g : List Nat} {A v W w : Nat} {l : List Nat} (h : EP g A v l) (hW : ∀ i ∈ l, W.testBit i = true) (hw : w ∉ l) : ∀ z ∈ l, ∃ a, A.testBit a = true ∧ a ≠ w ∧ Rch g W z a := by
  induction h with
  | @last a ha _ =>
    intro z hz
    simp at hz
    subst hz
    exact ⟨z, ha, fun e => hw (by simp [e]), .base⟩
  | @cons y x l h hyx _ _ _ ih =>
    have hW' : ∀ i ∈ x :: l, W.testBit i = true := fun i hi => hW i (List.mem_cons_of_mem _ hi)
    have hw' : w ∉ x :: l := fun hh => hw (List.mem_cons_of_mem _ hh)
    intro z hz
    rcases List.mem_cons.1 hz with rfl | hz
    · obtain ⟨a, h1, h2, h3⟩ := ih hW' hw' x List.mem_cons_self
      exact ⟨a, h1, h2, (Rch.one hyx (hW' x List.mem_cons_self)).trans h3⟩
    · exact ih hW' hw' z hz

theorem EP.back {g : List Nat} (hs : ∀ a b, adj g a b = adj g b a) {A v W w : Nat} {l : List Nat} (h : EP g A v l) (hW : ∀ i ∈ l, i ≠ w → W.testBit i = true) :
    ∀ z ∈ l, z ≠ w → (∃ a, A.testBit a = true ∧ a ≠ w ∧ Rch g W z a) ∨ (∃ u, l.head? = some u ∧ u ≠ w ∧ Rch g W z u) := by
  induction h with
  | @last a ha _ =>
    intro z hz hzw
    simp at hz
    subst hz
    exact .inl ⟨z, ha, hzw, .base⟩
  | @cons y x l h hyx _ _ hnm ih =>
    have hW' : ∀ i ∈ x :: l, i ≠ w → W.testBit i = true := fun i hi => hW i (List.mem_cons_of_mem _ hi)
    intro z hz hzw
    rcases List.mem_cons.1 hz with rfl | hz
    · exact .inr ⟨z, rfl, hzw, .base⟩
    · by_cases hyw : y = w
      · subst hyw
        exact .inl (h.fwd (fun i hi => hW' i hi (fun e => hnm (e ▸ hi))) hnm z hz)
      · rcases ih hW' z hz hzw with h1 | ⟨u, h1, h2, h3⟩
        · exact .inl h1
        · simp at h1
          subst h1
          exact .inr ⟨y, rfl, hyw, .step h3 (by rw [hs]; exact hyx) (hW y List.mem_cons_self hyw)⟩

/-- AN EAR: a set without cut nodes stays one with a way between two of its nodes. -/
theorem ear_bi {g : List Nat} (hg : GrN g) {A v u a : Nat} (hA : A < 2 ^ g.length) (hb : Bi g A) (hv : A.testBit v = true) (hvu : adj g v u = true)
    (hua : Rch g (without (allN g) (2 ^ v)) u a) (ha : A.testBit a = true) (hav : a ≠ v) : ∃ S, S < 2 ^ g.length ∧ Bi g S ∧ (∀ i, A.testBit i = true → S.testBit i = true) ∧ S.testBit u = true := by
  have hlen := hg.len
  have hpow := hg.pow
  have hun : u ≠ v := by rintro rfl; rw [hg.irr] at hvu; cases hvu
  have huW : (without (allN g) (2 ^ v)).testBit u = true := bit_del.2 ⟨by rw [allN_bit, decide_eq_true (hg.adj_lt hvu).2], hun⟩
  have hvW : (without (allN g) (2 ^ v)).testBit v = false := by
    rw [Bool.eq_false_iff]
    intro h
    exact (bit_del.1 h).2 rfl
  obtain ⟨l, hl⟩ := ep_of hg.sym hvW ha hav (hua.sym hg.sym huW)
  have hmem : ∀ i ∈ u :: l, i < g.length := by
    have : ∀ {m : List Nat}, EP g A v m → ∀ i ∈ m, i < g.length := by
      intro m hm
      induction hm with
      | last h _ => intro i hi; simp at hi; subst hi; exact bit_lt hA h
      | cons _ h1 _ _ _ ih =>
        intro i hi
        rcases List.mem_cons.1 hi with rfl | hi
        · exact (hg.adj_lt h1).1
        · exact ih i hi
    exact this hl
  have hbit : ∀ i, (A ||| setOf (u :: l)).testBit i = true ↔ A.testBit i = true ∨ i ∈ u :: l := by
    intro i
    rw [Nat.testBit_or, Bool.or_eq_true, setOf_bit]
  refine ⟨A ||| setOf (u :: l), Nat.or_lt_two_pow hA (setOf_lt hmem), ?_, fun i hi => (hbit i).2 (.inl hi), (hbit u).2 (.inr List.mem_cons_self)⟩
  intro w
  have hsub : ∀ i, (without A (2 ^ w)).testBit i = true → (without (A ||| setOf (u :: l)) (2 ^ w)).testBit i = true := fun i hi => by
    obtain ⟨h1, h2⟩ := bit_del.1 hi
    exact bit_del.2 ⟨(hbit i).2 (.inl h1), h2⟩
  have hW : ∀ i ∈ u :: l, i ≠ w → (without (A ||| setOf (u :: l)) (2 ^ w)).testBit i = true := fun i hi hiw => bit_del.2 ⟨(hbit i).2 (.inr hi), hiw⟩
  -- every node reaches the old set
  have key : ∀ z, (without (A ||| setOf (u :: l)) (2 ^ w)).testBit z = true → ∃ b, A.testBit b = true ∧ b ≠ w ∧ Rch g (without (A ||| setOf (u :: l)) (2 ^ w)) z b := by
    intro z hz
    obtain ⟨h1, h2⟩ := bit_del.1 hz
    rcases (hbit z).1 h1 with h3 | h3
    · exact ⟨z, h3, h2, .base⟩
    · by_cases hvw : v = w
      · subst hvw
        refine hl.fwd (fun i hi => hW i hi (hl.ne_v i hi)) (fun hm => hl.ne_v v hm rfl) z h3
      · rcases hl.back hg.sym hW z h3 h2 with h4 | ⟨u', h4, h5, h6⟩
        · exact h4
        · simp at h4
          subst h4
          exact ⟨v, hv, hvw, .step h6 (by rw [hg.sym]; exact hvu) (hsub v (bit_del.2 ⟨hv, hvw⟩))⟩
  intro x y hx hy
  obtain ⟨b1, h1, h2, h3⟩ := key x hx
  obtain ⟨b2, h4, h5, h6⟩ := key y hy
  have h7 := (hb w b1 b2 (bit_del.2 ⟨h1, h2⟩) (bit_del.2 ⟨h4, h5⟩)).mono hsub
  exact (h3.trans h7).trans (h6.sym hg.sym hy)

/-- Two sets without cut nodes that have two nodes in common. -/
theorem union_bi {g : List Nat} (hg : GrN g) {A B u v : Nat} (hA : Bi g A) (hB : Bi g B) (huv : u ≠ v) (hu : A.testBit u = true) (hu' : B.testBit u = true) (hv : A.testBit v = true) (hv' : B.testBit v = true) : Bi g (A ||| B) := by
  intro w
  obtain ⟨c, hc1, hc2, hcw⟩ : ∃ c, A.testBit c = true ∧ B.testBit c = true ∧ c ≠ w := by
    by_cases h : u = w
    · exact ⟨v, hv, hv', fun e => huv (h.trans e.symm)⟩
    · exact ⟨u, hu, hu', h⟩
  have hbit : ∀ i, (without (A ||| B) (2 ^ w)).testBit i = true ↔ (A.testBit i = true ∨ B.testBit i = true) ∧ i ≠ w := by
    intro i
    rw [bit_del, Nat.testBit_or, Bool.or_eq_true]
  have h1 : ∀ i, (without A (2 ^ w)).testBit i = true → (without (A ||| B) (2 ^ w)).testBit i = true := fun i hi => by
    obtain ⟨a, b⟩ := bit_del.1 hi
    exact (hbit i).2 ⟨.inl a, b⟩
  have h2 : ∀ i, (without B (2 ^ w)).testBit i = true → (without (A ||| B) (2 ^ w)).testBit i = true := fun i hi => by
    obtain ⟨a, b⟩ := bit_del.1 hi
    exact (hbit i).2 ⟨.inr a, b⟩
  have key : ∀ z, (without (A ||| B) (2 ^ w)).testBit z = true → Rch g (without (A ||| B) (2 ^ w)) z c := by
    intro z hz
    obtain ⟨h3, h4⟩ := (hbit z).1 hz
    rcases h3 with h3 | h3
    · exact (hA w z c (bit_del.2 ⟨h3, h4⟩) (bit_del.2 ⟨hc1, hcw⟩)).mono h1
    · exact (hB w z c (bit_del.2 ⟨h3, h4⟩) (bit_del.2 ⟨hc2, hcw⟩)).mono h2
  intro x y hx hy
  exact (key x hx).trans ((key y hy).sym hg.sym hy)

/-! ### Blocks -/

/-- A block of more than one node. -/
theorem block_two {g : List Nat} (hg : GrN g) {S : Nat} (hS : S ∈ blocksP g) : (∃ v, v < g.length ∧ nb g v = 0 ∧ S = 2 ^ v) ∨ (1 < pop S ∧ Bi g S ∧ S < 2 ^ g.length ∧ ∀ x, x < 2 ^ g.length → Bi g x → (∀ i, S.testBit i = true → x.testBit i = true) → x = S) := by
  have hlen := hg.len
  have hpow := hg.pow
  obtain ⟨h1, h2, h3⟩ := mem_blocks.1 hS
  unfold candQ at h2
  rw [Bool.or_eq_true] at h2
  rcases h2 with h2 | h2
  · left
    unfold loneQ at h2
    simp only [Bool.and_eq_true, decide_eq_true_iff] at h2
    exact ⟨low S, low_lt hg.toGrB h1 (by rintro rfl; have h9 := h2.1; revert h9; decide), h2.2, pop_one (by omega) h2.1⟩
  · right
    obtain ⟨h4, h5⟩ := (cand2_iff hg h1).1 h2
    refine ⟨h4, h5, h1, fun x hx hbx hsub => h3 x hx ?_ (subS_iff.2 hsub)⟩
    unfold candQ
    rw [(cand2_iff hg hx).2 ⟨?_, hbx⟩, Bool.or_true]
    exact Nat.lt_of_lt_of_le h4 (pop_le_of hsub)

theorem blocks_nodup (g : List Nat) : (blocksP g).Nodup := by
  unfold blocksP candsP
  refine List.Pairwise.filter _ (List.Pairwise.filter _ (List.Pairwise.map _ (fun a b h => ?_) List.nodup_range))
  intro e
  exact h (by omega)

/-- Two blocks with two nodes in common are the same. -/
theorem blocks_meet {g : List Nat} (hg : GrN g) {A B u v : Nat} (hA : A ∈ blocksP g) (hB : B ∈ blocksP g) (huv : u ≠ v) (hu : A.testBit u = true) (hu' : B.testBit u = true) (hv : A.testBit v = true) (hv' : B.testBit v = true) : A = B := by
  have hno : ∀ S w, S = 2 ^ w → S.testBit u = true → S.testBit v = true → False := by
    rintro S w rfl h1 h2
    rw [Nat.testBit_two_pow, decide_eq_true_iff] at h1 h2
    exact huv (h1.symm.trans h2)
  rcases block_two hg hA with ⟨w, _, _, h⟩ | ⟨_, a1, a2, a3⟩
  · exact (hno A w h hu hv).elim
  rcases block_two hg hB with ⟨w, _, _, h⟩ | ⟨_, b1, b2, b3⟩
  · exact (hno B w h hu' hv').elim
  have hbi := union_bi hg a1 b1 huv hu hu' hv hv'
  have hlt := Nat.or_lt_two_pow a2 b2
  have h1 := a3 _ hlt hbi fun i hi => by rw [Nat.testBit_or, hi]; rfl
  have h2 := b3 _ hlt hbi fun i hi => by rw [Nat.testBit_or, hi]; simp
  exact h1.symm.trans h2

theorem count_le_one {l : List Nat} {p : Nat → Bool} (hnd : l.Nodup) (h : ∀ x ∈ l, ∀ y ∈ l, p x = true → p y = true → x = y) : l.countP p ≤ 1 := by
  induction l with
  | nil => simp
  | cons x l ih =>
    rw [List.nodup_cons] at hnd
    have := ih hnd.2 fun a ha b hb => h a (List.mem_cons_of_mem _ ha) b (List.mem_cons_of_mem _ hb)
    rw [List.countP_cons]
    by_cases hp : p x = true
    · have h0 : l.countP p = 0 := by
        rw [List.countP_eq_zero]
        intro y hy hpy
        have := h x List.mem_cons_self y (List.mem_cons_of_mem _ hy) hp hpy
        subst this
        exact hnd.1 hy
      simp [h0]
      split <;> omega
    · simp [hp]; exact this

/-- How many blocks have two nodes. -/
def bothN (g : List Nat) (l : List Nat) (a b : Nat) : Nat := l.countP fun S => S.testBit a && S.testBit b

theorem both_le {g : List Nat} (hg : GrN g) {a b : Nat} (hab : a ≠ b) : bothN g (blocksP g) a b ≤ 1 := by
  refine count_le_one (blocks_nodup g) fun x hx y hy h1 h2 => ?_
  simp only [Bool.and_eq_true] at h1 h2
  exact blocks_meet hg hx hy hab h1.1 h2.1 h1.2 h2.2

/-- Two nodes. -/
def duo (a b : Nat) : Nat := 2 ^ a ||| 2 ^ b

theorem duo_bit {a b i : Nat} : (duo a b).testBit i = true ↔ i = a ∨ i = b := by
  unfold duo
  rw [Nat.testBit_or, Bool.or_eq_true, Nat.testBit_two_pow, Nat.testBit_two_pow, decide_eq_true_iff, decide_eq_true_iff]
  exact ⟨fun h => h.elim (fun e => .inl e.symm) fun e => .inr e.symm, fun h => h.elim (fun e => .inl e.symm) fun e => .inr e.symm⟩

theorem duo_lt {a b n : Nat} (ha : a < n) (hb : b < n) : duo a b < 2 ^ n := Nat.or_lt_two_pow (Nat.pow_lt_pow_right (by omega) ha) (Nat.pow_lt_pow_right (by omega) hb)

theorem duo_bi {g : List Nat} (hg : GrN g) {a b : Nat} (h : adj g a b = true) : Bi g (duo a b) := by
  intro w x y hx hy
  obtain ⟨h1, h2⟩ := bit_del.1 hx
  obtain ⟨h3, h4⟩ := bit_del.1 hy
  rcases duo_bit.1 h1 with rfl | rfl <;> rcases duo_bit.1 h3 with rfl | rfl
  · exact .base
  · exact Rch.one h hy
  · exact Rch.one (by rw [hg.sym]; exact h) hy
  · exact .base

theorem duo_pop {a b : Nat} (ha : a < 10) (hb : b < 10) (hab : a ≠ b) : pop (duo a b) = 2 := by
  have : ∀ a, a < 10 → ∀ b, b < 10 → a ≠ b → pop (duo a b) = 2 := by decide +kernel
  exact this a ha b hb hab

/-- Each edge is in a block. -/
theorem edge_block {g : List Nat} (hg : GrN g) {a b : Nat} (h : adj g a b = true) : ∃ S ∈ blocksP g, S.testBit a = true ∧ S.testBit b = true := by
  have hlen := hg.len
  have hpow := hg.pow
  obtain ⟨ha, hb⟩ := hg.adj_lt h
  have hab : a ≠ b := by rintro rfl; rw [hg.irr] at h; cases h
  have hlt := duo_lt ha hb
  have hp := duo_pop (a := a) (b := b) (by omega) (by omega) hab
  have hc : candQ g (duo a b) = true := by
    unfold candQ
    rw [(cand2_iff hg hlt).2 ⟨by omega, duo_bi hg h⟩, Bool.or_true]
  obtain ⟨y, hy1, hy2⟩ := mx_above hlen (c := candQ g) 8 (duo a b) (by omega) hlt hc
  exact ⟨y, mem_blocks.2 hy1, subS_iff.1 hy2 a (duo_bit.2 (.inl rfl)), subS_iff.1 hy2 b (duo_bit.2 (.inr rfl))⟩

theorem both_edge {g : List Nat} (hg : GrN g) {a b : Nat} (h : adj g a b = true) : bothN g (blocksP g) a b = 1 := by
  have hab : a ≠ b := by rintro rfl; rw [hg.irr] at h; cases h
  have h1 := both_le hg hab
  obtain ⟨S, h2, h3, h4⟩ := edge_block hg h
  have h5 : 0 < bothN g (blocksP g) a b := List.countP_pos_iff.2 ⟨S, h2, by rw [h3, h4]; rfl⟩
  omega

/-- A way within a set without one end of an edge does not use the edge. -/
theorem Rch.del {g : List Nat} (hg : GrN g) {a b W s t : Nat} (hab : adj g a b = true) (hz : W.testBit a = false ∨ W.testBit b = false) (hs : W.testBit s = true) (hW : W < 2 ^ g.length) (h : Rch g W s t) : Rch (delE g a b) (allN g) s t := by
  obtain ⟨ha, hb⟩ := hg.adj_lt hab
  have hne : a ≠ b := by rintro rfl; rw [hg.irr] at hab; cases hab
  induction h with
  | base => exact .base
  | @step x y hx hxy hy ih =>
    refine .step ih ?_ (by rw [allN_bit, decide_eq_true (bit_lt hW hy)])
    have hxW := hx.mem hs
    rw [adj_delE ha hb hne, hxy, Bool.true_and, Bool.not_eq_true', Bool.or_eq_false_iff, decide_eq_false_iff_not, decide_eq_false_iff_not]
    constructor
    · rintro ⟨rfl, rfl⟩
      rcases hz with h | h
      · rw [hxW] at h; cases h
      · rw [hy] at h; cases h
    · rintro ⟨rfl, rfl⟩
      rcases hz with h | h
      · rw [hy] at h; cases h
      · rw [hxW] at h; cases h

theorem round_ear {g : List Nat} (hg : GrN g) {a b x : Nat} (hab : adj g a b = true) (h : Rch (delE g a b) (allN g) a x) : x = a ∨ ∃ u, adj g a u = true ∧ u ≠ b ∧ Rch g (without (allN g) (2 ^ a)) u x := by
  obtain ⟨ha, hb⟩ := hg.adj_lt hab
  have hne : a ≠ b := by rintro rfl; rw [hg.irr] at hab; cases hab
  induction h with
  | base => exact .inl rfl
  | @step x y hx hxy hy ih =>
    rw [adj_delE ha hb hne, Bool.and_eq_true, Bool.not_eq_true', Bool.or_eq_false_iff, decide_eq_false_iff_not, decide_eq_false_iff_not] at hxy
    obtain ⟨h1, h2, h3⟩ := hxy
    by_cases hya : y = a
    · exact .inl hya
    · refine .inr ?_
      rcases ih with rfl | ⟨u, h4, h5, h6⟩
      · exact ⟨y, h1, fun e => h2 ⟨rfl, e⟩, .base⟩
      · exact ⟨u, h4, h5, .step h6 h1 (bit_del.2 ⟨hy, hya⟩)⟩

theorem round_iff {g : List Nat} (hg : GrN g) {a b : Nat} (ha : a < g.length) : roundQ g a b = true ↔ Rch (delE g a b) (allN g) a b := by
  have hlen := hg.len
  have hpow := hg.pow
  have := allN_lt g
  unfold roundQ
  exact rch_bit (by omega) (by omega)

/-- A block of two nodes is a bridge, and a bridge is one. -/
theorem duo_bridge {g : List Nat} (hg : GrN g) {a b : Nat} (hba : b < a) (ha : a < g.length) : duo a b ∈ blocksP g ↔ (b, a) ∈ bridgesP g := by
  have hlen := hg.len
  have hpow := hg.pow
  have hlt := duo_lt ha (show b < g.length by omega)
  have hp := duo_pop (a := a) (b := b) (by omega) (by omega) (by omega)
  unfold bridgesP
  rw [List.mem_filter, mem_edges]
  constructor
  · intro h
    rcases block_two hg h with ⟨w, hw, _, he⟩ | ⟨_, h1, h2, h3⟩
    · rw [he, pop_two w (by omega)] at hp; omega
    · obtain ⟨u, hu1, hu2, _⟩ := (h1.conn (by omega) b a (duo_bit.2 (.inr rfl)) (duo_bit.2 (.inl rfl))).next (by omega)
      have hu : u = a := by
        rcases duo_bit.1 hu2 with h | h
        · exact h
        · subst h; rw [hg.irr] at hu1; cases hu1
      subst hu
      refine ⟨⟨hba, ha, hu1⟩, ?_⟩
      rw [Bool.not_eq_true', Bool.eq_false_iff]
      intro hr
      rcases round_ear hg hu1 ((round_iff hg (by omega)).1 hr) with h4 | ⟨x, h4, h5, h6⟩
      · omega
      · obtain ⟨S, s1, s2, s3, s4⟩ := ear_bi hg hlt h1 (duo_bit.2 (.inr rfl)) h4 h6 (duo_bit.2 (.inl rfl)) (by omega)
        have := h3 S s1 s2 s3
        subst this
        rcases duo_bit.1 s4 with h7 | h7
        · exact h5 h7
        · subst h7; rw [hg.irr] at h4; cases h4
  · rintro ⟨⟨_, _, hadj⟩, hr⟩
    rw [Bool.not_eq_true'] at hr
    have hadj' : adj g b a = true := hadj
    refine mem_blocks.2 ⟨hlt, ?_, fun x hx hcx hsub => ?_⟩
    · unfold candQ
      rw [(cand2_iff hg hlt).2 ⟨by omega, duo_bi hg (by rw [hg.sym]; exact hadj')⟩, Bool.or_true]
    · have hsub' := subS_iff.1 hsub
      have hxa := hsub' a (duo_bit.2 (.inl rfl))
      have hxb := hsub' b (duo_bit.2 (.inr rfl))
      have hpx : 1 < pop x := by have := pop_le_of hsub'; omega
      have hbx : Bi g x := by
        unfold candQ loneQ at hcx
        rw [decide_eq_false (show ¬ pop x = 1 by omega), Bool.false_and, Bool.false_or] at hcx
        exact ((cand2_iff hg hx).1 hcx).2
      refine Nat.eq_of_testBit_eq fun i => ?_
      rw [Bool.eq_iff_iff, duo_bit]
      refine ⟨fun hi => Classical.byContradiction fun hc => ?_, fun h => h.elim (fun e => by rw [e]; exact hxa) fun e => by rw [e]; exact hxb⟩
      have hia : i ≠ a := fun e => hc (.inl e)
      have hib : i ≠ b := fun e => hc (.inr e)
      have r1 := (hbx a b i (bit_del.2 ⟨hxb, by omega⟩) (bit_del.2 ⟨hi, hia⟩)).del hg hadj' (.inr (by rw [Bool.eq_false_iff]; intro h; exact (bit_del.1 h).2 rfl)) (bit_del.2 ⟨hxb, by omega⟩) (without_le _ _ hx)
      have r2 := (hbx b i a (bit_del.2 ⟨hi, hib⟩) (bit_del.2 ⟨hxa, by omega⟩)).del hg hadj' (.inl (by rw [Bool.eq_false_iff]; intro h; exact (bit_del.1 h).2 rfl)) (bit_del.2 ⟨hi, hib⟩) (without_le _ _ hx)
      have := (round_iff hg (show b < g.length by omega)).2 (r1.trans r2)
      rw [this] at hr
      cases hr

/-- Where two blocks meet there is a cut node. -/
theorem meet_cut {g : List Nat} (hg : GrN g) {A B v : Nat} (hA : A ∈ blocksP g) (hB : B ∈ blocksP g) (hne : A ≠ B) (hv : A.testBit v = true) (hv' : B.testBit v = true) : (cutsP g (allN g)).testBit v = true := by
  have hlen := hg.len
  have hpow := hg.pow
  have hall := allN_lt g
  have hone : ∀ S w, S = 2 ^ w → S.testBit v = true → S = 2 ^ v := by
    rintro S w rfl h
    rw [Nat.testBit_two_pow, decide_eq_true_iff] at h
    rw [h]
  have hlone : ∀ S T, S ∈ blocksP g → T ∈ blocksP g → (∃ w, w < g.length ∧ nb g w = 0 ∧ S = 2 ^ w) → S.testBit v = true → T.testBit v = true → S = T := by
    rintro S T hS hT ⟨w, hw, h0, rfl⟩ h1 h2
    rw [Nat.testBit_two_pow, decide_eq_true_iff] at h1
    subst h1
    rcases block_two hg hT with ⟨w', hw', h0', rfl⟩ | ⟨t1, t2, t3, _⟩
    · rw [Nat.testBit_two_pow, decide_eq_true_iff] at h2; rw [h2]
    · exact (lone_max hg hw t3 h0 ((conn_iff hg t3).2 (t2.conn (by omega))) h2).symm
  rcases block_two hg hA with h | ⟨a0, a1, a2, a3⟩
  · exact absurd (hlone A B hA hB h hv hv') hne
  rcases block_two hg hB with h | ⟨b0, b1, b2, b3⟩
  · exact absurd (hlone B A hB hA h hv' hv) (fun e => hne e.symm)
  rw [cutsP_bit (by omega)]
  have hvn := bit_lt a2 hv
  refine ⟨by rw [allN_bit, decide_eq_true hvn], ?_⟩
  unfold cutQ
  rw [Bool.not_eq_true', Bool.eq_false_iff]
  intro hc
  have hrl := rch_ltn hg.toGrB hvn hall
  have hcn := (conn_iff hg (without_le _ (2 ^ v) hrl)).1 hc
  -- a neighbour in the other block
  obtain ⟨c, hc1, hc2⟩ := exists_other1 (a := v) (by omega) b0
  obtain ⟨u, hu1, hu2, _⟩ := (b1.conn (by omega) v c hv' hc1).next hc2
  have huv : u ≠ v := by rintro rfl; rw [hg.irr] at hu1; cases hu1
  obtain ⟨a, ha1, ha2⟩ := exists_other1 (a := v) (by omega) a0
  have hsub : ∀ S, S < 2 ^ g.length → ∀ i, S.testBit i = true → (allN g).testBit i = true := fun S hS i hi => by rw [allN_bit, decide_eq_true (bit_lt hS hi)]
  have hra : (without (rch g (allN g) v) (2 ^ v)).testBit a = true := bit_del.2 ⟨(rch_bit (by omega) (by omega)).2 ((a1.conn (by omega) v a hv ha1).mono (hsub A a2)), ha2⟩
  have hru : (without (rch g (allN g) v) (2 ^ v)).testBit u = true := bit_del.2 ⟨(rch_bit (by omega) (by omega)).2 (Rch.one hu1 (hsub B b2 u hu2)), huv⟩
  have hua : Rch g (without (allN g) (2 ^ v)) u a := (hcn u a hru hra).mono fun i hi => by
    obtain ⟨h1, h2⟩ := bit_del.1 hi
    exact bit_del.2 ⟨by rw [allN_bit, decide_eq_true (bit_lt hrl h1)], h2⟩
  obtain ⟨S, s1, s2, s3, s4⟩ := ear_bi hg a2 a1 hv hu1 hua ha1 ha2
  have := a3 S s1 s2 s3
  subst this
  exact hne (blocks_meet hg hA hB huv s4 hu2 hv hv')

end Go.AM
