/- PLAIN: connected sets, sets without cut nodes, how many ends of edges there are. -/
import Derived.Test.YtakhklelgcfgjaaDoorEl
namespace Go.AM
open Go.Proofs

/-! ### Reaching -/

theorem Rch.trans {g : List Nat} {W a b c : Nat} (h1 : Rch g W a b) (h2 : Rch g W b c) : Rch g W a c := by
  induction h2 with
  | base => exact h1
  | step _ hab hb ih => exact .step ih hab hb

theorem Rch.mem {g : List Nat} {W a b : Nat} (h : Rch g W a b) (ha : W.testBit a = true) : W.testBit b = true := by
  cases h with
  | base => exact ha
  | step _ _ hb => exact hb

theorem Rch.one {g : List Nat} {W a b : Nat} (h : adj g a b = true) (hb : W.testBit b = true) : Rch g W a b := .step .base h hb

theorem Rch.sym {g : List Nat} (hs : ∀ a b, adj g a b = adj g b a) {W a b : Nat} (h : Rch g W a b) (ha : W.testBit a = true) : Rch g W b a := by
  induction h with
  | base => exact .base
  | @step x y hx hxy hy ih => exact (Rch.one (by rw [hs]; exact hxy) (hx.mem ha)).trans ih

theorem Rch.mono {g : List Nat} {W W' a b : Nat} (h : Rch g W a b) (hs : ∀ i, W.testBit i = true → W'.testBit i = true) : Rch g W' a b := by
  induction h with
  | base => exact .base
  | step _ hab hb ih => exact .step ih hab (hs _ hb)

/-- A set all of whose nodes reach each other within it. -/
def Conn (g : List Nat) (S : Nat) : Prop := ∀ a b, S.testBit a = true → S.testBit b = true → Rch g S a b

theorem conn_iff {g : List Nat} (hg : GrN g) {S : Nat} (hS : S < 2 ^ g.length) : connS g S = true ↔ Conn g S := by
  have hpow := hg.pow
  have hlen := hg.len
  have hS' : S < 1024 := by omega
  unfold connS
  by_cases h0 : S = 0
  · subst h0
    simp only [decide_true, Bool.true_or, true_iff]
    intro a b ha
    simp at ha
  · have hl := low_lt hg.toGrB hS h0
    have hlb := low_bit (Nat.pos_of_ne_zero h0) hS'
    rw [decide_eq_false h0, Bool.false_or, decide_eq_true_iff]
    constructor
    · intro h a b ha hb
      have h1 : ∀ i, S.testBit i = true → Rch g S (low S) i := fun i hi => (rch_bit (by omega) hS').1 (by rw [h]; exact hi)
      exact ((h1 a ha).sym hg.sym hlb).trans (h1 b hb)
    · intro h
      refine (rch_eq (by omega) hS' hS' hlb (fun u hu => h _ _ hlb hu) fun a b _ _ hb => hb).symm

/-- A set of which any node may be taken away. -/
def Bi (g : List Nat) (S : Nat) : Prop := ∀ w, Conn g (without S (2 ^ w))

theorem bit_del {S w i : Nat} : (without S (2 ^ w)).testBit i = true ↔ S.testBit i = true ∧ i ≠ w := by
  rw [testBit_without, Nat.testBit_two_pow, Bool.and_eq_true, Bool.not_eq_true', decide_eq_false_iff_not]
  exact ⟨fun h => ⟨h.1, fun e => h.2 e.symm⟩, fun h => ⟨h.1, fun e => h.2 e.symm⟩⟩

theorem del_none {S w : Nat} (h : S.testBit w = false) : without S (2 ^ w) = S := by
  refine Nat.eq_of_testBit_eq fun i => ?_
  rw [Bool.eq_iff_iff, bit_del]
  exact ⟨And.left, fun hi => ⟨hi, fun e => by subst e; rw [h] at hi; cases hi⟩⟩

theorem Bi.conn {g : List Nat} {S : Nat} (hS : S < 1024) (h : Bi g S) : Conn g S := by
  have := h 10
  rwa [del_none (big_bit (n := 10) hS (Nat.le_refl _))] at this

theorem cand2_iff {g : List Nat} (hg : GrN g) {S : Nat} (hS : S < 2 ^ g.length) : cand2 g S = true ↔ 1 < pop S ∧ Bi g S := by
  have hpow := hg.pow
  have hlen := hg.len
  have hS' : S < 1024 := by omega
  unfold cand2
  simp only [Bool.and_eq_true, decide_eq_true_iff]
  have hrch : Conn g S → ∀ v, S.testBit v = true → rch g S v = S := fun hc v hv =>
    (rch_eq (by have := bit_lt hS hv; omega) hS' hS' hv (fun u hu => hc _ _ hv hu) fun a b _ _ hb => hb).symm
  have hcut : Conn g S → (cutsP g S = 0 ↔ ∀ v, S.testBit v = true → Conn g (without S (2 ^ v))) := by
    intro hc
    constructor
    · intro h v hv
      have h1 : ¬ (cutsP g S).testBit v = true := by rw [h]; simp
      rw [cutsP_bit hS'] at h1
      have h2 : cutQ g S v = false := by
        cases hq : cutQ g S v with
        | false => rfl
        | true => exact absurd ⟨hv, hq⟩ h1
      unfold cutQ at h2
      rw [hrch hc v hv, Bool.not_eq_false'] at h2
      exact (conn_iff hg (without_le _ _ hS)).1 h2
    · intro h
      refine Nat.eq_of_testBit_eq fun v => ?_
      rw [Nat.zero_testBit, Bool.eq_false_iff]
      intro hb
      obtain ⟨hv, hq⟩ := (cutsP_bit hS').1 hb
      unfold cutQ at hq
      rw [hrch hc v hv, (conn_iff hg (without_le _ _ hS)).2 (h v hv)] at hq
      cases hq
  constructor
  · rintro ⟨⟨h1, h2⟩, h3⟩
    have hc := (conn_iff hg hS).1 h2
    refine ⟨h1, fun w => ?_⟩
    cases hw : S.testBit w with
    | false => rw [del_none hw]; exact hc
    | true => exact (hcut hc).1 h3 w hw
  · rintro ⟨h1, h2⟩
    have hc := h2.conn hS'
    exact ⟨⟨h1, (conn_iff hg hS).2 hc⟩, (hcut hc).2 fun v _ => h2 v⟩

/-! ### Ends of edges -/

theorem elts_n {b n : Nat} (hn : n ≤ 10) (hb : b < 2 ^ n) : elts b = (List.range n).filter fun i => b.testBit i := by
  unfold elts
  rw [show 10 = n + (10 - n) by omega, List.range_add, List.filter_append]
  have : (((List.range (10 - n)).map (n + ·)).filter fun i => b.testBit i) = [] := by
    rw [List.filter_eq_nil_iff]
    intro x hx
    obtain ⟨y, _, rfl⟩ := List.mem_map.1 hx
    rw [big_bit hb (by omega)]
    simp
  rw [this, List.append_nil]

/-- How many ends of edges lie in a set. -/
def ends (g : List Nat) (b : Nat) : Nat := foldI (fun _ v s => s + pop (nb g v &&& b)) (elts b) 0 0

theorem foldI_if {α : Type} {p : α → Bool} {f : α → Nat} : ∀ (l : List α) (i j s : Nat), foldI (fun _ x (s : Nat) => if p x = true then s + f x else s) l i s = foldI (fun _ x (s : Nat) => s + f x) (l.filter p) j s := by
  intro l
  induction l with
  | nil => intro i j s; rfl
  | cons x l ih =>
    intro i j s
    simp only [foldI, List.filter_cons]
    cases hp : p x with
    | false =>
      simp only [Bool.false_eq_true, if_false]
      exact ih _ _ _
    | true => simp only [if_true, foldI]; exact ih _ _ _

theorem foldI_sum {α : Type} {f : α → Nat} : ∀ (l : List α) (i s : Nat), foldI (fun _ x (s : Nat) => s + f x) l i s = s + (l.map f).sum := by
  intro l
  induction l with
  | nil => intro i s; simp [foldI]
  | cons x l ih => intro i s; simp only [foldI, List.map_cons, List.sum_cons]; rw [ih]; omega

theorem pop_and (a b : Nat) : pop (a &&& b) = (elts b).countP fun i => a.testBit i := by
  unfold pop elts
  rw [List.countP_filter]
  refine List.countP_congr fun i _ => ?_
  rw [Nat.testBit_and]

theorem ends_eq (g : List Nat) (b : Nat) : ends g b = ((elts b).map fun v => (elts b).countP (adj g v)).sum := by
  unfold ends
  rw [foldI_sum, Nat.zero_add]
  congr 1
  refine List.map_congr_left fun v _ => ?_
  rw [pop_and]
  rfl

theorem ends_even_aux {r : Nat → Nat → Bool} (hi : ∀ a, r a a = false) (hs : ∀ a b, r a b = r b a) : ∀ l : List Nat, ∃ k, (l.map fun v => l.countP (r v)).sum = 2 * k := by
  intro l
  induction l with
  | nil => exact ⟨0, rfl⟩
  | cons x l ih =>
    obtain ⟨k, hk⟩ := ih
    have h1 : ∀ m : List Nat, (m.map fun v => (x :: l).countP (r v)).sum = m.countP (r x) + (m.map fun v => l.countP (r v)).sum := by
      intro m
      induction m with
      | nil => simp
      | cons y m ihm =>
        rw [List.map_cons, List.sum_cons, ihm, List.map_cons, List.sum_cons, List.countP_cons, List.countP_cons, hs x y]
        omega
    refine ⟨l.countP (r x) + k, ?_⟩
    rw [List.map_cons, List.sum_cons, h1, hk, List.countP_cons, hi]
    simp
    omega

theorem ends_even {g : List Nat} (hg : GrN g) (b : Nat) : ∃ k, ends g b = 2 * k := by
  rw [ends_eq]
  exact ends_even_aux hg.irr hg.sym _

theorem sum_ge {α : Type} {f : α → Nat} {m : Nat} : ∀ (l : List α), (∀ x ∈ l, m ≤ f x) → m * l.length ≤ (l.map f).sum := by
  intro l
  induction l with
  | nil => intro _; simp
  | cons x l ih =>
    intro h
    have h1 := h x List.mem_cons_self
    have h2 := ih fun y hy => h y (List.mem_cons_of_mem _ hy)
    rw [List.map_cons, List.sum_cons, List.length_cons, Nat.mul_add]
    omega

/-- A node more than some few. -/
theorem exists_other {S a b : Nat} (hS : S < 1024) (h : 2 < pop S) : ∃ c, S.testBit c = true ∧ c ≠ a ∧ c ≠ b := by
  refine Classical.byContradiction fun hc => ?_
  have hall : ∀ c, S.testBit c = true → c = a ∨ c = b := fun c hcb => Classical.byContradiction fun hh => hc ⟨c, hcb, fun e => hh (.inl e), fun e => hh (.inr e)⟩
  have hlen := elts_len S
  have hnd := elts_nodup S
  have hm : ∀ c ∈ elts S, c = a ∨ c = b := fun c h => hall c ((mem_elts hS).1 h)
  rw [← hlen] at h
  match hE : elts S with
  | [] => rw [hE] at h; simp at h
  | [x] => rw [hE] at h; simp at h
  | [x, y] => rw [hE] at h; simp at h
  | x :: y :: z :: l =>
    rw [hE] at hm hnd
    have h1 := hm x (by simp)
    have h2 := hm y (by simp)
    have h3 := hm z (by simp)
    simp only [List.nodup_cons, List.mem_cons, not_or] at hnd
    omega

theorem exists_other1 {S a : Nat} (hS : S < 1024) (h : 1 < pop S) : ∃ c, S.testBit c = true ∧ c ≠ a := by
  refine Classical.byContradiction fun hc => ?_
  have hall : ∀ c, S.testBit c = true → c = a := fun c hcb => Classical.byContradiction fun hh => hc ⟨c, hcb, hh⟩
  have hlen := elts_len S
  have hnd := elts_nodup S
  have hm : ∀ c ∈ elts S, c = a := fun c h => hall c ((mem_elts hS).1 h)
  rw [← hlen] at h
  match hE : elts S with
  | [] => rw [hE] at h; simp at h
  | [x] => rw [hE] at h; simp at h
  | x :: y :: l =>
    rw [hE] at hm hnd
    have h1 := hm x (by simp)
    have h2 := hm y (by simp)
    simp only [List.nodup_cons, List.mem_cons, not_or] at hnd
    omega

/-- Who reaches another node has a neighbour. -/
theorem Rch.next {g : List Nat} {W a b : Nat} (h : Rch g W a b) (hne : b ≠ a) : ∃ u, adj g a u = true ∧ W.testBit u = true ∧ Rch g W u b := by
  induction h with
  | base => exact absurd rfl hne
  | @step x y hx hxy hy ih =>
    by_cases hxa : x = a
    · subst hxa
      exact ⟨y, hxy, hy, .base⟩
    · obtain ⟨u, h1, h2, h3⟩ := ih hxa
      exact ⟨u, h1, h2, .step h3 hxy hy⟩

/-- In a set of more than two without cut nodes everyone has two neighbours. -/
theorem deg_two {g : List Nat} {S v : Nat} (hS : S < 1024) (hp : 2 < pop S) (hb : Bi g S) (hirr : ∀ a, adj g a a = false) (hv : S.testBit v = true) : 2 ≤ (elts S).countP (adj g v) := by
  obtain ⟨c, hc1, hc2⟩ := exists_other1 (a := v) hS (by omega)
  obtain ⟨u, hu1, hu2, _⟩ := (hb.conn hS v c hv hc1).next hc2
  have huv : u ≠ v := by rintro rfl; rw [hirr] at hu1; cases hu1
  obtain ⟨d, hd1, hd2, hd3⟩ := exists_other (a := v) (b := u) hS hp
  obtain ⟨x, hx1, hx2, _⟩ := (hb u v d (bit_del.2 ⟨hv, fun e => huv e.symm⟩) (bit_del.2 ⟨hd1, hd3⟩)).next hd2
  obtain ⟨hx3, hx4⟩ := bit_del.1 hx2
  have hmu : u ∈ (elts S).filter (adj g v) := List.mem_filter.2 ⟨(mem_elts hS).2 hu2, hu1⟩
  have hmx : x ∈ (elts S).filter (adj g v) := List.mem_filter.2 ⟨(mem_elts hS).2 hx3, hx1⟩
  rw [List.countP_eq_length_filter]
  match hE : (elts S).filter (adj g v) with
  | [] => rw [hE] at hmu; cases hmu
  | [y] =>
    rw [hE] at hmu hmx
    simp at hmu hmx
    omega
  | y :: z :: l => simp

theorem ends_ge {g : List Nat} (hg : GrN g) {S : Nat} (hS : S < 1024) (hp : 2 < pop S) (hb : Bi g S) : 2 * pop S ≤ ends g S := by
  rw [ends_eq, ← elts_len]
  exact sum_ge _ fun v hv => deg_two hS hp hb hg.irr ((mem_elts hS).1 hv)

/-- A set of at most two nodes has at most as many ends. -/
theorem ends_le {g : List Nat} (hg : GrN g) {S : Nat} (hp : pop S ≤ 2) : ends g S ≤ 2 := by
  rw [ends_eq]
  rw [← elts_len] at hp
  match hE : elts S with
  | [] => simp
  | [x] => simp [List.countP_cons, hg.irr]
  | [x, y] =>
    simp [List.countP_cons, hg.irr, hg.sym y x]
    split <;> omega
  | x :: y :: z :: l => rw [hE] at hp; simp at hp

/-! ### Cactus -/

/-- A block that is no cycle. -/
def fatQ (g : List Nat) (b : Nat) : Bool := decide (2 < pop b) && decide (ends g b ≠ 2 * pop b)

/-- The document's test of a block, and that of the law. -/
theorem fat_doc {g : List Nat} (hg : GrN g) {b : Nat} (hb : b ∈ blocksP g) : fatQ g b = decide (pop b < ends g b / 2) := by
  have hpow := hg.pow
  obtain ⟨h1, h2, _⟩ := mem_blocks.1 hb
  obtain ⟨k, hk⟩ := ends_even hg b
  unfold fatQ
  by_cases hp : 2 < pop b
  · have h3 : 1 < pop b ∧ Bi g b := by
      unfold candQ loneQ at h2
      rw [decide_eq_false (show ¬ pop b = 1 by omega), Bool.false_and, Bool.false_or] at h2
      exact (cand2_iff hg h1).1 h2
    have h4 := ends_ge hg (by omega) hp h3.2
    rw [decide_eq_true hp, Bool.true_and, decide_eq_decide]
    omega
  · have h3 := ends_le hg (S := b) (by omega)
    rw [decide_eq_false hp, Bool.false_and]
    symm
    rw [decide_eq_false_iff_not]
    have h4 : 1 ≤ pop b := by
      refine Nat.pos_of_ne_zero fun e => ?_
      unfold candQ loneQ cand2 at h2
      simp [e] at h2
    omega

theorem fat_law {g : List Nat} (hg : GrN g) (b : Nat) : fatQ g b = !(decide (ends g b / 2 = pop b) || decide (pop b ≤ 2)) := by
  obtain ⟨k, hk⟩ := ends_even hg b
  unfold fatQ
  rw [Bool.eq_iff_iff]
  simp only [Bool.and_eq_true, decide_eq_true_iff, Bool.not_eq_true', Bool.or_eq_false_iff, decide_eq_false_iff_not]
  omega

end Go.AM
