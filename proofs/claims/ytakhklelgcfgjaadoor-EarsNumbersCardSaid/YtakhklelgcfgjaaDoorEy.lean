/- One-way streets, plain: from one node to all and back is the same as from each to each. -/
import Derived.Test.YtakhklelgcfgjaaDoorEx
namespace Go.AM
open Go.Proofs

theorem fold_adj (f : Int × Int → Nat × Nat) {u v : Nat} : ∀ (L : List (Int × Int)) (g : List Nat), (∀ x ∈ L, (f x).1 < g.length) →
    (adj (L.foldl (fun g x => addA g (f x).1 (f x).2) g) u v = true ↔ adj g u v = true ∨ ∃ x ∈ L, f x = (u, v)) := by
  intro L
  induction L with
  | nil => intro g _; simp
  | cons x L ih =>
    intro g hx
    have hx1 := hx x (List.mem_cons_self ..)
    rw [List.foldl_cons, ih _ (fun y hy => by rw [addA_len]; exact hx y (List.mem_cons_of_mem _ hy)), adj_addA hx1]
    simp only [Bool.or_eq_true, decide_eq_true_eq, List.mem_cons]
    constructor
    · rintro ((h | ⟨h1, h2⟩) | ⟨y, hy, h⟩)
      · exact .inl h
      · exact .inr ⟨x, .inl rfl, by rw [h1, h2]⟩
      · exact .inr ⟨y, .inr hy, h⟩
    · rintro (h | ⟨y, rfl | hy, h⟩)
      · exact .inl (.inl h)
      · exact .inl (.inr ⟨by rw [h], by rw [h]⟩)
      · exact .inr ⟨y, hy, h⟩

theorem okZ_get {E : List (Nat × Nat)} {L : List (Int × Int)} (hl : L.length = E.length) (h : okZ E L = true) {i : Nat} {x : Int × Int} (hx : L[i]? = some x) : ∃ e, E[i]? = some e ∧ mtE e x = true := by
  have hi := (List.getElem?_eq_some_iff.1 hx).1
  have he := List.getElem?_eq_getElem (show i < E.length by omega)
  refine ⟨_, he, ?_⟩
  unfold okZ at h
  rw [List.all_eq_true] at h
  exact h (E[i], x) (List.mem_of_getElem? (i := i) (List.getElem?_zip_eq_some.2 ⟨he, hx⟩))

theorem okZ_nat {g : List Nat} {L : List (Int × Int)} (hl : L.length = (edgesP g).length) (h : okZ (edgesP g) L = true) {x : Int × Int} (hx : x ∈ L) : ∃ a c : Nat, x = ((a : Int), (c : Int)) ∧ a < g.length ∧ c < g.length := by
  obtain ⟨i, hi, rfl⟩ := List.getElem_of_mem hx
  obtain ⟨e, he, hm⟩ := okZ_get hl h (List.getElem?_eq_getElem hi)
  obtain ⟨h1, h2, _⟩ := mem_edges.1 (List.mem_of_getElem? he)
  obtain ⟨a, c, h3, h4⟩ := mtE_nat hm
  exact ⟨a, c, h3, by omega, by omega⟩

theorem adj_ahead {g : List Nat} {L : List (Int × Int)} (hl : L.length = (edgesP g).length) (h : okZ (edgesP g) L = true) {u v : Nat} : adj (aheadP g.length L) u v = true ↔ ((u : Int), (v : Int)) ∈ L := by
  have := fold_adj (fun x => (x.1.toNat, x.2.toNat)) (u := u) (v := v) L (List.replicate g.length 0) (fun x hx => by obtain ⟨a, c, rfl, h1, _⟩ := okZ_nat hl h hx; simpa using h1)
  unfold aheadP
  rw [this, adj_zero]
  constructor
  · rintro (h | ⟨x, hx, h3⟩)
    · cases h
    · obtain ⟨a, c, rfl, h1, _⟩ := okZ_nat hl h hx
      simp only [Int.toNat_natCast, Prod.mk.injEq] at h3
      rw [← h3.1, ← h3.2]; exact hx
  · exact fun hx => .inr ⟨_, hx, by simp⟩

theorem adj_back {g : List Nat} {L : List (Int × Int)} (hl : L.length = (edgesP g).length) (h : okZ (edgesP g) L = true) {u v : Nat} : adj (backP g.length L) u v = true ↔ ((v : Int), (u : Int)) ∈ L := by
  have := fold_adj (fun x => (x.2.toNat, x.1.toNat)) (u := u) (v := v) L (List.replicate g.length 0) (fun x hx => by obtain ⟨a, c, rfl, _, h1⟩ := okZ_nat hl h hx; simpa using h1)
  unfold backP
  rw [this, adj_zero]
  constructor
  · rintro (h | ⟨x, hx, h3⟩)
    · cases h
    · obtain ⟨a, c, rfl, h1, _⟩ := okZ_nat hl h hx
      simp only [Int.toNat_natCast, Prod.mk.injEq] at h3
      rw [← h3.1, ← h3.2]; exact hx
  · exact fun hx => .inr ⟨_, hx, by simp⟩

theorem rch_full {A : List Nat} {W v : Nat} (hW : W < 1024) (hv : W.testBit v = true) : rch A W v = W ↔ ∀ u, W.testBit u = true → Rch A W v u := by
  have hv10 : v < 10 := bit_lt (n := 10) hW hv
  constructor
  · intro h u hu
    rw [← h] at hu
    exact (rch_bit hv10 hW).1 hu
  · intro h
    refine set_ext (n := 10) (rch_lt _ _ _) hW fun i _ => ?_
    rw [Bool.eq_iff_iff, rch_bit hv10 hW]
    exact ⟨fun hr => hr.mem hv, h i⟩

theorem Rch.flip {A B : List Nat} (hab : ∀ u v, adj A u v = true → adj B v u = true) {W a b : Nat} (h : Rch A W a b) (ha : W.testBit a = true) : Rch B W b a := by
  induction h with
  | base => exact .base
  | step h1 h2 h3 ih => exact (Rch.one (hab _ _ h2) (h1.mem ha)).trans ih

theorem all_bit0 {g : List Nat} (hg : GrN g) : (allN g).testBit 0 = true := by rw [allN_bit]; exact decide_eq_true hg.pos

theorem allN_lt10 {g : List Nat} (hg : GrN g) : allN g < 1024 := Nat.lt_of_lt_of_le (allN_lt g) hg.pow

theorem okR_iff {g : List Nat} {L : List (Int × Int)} (hg : GrN g) : okR g L = true ↔ L.length = (edgesP g).length ∧ okZ (edgesP g) L = true ∧ Conn (aheadP g.length L) (allN g) := by
  unfold okR
  rw [Bool.and_eq_true, Bool.and_eq_true, decide_eq_true_iff, List.all_eq_true, and_assoc]
  refine and_congr_right fun hl => and_congr_right fun hz => ?_
  constructor
  · intro h a b ha hb
    rw [allN_bit, decide_eq_true_iff] at ha
    have := h a (List.mem_range.2 ha)
    exact (rch_full (allN_lt10 hg) (by rw [allN_bit]; exact decide_eq_true ha)).1 (of_decide_eq_true this) b hb
  · intro h a ha
    have ha' : (allN g).testBit a = true := by rw [allN_bit]; exact decide_eq_true (List.mem_range.1 ha)
    exact decide_eq_true ((rch_full (allN_lt10 hg) ha').2 fun u hu => h a u ha' hu)

theorem okC_iff {g : List Nat} {L : List (Int × Int)} (hg : GrN g) : okC g L = true ↔ L.length = (edgesP g).length ∧ okZ (edgesP g) L = true ∧ Conn (aheadP g.length L) (allN g) := by
  unfold okC
  rw [Bool.and_eq_true, Bool.and_eq_true, Bool.and_eq_true, decide_eq_true_iff, decide_eq_true_iff, decide_eq_true_iff, and_assoc, and_assoc]
  refine and_congr_right fun hl => and_congr_right fun hz => ?_
  have h0 := all_bit0 hg
  rw [rch_full (allN_lt10 hg) h0, rch_full (allN_lt10 hg) h0]
  have hf : ∀ u v, adj (backP g.length L) u v = true → adj (aheadP g.length L) v u = true := fun u v h => (adj_ahead hl hz).2 ((adj_back hl hz).1 h)
  have hb : ∀ u v, adj (aheadP g.length L) u v = true → adj (backP g.length L) v u = true := fun u v h => (adj_back hl hz).2 ((adj_ahead hl hz).1 h)
  constructor
  · rintro ⟨h1, h2⟩ a b ha hb'
    exact ((h2 a ha).flip hf h0).trans (h1 b hb')
  · exact fun h => ⟨fun u hu => h 0 u h0 hu, fun u hu => (h u 0 hu h0).flip hb hu⟩

theorem okC_eq {g : List Nat} (hg : GrN g) (L : List (Int × Int)) : okC g L = okR g L := by rw [Bool.eq_iff_iff, okC_iff hg, okR_iff hg]

end Go.AM
