/- PLAIN: renaming the nodes of a graph. -/
import Derived.Test.YtakhklelgcfgjaaDoorEq
namespace Go.AM
open Go.Proofs

/-- The nodes of one graph as those of another one. -/
structure Iso (g h : List Nat) (f f' : Nat → Nat) : Prop where
  len : h.length = g.length
  lt : ∀ i, i < g.length → f i < g.length
  lt' : ∀ i, i < g.length → f' i < g.length
  inv : ∀ i, i < g.length → f' (f i) = i
  inv' : ∀ i, i < g.length → f (f' i) = i
  adj : ∀ a b, a < g.length → b < g.length → AM.adj h (f a) (f b) = AM.adj g a b

theorem Iso.symm {g h : List Nat} {f f' : Nat → Nat} (s : Iso g h f f') : Iso h g f' f := by
  have hl := s.len
  refine ⟨hl.symm, fun i hi => by rw [hl] at hi ⊢; exact s.lt' i hi, fun i hi => by rw [hl] at hi ⊢; exact s.lt i hi, fun i hi => by rw [hl] at hi; exact s.inv' i hi, fun i hi => by rw [hl] at hi; exact s.inv i hi, fun a b ha hb => ?_⟩
  rw [hl] at ha hb
  rw [← s.adj _ _ (s.lt' a ha) (s.lt' b hb), s.inv' a ha, s.inv' b hb]

/-- The image of a set. -/
def img (n : Nat) (f' : Nat → Nat) (S : Nat) : Nat := mkS (fun j => S.testBit (f' j)) n

theorem img_lt (n : Nat) (f' : Nat → Nat) (S : Nat) : img n f' S < 2 ^ n := mkS_lt _ n

theorem cutsP_ltn {g : List Nat} (hg : GrB g) {S : Nat} (hS : S < 2 ^ g.length) : cutsP g S < 2 ^ g.length := by
  have hpow := hg.pow
  refine Nat.lt_pow_two_of_testBit _ fun i hi => ?_
  rw [Bool.eq_false_iff]
  intro hb
  have := bit_lt hS ((cutsP_bit (by omega)).1 hb).1
  omega

section
variable {g h : List Nat} {f f' : Nat → Nat} (s : Iso g h f f')
include s

theorem img_bit {S i : Nat} (hi : i < g.length) : (img g.length f' S).testBit (f i) = S.testBit i := by
  unfold img
  rw [mkS_bit, decide_eq_true (s.lt i hi), Bool.true_and, s.inv i hi]

theorem img_mem {S j : Nat} (hj : (img g.length f' S).testBit j = true) : ∃ i, i < g.length ∧ j = f i ∧ S.testBit i = true := by
  have hlt := bit_lt (img_lt _ _ _) hj
  unfold img at hj
  rw [mkS_bit, Bool.and_eq_true] at hj
  exact ⟨f' j, s.lt' j hlt, (s.inv' j hlt).symm, hj.2⟩

theorem img_eq {S T : Nat} (hT : T < 2 ^ g.length) (hb : ∀ i, i < g.length → T.testBit (f i) = S.testBit i) : T = img g.length f' S := by
  refine set_ext hT (img_lt _ _ _) fun j hj => ?_
  have := hb (f' j) (s.lt' j hj)
  rw [s.inv' j hj] at this
  rw [this]
  unfold img
  rw [mkS_bit, decide_eq_true hj, Bool.true_and]

theorem img_img {S : Nat} (hS : S < 2 ^ g.length) : img h.length f (img g.length f' S) = S := by
  symm
  refine img_eq s.symm (by rw [s.len]; exact hS) fun i hi => ?_
  rw [s.len] at hi
  unfold img
  rw [mkS_bit, decide_eq_true hi, Bool.true_and]

theorem img_del {S w : Nat} (hw : w < g.length) : without (img g.length f' S) (2 ^ f w) = img g.length f' (without S (2 ^ w)) := by
  refine img_eq s (without_le _ _ (img_lt _ _ _)) fun i hi => ?_
  rw [testBit_without, img_bit s hi, testBit_without, Nat.testBit_two_pow, Nat.testBit_two_pow]
  congr 2
  rw [decide_eq_decide]
  exact ⟨fun e => by rw [← s.inv w hw, ← s.inv i hi, e], fun e => by rw [e]⟩

theorem img_all : img g.length f' (allN g) = allN h := by
  symm
  refine img_eq s (by have := allN_lt h; rw [s.len] at this; exact this) fun i hi => ?_
  rw [allN_bit, allN_bit, s.len, decide_eq_true hi, decide_eq_true (s.lt i hi)]

theorem img_two {w : Nat} (hw : w < g.length) : img g.length f' (2 ^ w) = 2 ^ f w := by
  symm
  refine img_eq s (Nat.pow_lt_pow_right (by omega) (s.lt w hw)) fun i hi => ?_
  rw [Nat.testBit_two_pow, Nat.testBit_two_pow, decide_eq_decide]
  exact ⟨fun e => by rw [← s.inv w hw, ← s.inv i hi, e], fun e => by rw [e]⟩

theorem rch_img (hg : GrB g) {W a b : Nat} (ha : a < g.length) (hr : Rch g W a b) : b < g.length ∧ Rch h (img g.length f' W) (f a) (f b) := by
  induction hr with
  | base => exact ⟨ha, .base⟩
  | @step x y _ hxy hy ih =>
    obtain ⟨hx, hyl⟩ := hg.adj_lt hxy
    exact ⟨hyl, .step ih.2 (by rw [s.adj x y hx hyl]; exact hxy) (by rw [img_bit s hyl]; exact hy)⟩

theorem rch_img_iff (hg : GrB g) (hh : GrB h) {W a b : Nat} (hW : W < 2 ^ g.length) (ha : a < g.length) (hb : b < g.length) : Rch h (img g.length f' W) (f a) (f b) ↔ Rch g W a b := by
  refine ⟨fun hr => ?_, fun hr => (rch_img s hg ha hr).2⟩
  have := (rch_img s.symm hh (by rw [s.len]; exact s.lt a ha) hr).2
  rwa [img_img s hW, s.inv a ha, s.inv b hb] at this

theorem conn_img (hg : GrB g) {S : Nat} (hS : S < 2 ^ g.length) (hc : Conn g S) : Conn h (img g.length f' S) := by
  intro a b ha hb
  obtain ⟨a, h1, rfl, h2⟩ := img_mem s ha
  obtain ⟨b, h3, rfl, h4⟩ := img_mem s hb
  exact (rch_img s hg h1 (hc a b h2 h4)).2

theorem conn_img_iff (hg : GrN g) (hh : GrN h) {S : Nat} (hS : S < 2 ^ g.length) : connS h (img g.length f' S) = connS g S := by
  have h1 := img_lt g.length f' S
  rw [Bool.eq_iff_iff, conn_iff hg hS, conn_iff hh (by rw [s.len]; exact h1)]
  refine ⟨fun hc => ?_, conn_img s hg.toGrB hS⟩
  have := conn_img s.symm hh.toGrB (by rw [s.len]; exact h1) hc
  rwa [img_img s hS] at this

theorem bi_img (hg : GrN g) {S : Nat} (hS : S < 2 ^ g.length) (hb : Bi g S) : Bi h (img g.length f' S) := by
  intro w
  by_cases hw : w < g.length
  · have := conn_img s hg.toGrB (without_le _ _ hS) (hb (f' w))
    rw [← img_del s (s.lt' w hw), s.inv' w hw] at this
    exact this
  · rw [del_none (big_bit (img_lt _ _ _) (by omega))]
    exact conn_img s hg.toGrB hS (hb.conn (Nat.lt_of_lt_of_le hS hg.pow))

theorem more_img (hg : GrN g) {S : Nat} (hS : S < 2 ^ g.length) (hp : 1 < pop S) : 1 < pop (img g.length f' S) := by
  have hpow := hg.pow
  obtain ⟨a, ha, _⟩ := exists_other1 (S := S) (a := 10) (by omega) hp
  obtain ⟨b, hb, hne⟩ := exists_other1 (S := S) (a := a) (by omega) hp
  have ha' := bit_lt hS ha
  have hb' := bit_lt hS hb
  have h1 := img_bit s (S := S) ha'
  have h2 := img_bit s (S := S) hb'
  rw [ha] at h1
  rw [hb] at h2
  have hil := img_lt g.length f' S
  refine Classical.byContradiction fun hc => ?_
  have hcase : pop (img g.length f' S) = 0 ∨ pop (img g.length f' S) = 1 := by omega
  rcases hcase with h3 | h3
  · rw [pop_zero' (by omega) h3] at h1; simp at h1
  · rw [pop_one (by omega) h3, Nat.testBit_two_pow, decide_eq_true_iff] at h1 h2
    have := h1.symm.trans h2
    have h4 := s.inv a ha'
    rw [this, s.inv b hb'] at h4
    exact hne h4

theorem cand_img (hg : GrN g) (hh : GrN h) {S : Nat} (hS : S < 2 ^ g.length) (hc : candQ g S = true) : candQ h (img g.length f' S) = true := by
  have hpow := hg.pow
  have hlen := hg.len
  unfold candQ at hc ⊢
  rw [Bool.or_eq_true] at hc ⊢
  rcases hc with hc | hc
  · left
    unfold loneQ at hc ⊢
    simp only [Bool.and_eq_true, decide_eq_true_iff] at hc ⊢
    obtain ⟨h1, h2⟩ := hc
    have h3 := pop_one (by omega) h1
    have hl : low S < g.length := low_lt hg.toGrB hS (by rintro rfl; revert h1; decide)
    have hfl := s.lt _ hl
    have h4 : img g.length f' S = 2 ^ f (low S) := by
      conv => lhs; rw [h3]
      exact img_two s hl
    rw [h4, pop_two _ (by omega), low_two _ (by omega)]
    refine ⟨rfl, ?_⟩
    refine Nat.eq_of_testBit_eq fun j => ?_
    rw [Nat.zero_testBit, Bool.eq_false_iff]
    intro hj
    have hj' : AM.adj h (f (low S)) j = true := hj
    have hjl := (hh.adj_lt hj').2
    rw [s.len] at hjl
    rw [← s.inv' j hjl, s.adj _ _ hl (s.lt' j hjl)] at hj'
    unfold AM.adj at hj'
    rw [h2] at hj'
    simp at hj'
  · right
    obtain ⟨h1, h2⟩ := (cand2_iff hg hS).1 hc
    exact (cand2_iff hh (by rw [s.len]; exact img_lt _ _ _)).2 ⟨more_img s hg hS h1, bi_img s hg hS h2⟩

/-- A block's image is a block. -/
theorem block_img (hg : GrN g) (hh : GrN h) {S : Nat} (hS : S ∈ blocksP g) : img g.length f' S ∈ blocksP h := by
  obtain ⟨h1, h2, h3⟩ := mem_blocks.1 hS
  have hil := img_lt g.length f' S
  refine mem_blocks.2 ⟨by rw [s.len]; exact hil, cand_img s hg hh h1 h2, fun x hx hcx hsub => ?_⟩
  have h4 := cand_img s.symm hh hg hx hcx
  have h5 : img h.length f x = S := by
    refine h3 _ (by have := img_lt h.length f x; rw [s.len] at this ⊢; exact this) h4 (subS_iff.2 fun i hi => ?_)
    have hi' := bit_lt h1 hi
    have h6 := subS_iff.1 hsub (f i) (by rw [img_bit s hi']; exact hi)
    have h7 := img_bit s.symm (S := x) (i := f i) (by rw [s.len]; exact s.lt i hi')
    rw [s.inv i hi', h6] at h7
    exact h7
  have h8 := img_img s.symm hx
  rw [h5] at h8
  exact h8.symm

/-- Cut nodes are renamed. -/
theorem cuts_img (hg : GrN g) (hh : GrN h) : img g.length f' (cutsP g (allN g)) = cutsP h (allN h) := by
  have hlen := hg.len
  have hpow := hg.pow
  have hal := allN_lt g
  have hah := allN_lt h
  have hl := s.len
  symm
  refine img_eq s (by have := cutsP_ltn hh.toGrB hah; rw [s.len] at this; exact this) fun i hi => ?_
  have hfi := s.lt i hi
  rw [Bool.eq_iff_iff, cutsP_bit (by have := hh.pow; omega), cutsP_bit (by omega), allN_bit, allN_bit, s.len, decide_eq_true hi, decide_eq_true hfi]
  have hr : rch h (allN h) (f i) = img g.length f' (rch g (allN g) i) := by
    refine img_eq s (by have := rch_ltn hh.toGrB (v := f i) (by rw [s.len]; exact hfi) hah; rw [s.len] at this; exact this) fun j hj => ?_
    rw [Bool.eq_iff_iff, rch_bit (by omega) (by have := hh.pow; omega), rch_bit (by omega) (by omega), ← img_all s, rch_img_iff s hg.toGrB hh.toGrB hal hi hj]
  unfold cutQ
  rw [hr, img_del s hi, conn_img_iff s hg hh (without_le _ _ (rch_ltn hg.toGrB hi hal))]

theorem Iso.delE (hg : GrN g) (hh : GrN h) {a b : Nat} (ha : a < g.length) (hb : b < g.length) (hab : a ≠ b) : Iso (delE g a b) (AM.delE h (f a) (f b)) f f' := by
  have hl := s.len
  have hfab : f a ≠ f b := fun e => hab (by rw [← s.inv a ha, ← s.inv b hb, e])
  refine ⟨by rw [delE_len, delE_len]; exact hl, fun i hi => by rw [delE_len] at hi ⊢; exact s.lt i hi, fun i hi => by rw [delE_len] at hi ⊢; exact s.lt' i hi, fun i hi => by rw [delE_len] at hi; exact s.inv i hi, fun i hi => by rw [delE_len] at hi; exact s.inv' i hi, fun u v hu hv => ?_⟩
  rw [delE_len] at hu hv
  rw [adj_delE (by rw [hl]; exact s.lt a ha) (by rw [hl]; exact s.lt b hb) hfab, adj_delE ha hb hab, s.adj u v hu hv]
  have hi : ∀ x y, x < g.length → y < g.length → (f x = f y ↔ x = y) := fun x y hx hy => ⟨fun e => by rw [← s.inv x hx, ← s.inv y hy, e], fun e => by rw [e]⟩
  rw [decide_eq_decide.2 (and_congr (hi u a hu ha) (hi v b hv hb)), decide_eq_decide.2 (and_congr (hi u b hu hb) (hi v a hv ha))]

theorem round_img (hg : GrN g) (hh : GrN h) {a b : Nat} (ha : a < g.length) (hb : b < g.length) (hab : a ≠ b) : roundQ h (f a) (f b) = roundQ g a b := by
  have hd := s.delE hg hh ha hb hab
  have hal := allN_lt g
  rw [Bool.eq_iff_iff, round_iff hh (by rw [s.len]; exact s.lt a ha), round_iff hg ha]
  have := rch_img_iff hd (hg.toGrB.delE a b) (hh.toGrB.delE _ _) (W := allN g) (a := a) (b := b) (by rw [delE_len]; exact hal) (by rw [delE_len]; exact ha) (by rw [delE_len]; exact hb)
  rw [delE_len, img_all s] at this
  exact this

theorem parts_img (hg : GrN g) (hh : GrN h) {a b : Nat} (ha : a < g.length) (hb : b < g.length) : partsP h (f a) (f b) = partsP g a b := by
  have hal := allN_lt g
  unfold partsP del2
  rw [← img_all s, img_del s ha, img_del s hb, conn_img_iff s hg hh hal, conn_img_iff s hg hh (without_le _ _ (without_le _ _ hal))]

end

theorem round_sym {g : List Nat} (hg : GrN g) {a b : Nat} (ha : a < g.length) (hb : b < g.length) (hab : a ≠ b) : roundQ g a b = roundQ g b a := by
  have hsy : ∀ x y u v, x < g.length → y < g.length → x ≠ y → adj (delE g x y) u v = adj (delE g x y) v u := by
    intro x y u v hx hy hxy
    rw [adj_delE hx hy hxy, adj_delE hx hy hxy, hg.sym u v]
    have h1 : (u = x ∧ v = y) ↔ (v = y ∧ u = x) := ⟨fun h => ⟨h.2, h.1⟩, fun h => ⟨h.2, h.1⟩⟩
    have h2 : (u = y ∧ v = x) ↔ (v = x ∧ u = y) := ⟨fun h => ⟨h.2, h.1⟩, fun h => ⟨h.2, h.1⟩⟩
    rw [decide_eq_decide.2 h1, decide_eq_decide.2 h2, Bool.or_comm]
  have key : ∀ x y, x < g.length → y < g.length → x ≠ y → roundQ g x y = true → roundQ g y x = true := by
    intro x y hx hy hxy h
    rw [round_iff hg hx] at h
    rw [round_iff hg hy]
    have h1 := h.sym (fun u v => hsy x y u v hx hy hxy) (by rw [allN_bit, decide_eq_true hx])
    have h2 : ∀ {W u v : Nat}, Rch (delE g x y) W u v → Rch (delE g y x) W u v := by
      intro W u v hr
      induction hr with
      | base => exact .base
      | step _ hab hb ih =>
        refine .step ih ?_ hb
        rw [adj_delE hx hy hxy] at hab
        rw [adj_delE hy hx (fun e => hxy e.symm), Bool.or_comm]
        exact hab
    exact h2 h1
  rw [Bool.eq_iff_iff]
  exact ⟨key a b ha hb hab, key b a hb ha (fun e => hab e.symm)⟩

theorem parts_sym (g : List Nat) (a b : Nat) : partsP g a b = partsP g b a := by
  have : del2 (allN g) a b = del2 (allN g) b a := by
    refine Nat.eq_of_testBit_eq fun i => ?_
    unfold del2
    rw [testBit_without, testBit_without, testBit_without, testBit_without, Bool.and_assoc, Bool.and_assoc]
    congr 1
    exact Bool.and_comm _ _
  unfold partsP
  rw [this]

/-! ### Pairs in order, and how many there are -/

/-- All pairs of numbers below n, the smaller one first. -/
def pairL (n : Nat) (p : Nat → Nat → Bool) : List (Nat × Nat) := (List.range n).flatMap fun a => ((List.range (n - 1 - a)).filter fun j => p a (a + 1 + j)).map fun j => (a, a + 1 + j)

theorem foldI_flat {α β : Type} {F : α → List β → List β} {G : α → List β} (h : ∀ x s, F x s = s ++ G x) : ∀ (l : List α) (i : Nat) (s : List β), foldI (fun _ x s => F x s) l i s = s ++ l.flatMap G := by
  intro l
  induction l with
  | nil => intro i s; simp [foldI]
  | cons x l ih => intro i s; simp only [foldI]; rw [ih, h, List.flatMap_cons, List.append_assoc]

theorem edges_pairL (g : List Nat) : edgesP g = pairL g.length (adj g) := by
  have := foldI_flat (F := edgeRow g) (fun a s => edgeRow_eq (g := g) (a := a) (acc := s)) (List.range g.length) 0 []
  rw [List.nil_append] at this
  exact this

theorem pairRow_eq {g : List Nat} {a : Nat} {acc : List (Nat × Nat)} : pairRow g a acc = acc ++ ((List.range (g.length - 1 - a)).filter fun j => partsP g a (a + 1 + j)).map fun j => (a, a + 1 + j) := by
  unfold pairRow pairIn
  exact foldI_filter (p := fun j => partsP g a (a + 1 + j)) (f := fun j => (a, a + 1 + j)) _ _ _

theorem pairs_pairL (g : List Nat) : pairsP g = pairL g.length (partsP g) := by
  have := foldI_flat (F := pairRow g) (fun a s => pairRow_eq (g := g) (a := a) (acc := s)) (List.range g.length) 0 []
  rw [List.nil_append] at this
  exact this

theorem mem_pairL {n : Nat} {p : Nat → Nat → Bool} {e : Nat × Nat} : e ∈ pairL n p ↔ e.1 < e.2 ∧ e.2 < n ∧ p e.1 e.2 = true := by
  unfold pairL
  rw [List.mem_flatMap]
  constructor
  · rintro ⟨a, ha, h⟩
    rw [List.mem_map] at h
    obtain ⟨j, hj, rfl⟩ := h
    rw [List.mem_filter, List.mem_range] at hj
    exact ⟨by simp only; omega, by simp only; omega, hj.2⟩
  · rintro ⟨h1, h2, h3⟩
    refine ⟨e.1, List.mem_range.2 (by omega), ?_⟩
    rw [List.mem_map]
    refine ⟨e.2 - e.1 - 1, ?_, Prod.ext rfl (by simp only; omega)⟩
    rw [List.mem_filter, List.mem_range]
    refine ⟨by omega, ?_⟩
    rw [show e.1 + 1 + (e.2 - e.1 - 1) = e.2 by omega]
    exact h3

theorem pairL_nodup (n : Nat) (p : Nat → Nat → Bool) : (pairL n p).Nodup := by
  unfold pairL
  unfold List.Nodup
  rw [List.pairwise_flatMap]
  refine ⟨fun a _ => ?_, ?_⟩
  · refine List.Pairwise.map _ (fun i j (h : i ≠ j) => ?_) (List.Pairwise.filter _ List.nodup_range)
    intro e
    have := congrArg Prod.snd e
    simp only at this
    omega
  · refine List.Pairwise.imp (R := (· ≠ ·)) ?_ List.nodup_range
    intro a b hab x hx y hy e
    obtain ⟨i, _, rfl⟩ := List.mem_map.1 hx
    obtain ⟨j, _, rfl⟩ := List.mem_map.1 hy
    exact hab (congrArg Prod.fst e)

theorem len_le {α β : Type} [DecidableEq β] {F : α → β} : ∀ {l : List α} {l' : List β}, l.Nodup → (∀ x ∈ l, F x ∈ l') → (∀ x ∈ l, ∀ y ∈ l, F x = F y → x = y) → l.length ≤ l'.length := by
  intro l
  induction l with
  | nil => intro l' _ _ _; simp
  | cons x l ih =>
    intro l' hnd hm hi
    rw [List.nodup_cons] at hnd
    have h1 := hm x List.mem_cons_self
    have h2 := ih (l' := l'.erase (F x)) hnd.2 (fun y hy => by
      refine (List.mem_erase_of_ne fun e => ?_).2 (hm y (List.mem_cons_of_mem _ hy))
      have := hi y (List.mem_cons_of_mem _ hy) x List.mem_cons_self e
      subst this
      exact hnd.1 hy) fun a ha b hb => hi a (List.mem_cons_of_mem _ ha) b (List.mem_cons_of_mem _ hb)
    rw [List.length_erase_of_mem h1] at h2
    have := List.length_pos_of_mem h1
    rw [List.length_cons]
    omega

/-- A pair renamed, the smaller one first. -/
def pairI (f : Nat → Nat) (e : Nat × Nat) : Nat × Nat := (min (f e.1) (f e.2), max (f e.1) (f e.2))

theorem pairL_img {n : Nat} {p q : Nat → Nat → Bool} {f : Nat → Nat} (hlt : ∀ i, i < n → f i < n) (hinj : ∀ i j, i < n → j < n → f i = f j → i = j) (hq : ∀ a b, a < n → b < n → a ≠ b → q a b = q b a)
    (h : ∀ a b, a < n → b < n → a ≠ b → q (f a) (f b) = p a b) {e : Nat × Nat} (he : e ∈ pairL n p) : pairI f e ∈ pairL n q := by
  obtain ⟨h1, h2, h3⟩ := mem_pairL.1 he
  have hne : f e.1 ≠ f e.2 := fun hh => by have := hinj _ _ (by omega) h2 hh; omega
  have ha := hlt e.1 (by omega)
  have hb := hlt e.2 h2
  have h4 := h e.1 e.2 (by omega) h2 (by omega)
  refine mem_pairL.2 ?_
  unfold pairI
  simp only
  rcases Nat.lt_or_ge (f e.1) (f e.2) with h5 | h5
  · rw [Nat.min_eq_left (by omega), Nat.max_eq_right (by omega)]
    exact ⟨h5, hb, by rw [h4]; exact h3⟩
  · rw [Nat.min_eq_right (by omega), Nat.max_eq_left (by omega)]
    exact ⟨by omega, ha, by rw [hq _ _ hb ha (fun e => hne e.symm), h4]; exact h3⟩

theorem pairL_len {n : Nat} {p q : Nat → Nat → Bool} {f : Nat → Nat} (hlt : ∀ i, i < n → f i < n) (hinj : ∀ i j, i < n → j < n → f i = f j → i = j) (hq : ∀ a b, a < n → b < n → a ≠ b → q a b = q b a)
    (h : ∀ a b, a < n → b < n → a ≠ b → q (f a) (f b) = p a b) : (pairL n p).length ≤ (pairL n q).length := by
  refine len_le (F := pairI f) (pairL_nodup n p) (fun e he => pairL_img hlt hinj hq h he) fun x hx y hy hxy => ?_
  obtain ⟨h1, h2, _⟩ := mem_pairL.1 hx
  obtain ⟨h3, h4, _⟩ := mem_pairL.1 hy
  unfold pairI at hxy
  have e1 : min (f x.1) (f x.2) = min (f y.1) (f y.2) := congrArg Prod.fst hxy
  have e2 : max (f x.1) (f x.2) = max (f y.1) (f y.2) := congrArg Prod.snd hxy
  have hor : (f x.1 = f y.1 ∧ f x.2 = f y.2) ∨ (f x.1 = f y.2 ∧ f x.2 = f y.1) := by omega
  rcases hor with ⟨h5, h6⟩ | ⟨h5, h6⟩
  · exact Prod.ext (hinj _ _ (by omega) (by omega) h5) (hinj _ _ h2 h4 h6)
  · have := hinj _ _ (by omega) h4 h5
    have := hinj _ _ h2 (by omega) h6
    omega

/-- Which edges are bridges. -/
noncomputable def bridgeB (g : List Nat) (a b : Nat) : Bool := adj g a b && !roundQ g a b

theorem bridges_pairL (g : List Nat) : bridgesP g = pairL g.length (bridgeB g) := by
  unfold bridgesP
  rw [edges_pairL]
  unfold pairL bridgeB
  rw [List.filter_flatMap]
  congr 1
  funext a
  rw [List.filter_map, List.filter_filter]
  congr 1
  refine List.filter_congr fun j _ => ?_
  simp only [Function.comp_apply]
  exact Bool.and_comm _ _

end Go.AM
