/- Numberings: where a beginning goes on. Plain. -/
import Derived.Test.YtakhklelgcfgjaaDoorHb
namespace Go.AM
open Go.Proofs

/-- What is left behind a beginning. -/
def lf (g : List Nat) (B : Nat) : Nat := without (allN g) B

/-- From every node that is left a way leads to t. -/
noncomputable def goodQ (g : List Nat) (t B : Nat) : Bool := decide (rch g (lf g B) t = lf g B)

/-- May a node come next, for its neighbours? -/
def cq (g : List Nat) (t B v : Nat) : Bool := !B.testBit v && decide (v ≠ t) && decide (nb g v &&& B ≠ 0) && decide (nb g v &&& lf g (B ||| 2 ^ v) ≠ 0)

theorem without_bit {a b i : Nat} : (without a b).testBit i = (a.testBit i && !b.testBit i) := by
  unfold without
  rw [Nat.testBit_xor, Nat.testBit_and]
  cases a.testBit i <;> cases b.testBit i <;> rfl

theorem lf_bit {g : List Nat} {B i : Nat} : (lf g B).testBit i = (decide (i < g.length) && !B.testBit i) := by
  unfold lf; rw [without_bit, allN_bit]

theorem or_bit {B v i : Nat} : (B ||| 2 ^ v).testBit i = (B.testBit i || decide (v = i)) := by
  rw [Nat.testBit_or, Nat.testBit_two_pow]

theorem and_ne {a b : Nat} : a &&& b ≠ 0 ↔ ∃ i, a.testBit i = true ∧ b.testBit i = true := by
  constructor
  · intro h
    obtain ⟨i, hi⟩ := Nat.exists_testBit_of_ne_zero h
    rw [Nat.testBit_and, Bool.and_eq_true] at hi
    exact ⟨i, hi⟩
  · rintro ⟨i, h1, h2⟩ h0
    have : (a &&& b).testBit i = true := by rw [Nat.testBit_and, h1, h2]; rfl
    rw [h0] at this
    simp at this

section
variable {g : List Nat} {t B : Nat}

theorem lf_lt (hg : GrN g) : lf g B < 1024 := by
  exact without_le (n := 10) _ _ (allN_lt10 hg)

theorem good_iff (hg : GrN g) (ht : t < g.length) (hB : B.testBit t = false) : goodQ g t B = true ↔ ∀ u, (lf g B).testBit u = true → Rch g (lf g B) t u := by
  unfold goodQ
  rw [decide_eq_true_iff]
  exact rch_full (lf_lt hg) (by rw [lf_bit, hB, decide_eq_true ht]; rfl)

/-- A step to a good beginning comes from a good one. -/
theorem good_back (hg : GrN g) (ht : t < g.length) (hB : B.testBit t = false) {v : Nat} (hc : cq g t B v = true) (h : goodQ g t (B ||| 2 ^ v) = true) : goodQ g t B = true := by
  unfold cq at hc
  simp only [Bool.and_eq_true, Bool.not_eq_true', decide_eq_true_eq] at hc
  obtain ⟨⟨⟨h1, h2⟩, h3⟩, h4⟩ := hc
  have hB' : (B ||| 2 ^ v).testBit t = false := by rw [or_bit, hB]; simp [h2]
  rw [good_iff hg ht hB'] at h
  rw [good_iff hg ht hB]
  have hsub : ∀ i, (lf g (B ||| 2 ^ v)).testBit i = true → (lf g B).testBit i = true := by
    intro i hi
    rw [lf_bit, or_bit] at hi
    rw [lf_bit]
    simp at hi ⊢
    exact ⟨hi.1, hi.2.1⟩
  intro u hu
  by_cases huv : u = v
  · subst huv
    obtain ⟨x, hx1, hx2⟩ := and_ne.1 h4
    refine ((h x hx2).mono hsub).step (b := u) ?_ hu
    rw [hg.sym]; exact hx1
  · refine (h u ?_).mono hsub
    rw [lf_bit] at hu ⊢
    rw [or_bit]
    simp at hu ⊢
    exact ⟨hu.1, hu.2, fun e => huv e.symm⟩

theorem exit_in {G : List Nat} {W : Nat} {S : Nat → Prop} {u p : Nat} (h : Rch G W u p) (hu : S u) (hp : ¬ S p) : ∃ x y, S x ∧ ¬ S y ∧ adj G x y = true ∧ W.testBit y = true ∧ Rch G W u x := by
  induction h with
  | base => exact absurd hu hp
  | @step a b h1 h2 h3 ih =>
    by_cases ha : S a
    · exact ⟨a, b, ha, hp, h2, h3, h1⟩
    · exact ih ha

theorem all_del {w i : Nat} (hi : i < g.length) (hw : i ≠ w) : (without (allN g) (2 ^ w)).testBit i = true := by
  rw [bit_del, allN_bit]; exact ⟨decide_eq_true hi, hw⟩

/-- A good beginning goes on, in a graph without cut nodes. -/
theorem good_next (hg : GrN g) (hbi : Bi g (allN g)) (ht : t < g.length) (hB : B.testBit t = false) {s : Nat} (hs : B.testBit s = true) (hsn : s < g.length) (hgood : goodQ g t B = true) {z : Nat} (hz : (lf g B).testBit z = true) (hzt : z ≠ t) :
    ∃ v, v < g.length ∧ cq g t B v = true ∧ goodQ g t (B ||| 2 ^ v) = true := by
  have hgd := (good_iff hg ht hB).1 hgood
  have htl : (lf g B).testBit t = true := by rw [lf_bit, hB, decide_eq_true ht]; rfl
  have hst : s ≠ t := by rintro rfl; rw [hB] at hs; cases hs
  have lfv : ∀ {v i}, (lf g (B ||| 2 ^ v)).testBit i = true ↔ (lf g B).testBit i = true ∧ i ≠ v := by
    intro v i
    rw [lf_bit, lf_bit, or_bit]
    simp
    constructor
    · rintro ⟨a, b, c⟩; exact ⟨⟨a, b⟩, fun e => c e.symm⟩
    · rintro ⟨⟨a, b⟩, c⟩; exact ⟨a, b, fun e => c e.symm⟩
  have lfn : ∀ {i}, (lf g B).testBit i = true → i < g.length ∧ B.testBit i = false := by
    intro i hi
    rw [lf_bit] at hi
    simpa using hi
  -- a candidate
  have key : ∀ (k v : Nat), (lf g B).testBit v = true → v ≠ t → (∃ x, B.testBit x = true ∧ adj g v x = true) → 10 ≤ pop (rch g (lf g (B ||| 2 ^ v)) t) + k → ∃ v, v < g.length ∧ cq g t B v = true ∧ goodQ g t (B ||| 2 ^ v) = true := by
    intro k
    induction k with
    | zero =>
      intro v hv hvt hx hp
      exfalso
      have h1 := pop_lt (a := rch g (lf g (B ||| 2 ^ v)) t) (b := 1023) (i := v) (by omega) (fun j hj => by
        have := bit_lt (n := 10) (rch_lt _ _ _) hj
        rw [show 1023 = 2 ^ 10 - 1 by rfl, Nat.testBit_two_pow_sub_one]; exact decide_eq_true this) (by
        rw [show 1023 = 2 ^ 10 - 1 by rfl, Nat.testBit_two_pow_sub_one]
        exact decide_eq_true (by have := (lfn hv).1; have := hg.len; omega)) (by
        rw [Bool.eq_false_iff]
        intro hc
        have := (rch_bit (by have := hg.len; omega) (lf_lt hg)).1 hc
        have := this.mem (lfv.2 ⟨htl, fun e => hvt e.symm⟩)
        exact (lfv.1 this).2 rfl)
      have : pop 1023 = 10 := by decide +kernel
      omega
    | succ k ih =>
      intro v hv hvt hx hp
      obtain ⟨hvn, hvB⟩ := lfn hv
      obtain ⟨x, hxB, hxv⟩ := hx
      have htl' : (lf g (B ||| 2 ^ v)).testBit t = true := lfv.2 ⟨htl, fun e => hvt e.symm⟩
      have hB' : (B ||| 2 ^ v).testBit t = false := by rw [or_bit, hB]; simp [hvt]
      -- the node has a neighbour that t sees
      obtain ⟨a, b, ha, hb, hab, hbl, _⟩ := exit_in (S := Rch g (lf g (B ||| 2 ^ v)) t) (hgd v hv) .base (fun h => (lfv.1 (h.mem htl')).2 rfl)
      have hbv : b = v := Classical.byContradiction fun hne => hb (ha.step hab (lfv.2 ⟨hbl, hne⟩))
      subst hbv
      by_cases hgv : goodQ g t (B ||| 2 ^ b) = true
      · refine ⟨b, hvn, ?_, hgv⟩
        unfold cq
        rw [hvB, decide_eq_true hvt, decide_eq_true (and_ne.2 ⟨x, hxv, hxB⟩), decide_eq_true (and_ne.2 ⟨a, by show adj g b a = true; rw [hg.sym]; exact hab, ha.mem htl'⟩)]
        rfl
      · rw [good_iff hg ht hB'] at hgv
        obtain ⟨u, hu⟩ := Classical.not_forall.1 hgv
        obtain ⟨hul, hur⟩ := Classical.not_imp.1 hu
        obtain ⟨huB, hub⟩ := lfv.1 hul
        have hut : ¬ Rch g (lf g (B ||| 2 ^ b)) u t := fun h => hur (h.sym hg.sym hul)
        obtain ⟨y, w, hy, hw, hyw, hwl, _⟩ := exit_in (S := Rch g (lf g (B ||| 2 ^ b)) u) (hbi b u t (all_del (lfn huB).1 hub) (all_del ht (fun e => hvt e.symm))) .base hut
        rw [bit_del, allN_bit] at hwl
        have hwB : B.testBit w = true := by
          cases hc : B.testBit w with
          | true => rfl
          | false => exact absurd (hy.step hyw (lfv.2 ⟨by rw [lf_bit, hc, hwl.1]; rfl, hwl.2⟩)) hw
        have hyl := hy.mem hul
        obtain ⟨hylB, hyb⟩ := lfv.1 hyl
        have hty : ¬ Rch g (lf g (B ||| 2 ^ b)) t y := fun h => hur (h.trans (hy.sym hg.sym hul))
        have hyt : y ≠ t := fun e => hty (by rw [e]; exact .base)
        -- what t sees without b it sees without y
        have more : ∀ z, Rch g (lf g (B ||| 2 ^ b)) t z → Rch g (lf g (B ||| 2 ^ y)) t z := by
          intro z hz
          induction hz with
          | base => exact .base
          | @step p q h1 h2 h3 ih2 =>
            refine ih2.step h2 (lfv.2 ⟨(lfv.1 h3).1, ?_⟩)
            rintro rfl
            exact hty (h1.step h2 h3)
        have hbs : Rch g (lf g (B ||| 2 ^ y)) t b := (more a ha).step hab (lfv.2 ⟨hv, fun e => hyb e.symm⟩)
        have hlen := hg.len
        refine ih y hylB hyt ⟨w, hwB, hyw⟩ ?_
        have := pop_lt (a := rch g (lf g (B ||| 2 ^ b)) t) (b := rch g (lf g (B ||| 2 ^ y)) t) (i := b) (rch_lt _ _ _) (fun j hj => (rch_bit (by omega) (lf_lt hg)).2 (more j ((rch_bit (by omega) (lf_lt hg)).1 hj)))
          ((rch_bit (by omega) (lf_lt hg)).2 hbs) (by
            rw [Bool.eq_false_iff]
            intro hc
            exact (lfv.1 (((rch_bit (by omega) (lf_lt hg)).1 hc).mem htl')).2 rfl)
        omega
  obtain ⟨hzn, hzB⟩ := lfn hz
  obtain ⟨a, b, ha, hb, hab, hbl, _⟩ := exit_in (S := fun i => B.testBit i = true) (hbi t s z (all_del hsn hst) (all_del hzn hzt)) hs (by rw [hzB]; simp)
  rw [bit_del, allN_bit] at hbl
  exact key 10 b (by rw [lf_bit, hbl.1]; simpa using hb) hbl.2 ⟨a, ha, by rw [hg.sym]; exact hab⟩ (by omega)

end

end Go.AM
