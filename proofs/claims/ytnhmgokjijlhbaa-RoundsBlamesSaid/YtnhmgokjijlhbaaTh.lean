/- Timetables, in plain words: what the search finds; a number added to all times changes nothing. -/
import Derived.Test.YtnhmgokjijlhbaaTg
namespace Go.AM
open Go.Proofs

theorem foldI_fits {p : Int} {set : Nat} {b : List Int} : ∀ (l : List Sp) (i : Nat) (q : Bool), foldI (fitS p set b) l i q = true ↔ q = true ∧ ∀ j c, l[j]? = some c → set.testBit (i + j) = true → imax c.a c.b + 1 = b.length → keepP p c (atI b c.a) (atI b c.b) = true := by
  intro l
  induction l with
  | nil => intro i q; simp [foldI]
  | cons c l ih =>
    intro i q
    simp only [foldI]
    rw [ih]
    constructor
    · rintro ⟨h1, h2⟩
      have hq : q = true ∧ (set.testBit i = true → imax c.a c.b + 1 = b.length → keepP p c (atI b c.a) (atI b c.b) = true) := by
        unfold fitS at h1
        split at h1
        · rw [Bool.and_eq_true] at h1
          exact ⟨h1.1, fun _ _ => h1.2⟩
        · rename_i hn
          exact ⟨h1, fun a b => absurd ⟨a, b⟩ hn⟩
      refine ⟨hq.1, fun j c' hj hs hm => ?_⟩
      cases j with
      | zero => simp at hj; subst hj; exact hq.2 hs hm
      | succ j => exact h2 j c' (by simpa using hj) (by rw [show i + 1 + j = i + (j + 1) by omega]; exact hs) hm
    · rintro ⟨h1, h2⟩
      refine ⟨?_, fun j c' hj hs hm => h2 (j + 1) c' (by simpa using hj) (by rw [show i + (j + 1) = i + 1 + j by omega]; exact hs) hm⟩
      unfold fitS
      split
      · rename_i hc
        rw [Bool.and_eq_true]
        exact ⟨h1, h2 0 c rfl hc.1 hc.2⟩
      · exact h1

theorem fits_iff {p : Int} {l : List Sp} {set : Nat} {b : List Int} : fitsP p l set b = true ↔ ∀ j c, l[j]? = some c → set.testBit j = true → imax c.a c.b + 1 = b.length → keepP p c (atI b c.a) (atI b c.b) = true := by
  unfold fitsP
  rw [foldI_fits]
  simp

theorem at_pre {b r : List Int} (h : b <+: r) {i : Int} (h1 : i.toNat < b.length) : atI r i = atI b i := by
  obtain ⟨t, rfl⟩ := h
  unfold atI
  rw [List.getElem?_append_left h1]

/-- Are the times of some spans right? -/
def goodT (p : Int) (l : List Sp) (set : Nat) (n : Int) (r : List Int) : Prop :=
  (∀ x ∈ r, 0 ≤ x ∧ x < p) ∧ ∀ j c, l[j]? = some c → set.testBit j = true → n ≤ imax c.a c.b → keepP p c (atI r c.a) (atI r c.b) = true

theorem imax_or (a b : Int) : (imax a b = a ∨ imax a b = b) ∧ a ≤ imax a b ∧ b ≤ imax a b := by unfold imax; split <;> omega

theorem first_some {p e : Int} {l : List Sp} {set : Nat} (hv : tabOk p e l = true) : ∀ (d : Nat) (b r : List Int), (b.length + d : Int) = e → (∀ x ∈ b, 0 ≤ x ∧ x < p) → firstP p l set d b = some r → b <+: r ∧ goodT p l set b.length r := by
  intro d
  induction d with
  | zero =>
    intro b r hd hb h
    cases h
    refine ⟨List.prefix_rfl, hb, fun j c hj _ hm => ?_⟩
    have := sp_of hv (List.mem_of_getElem? hj)
    have := imax_or c.a c.b
    omega
  | succ d ih =>
    intro b r hd hb h
    simp only [firstP] at h
    obtain ⟨x, hx, h2⟩ := List.exists_of_findSome?_eq_some h
    rw [List.mem_range] at hx
    split at h2
    · rename_i hf
      obtain ⟨h3, h4, h5⟩ := ih (b ++ [(x : Int)]) r (by simp; omega) (fun y hy => by
        rcases List.mem_append.1 hy with h | h
        · exact hb y h
        · simp at h; omega) h2
      refine ⟨(List.prefix_append b [(x : Int)]).trans h3, h4, fun j c hj hs hm => ?_⟩
      have hsp := sp_of hv (List.mem_of_getElem? hj)
      have him := imax_or c.a c.b
      by_cases hm2 : imax c.a c.b = b.length
      · have := fits_iff.1 hf j c hj hs (by simp [hm2])
        rw [at_pre h3 (by simp; omega), at_pre h3 (by simp; omega)]
        exact this
      · exact h5 j c hj hs (by simp; omega)
    · cases h2

theorem first_none {p e : Int} {l : List Sp} {set : Nat} (hv : tabOk p e l = true) : ∀ (d : Nat) (b r : List Int), (b.length + d : Int) = e → firstP p l set d b = none → b <+: r → (r.length : Int) = e → ¬ goodT p l set b.length r := by
  intro d
  induction d with
  | zero => intro b r hd h; cases h
  | succ d ih =>
    intro b r hd h hpre hr hg
    simp only [firstP] at h
    obtain ⟨t, rfl⟩ := hpre
    cases t with
    | nil => simp at hr; omega
    | cons x t =>
      have hx := hg.1 x (by simp)
      rw [List.findSome?_eq_none_iff] at h
      have h1 := h x.toNat (List.mem_range.2 (by omega))
      rw [show ((x.toNat : Nat) : Int) = x by omega] at h1
      have hpre : b ++ [x] <+: b ++ x :: t := ⟨t, by simp⟩
      have hgood : goodT p l set ((b ++ [x]).length : Int) (b ++ x :: t) := ⟨hg.1, fun j c hj hs hm => hg.2 j c hj hs (by simp at hm; omega)⟩
      rw [if_pos] at h1
      · exact ih (b ++ [x]) _ (by simp; omega) h1 hpre hr hgood
      · rw [fits_iff]
        intro j c hj hs hm
        have hsp := sp_of hv (List.mem_of_getElem? hj)
        have him := imax_or c.a c.b
        rw [List.length_append, List.length_singleton] at hm
        rw [← at_pre hpre (by simp; omega), ← at_pre hpre (by simp; omega)]
        exact hg.2 j c hj hs (by omega)

/-- A number taken from all times. -/
def shiftT (p x : Int) (r : List Int) : List Int := r.map fun y => (y - x) % p

theorem keep_shift {p x u v : Int} {c : Sp} : keepP p c ((u - x) % p) ((v - x) % p) = keepP p c u v := by
  unfold keepP
  have : ((v - x) % p - (u - x) % p - c.lo) % p = (v - u - c.lo) % p := by
    rw [Int.emod_eq_emod_iff_emod_sub_eq_zero]
    apply Int.emod_eq_zero_of_dvd
    have h1 := Int.mul_ediv_add_emod (v - x) p
    have h2 := Int.mul_ediv_add_emod (u - x) p
    refine ⟨(u - x) / p - (v - x) / p, ?_⟩
    rw [Int.mul_sub]
    omega
  rw [this]

theorem at_shift {p x : Int} {r : List Int} {i : Int} (h1 : i.toNat < r.length) : atI (shiftT p x r) i = (atI r i - x) % p := by
  unfold atI shiftT
  rw [List.getElem?_map, List.getElem?_eq_getElem h1]
  rfl

theorem good_shift {p e x : Int} {l : List Sp} {set : Nat} {r : List Int} {n : Int} (hv : tabOk p e l = true) (hr : (r.length : Int) = e) (hg : goodT p l set n r) : goodT p l set n (shiftT p x r) := by
  obtain ⟨hp1, hp12⟩ := tab_p hv
  refine ⟨fun y hy => ?_, fun j c hj hs hm => ?_⟩
  · obtain ⟨z, _, rfl⟩ := List.mem_map.1 hy
    exact ⟨Int.emod_nonneg _ (by omega), Int.emod_lt_of_pos _ (by omega)⟩
  · have hsp := sp_of hv (List.mem_of_getElem? hj)
    rw [at_shift (by omega), at_shift (by omega), keep_shift]
    exact hg.2 j c hj hs hm

/-- All spans. -/
def fullS (l : List Sp) : Nat := 2 ^ l.length - 1

theorem full_bit {l : List Sp} {j : Nat} {c : Sp} (h : l[j]? = some c) : (fullS l).testBit j = true := by
  have := (List.getElem?_eq_some_iff.1 h).1
  unfold fullS
  rw [Nat.testBit_two_pow_sub_one]
  simpa using this

theorem okT_fits {p e : Int} {l : List Sp} {b : List Int} (hv : tabOk p e l = true) (hb : b ≠ []) : l.all (okT p b) = fitsP p l (fullS l) b := by
  have hpos := List.length_pos_iff.2 hb
  rw [Bool.eq_iff_iff, fits_iff, List.all_eq_true]
  constructor
  · intro h j c hj _ hm
    have := h c (List.mem_of_getElem? hj)
    have hsp := sp_of hv (List.mem_of_getElem? hj)
    have him := imax_or c.a c.b
    unfold okT at this
    rw [decide_eq_true (show c.a < (b.length : Int) by omega), decide_eq_true (show c.b < (b.length : Int) by omega)] at this
    have : decide (c.a = (b.length : Int) - 1) = true ∨ decide (c.b = (b.length : Int) - 1) = true := by
      rcases him.1 with h | h
      · left; rw [decide_eq_true_iff]; omega
      · right; rw [decide_eq_true_iff]; omega
    rename_i h3
    rcases this with h4 | h4 <;> simpa [h4] using h3
  · intro h c hc
    obtain ⟨j, hj, rfl⟩ := List.getElem_of_mem hc
    have hj' := List.getElem?_eq_getElem hj
    have hsp := sp_of hv hc
    have him := imax_or l[j].a l[j].b
    unfold okT
    by_cases hcon : l[j].a < (b.length : Int) ∧ l[j].b < (b.length : Int) ∧ (l[j].a = (b.length : Int) - 1 ∨ l[j].b = (b.length : Int) - 1)
    · rw [h j _ hj' (full_bit hj') (by omega)]
      simp
    · have : (decide (l[j].a < (b.length : Int)) && decide (l[j].b < (b.length : Int)) && (decide (l[j].a = (b.length : Int) - 1) || decide (l[j].b = (b.length : Int) - 1))) = false := by
        rw [Bool.eq_false_iff]
        intro h
        simp only [Bool.and_eq_true, Bool.or_eq_true, decide_eq_true_iff] at h
        exact hcon ⟨h.1.1, h.1.2, h.2⟩
      rw [this]; rfl

theorem timed_first {p e : Int} {l : List Sp} (hv : tabOk p e l = true) : ∀ (d : Nat) (b : List Int), b ≠ [] → timedP p l d b = if fitsP p l (fullS l) b = true then firstP p l (fullS l) d b else none := by
  intro d
  induction d with
  | zero =>
    intro b hb
    simp only [timedP, firstP]
    rw [okT_fits hv hb]
  | succ d ih =>
    intro b hb
    simp only [timedP, firstP]
    rw [okT_fits hv hb]
    by_cases hf : fitsP p l (fullS l) b = true
    · rw [if_pos hf, if_pos hf, if_neg hb]
      congr 1
      funext x
      exact ih (b ++ [(x : Int)]) (by simp)
    · rw [if_neg hf, if_neg hf]

/-- The document's search and the program's find the same. -/
theorem timed_eq {p e : Int} {l : List Sp} (hv : tabOk p e l = true) : timedP p l e.toNat [] = firstP p l (fullS l) e.toNat [] := by
  obtain ⟨hp1, hp12⟩ := tab_p hv
  have he6 : 1 ≤ e ∧ e ≤ 6 := by simp only [tabOk, Bool.and_eq_true, decide_eq_true_iff] at hv; omega
  obtain ⟨d, hd⟩ : ∃ d, e.toNat = d + 1 := ⟨e.toNat - 1, by omega⟩
  rw [hd]
  have hfit : ∀ x : Int, fitsP p l (fullS l) [x] = true := fun x => by
    rw [fits_iff]
    intro j c hj _ hm
    have hsp := sp_of hv (List.mem_of_getElem? hj)
    have him := imax_or c.a c.b
    simp at hm
    omega
  have hall : l.all (okT p []) = true := by
    rw [List.all_eq_true]
    intro c hc
    have hsp := sp_of hv hc
    unfold okT
    rw [decide_eq_false (show ¬ c.a < (([] : List Int).length : Int) by simp; omega)]
    rfl
  have e1 : timedP p l (d + 1) [] = firstP p l (fullS l) d [0] := by
    simp only [timedP]
    rw [if_pos hall, if_pos trivial, timed_first hv d [0] (by simp), if_pos (hfit 0)]
  have e2 : firstP p l (fullS l) (d + 1) [] = (List.range p.toNat).findSome? fun (x : Nat) => firstP p l (fullS l) d [(x : Int)] := by
    simp only [firstP, List.nil_append]
    congr 1
    funext x
    rw [if_pos (hfit x)]
  rw [e1, e2]
  obtain ⟨q, hq⟩ : ∃ q, p.toNat = q + 1 := ⟨p.toNat - 1, by omega⟩
  rw [hq, List.range_succ_eq_map, List.findSome?_cons]
  cases h0 : firstP p l (fullS l) d [((0 : Nat) : Int)] with
  | some r => rfl
  | none =>
    rw [show ((0 : Nat) : Int) = 0 from rfl] at h0
    show none = List.findSome? _ _
    symm
    rw [List.findSome?_eq_none_iff]
    intro x hx
    obtain ⟨y, hy, rfl⟩ := List.mem_map.1 hx
    rw [List.mem_range] at hy
    cases hs : firstP p l (fullS l) d [((y.succ : Nat) : Int)] with
    | none => rfl
    | some r =>
      exfalso
      obtain ⟨h1, h2⟩ := first_some hv d _ r (by simp; omega) (fun z hz => by simp at hz; subst hz; omega) hs
      have hrl := firstP_len _ _ _ hs
      have hrl' : (r.length : Int) = e := by simp at hrl; omega
      refine first_none hv d [0] (shiftT p (y.succ : Nat) r) (by simp; omega) h0 ?_ (by simpa [shiftT] using hrl') ?_
      · obtain ⟨t, rfl⟩ := h1
        refine ⟨t.map fun z => (z - (y.succ : Nat)) % p, ?_⟩
        simp [shiftT]
      · have := good_shift (x := (y.succ : Nat)) hv hrl' h2
        simpa using this

end Go.AM
