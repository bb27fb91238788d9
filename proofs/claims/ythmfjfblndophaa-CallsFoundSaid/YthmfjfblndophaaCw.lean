/- Arrivals are the earliest ways' ends; who is reached has the news. -/
import Derived.Test.YthmfjfblndophaaCv
namespace Go.AM
open Go.Proofs

/-- The time that a person stands with. -/
def atP (A : List Int) (p : Int) : Int := A.getD p.toNat 0

def arrK (n : Nat) (l : List Cl) (s : Int) (k : Nat) : List Int := (l.take k).foldl (fun A c => arrG c A) (arr0 n s)

theorem arrK_succ {n : Nat} {l : List Cl} {s : Int} {k : Nat} {c : Cl} (hc : l[k]? = some c) : arrK n l s (k + 1) = arrG c (arrK n l s k) := by
  unfold arrK
  rw [List.take_add_one, hc]
  simp [List.foldl_append]

theorem arrK_len {n : Nat} {l : List Cl} {s : Int} {k : Nat} : (arrK n l s k).length = n := by
  unfold arrK
  have : ∀ (l : List Cl) (A : List Int), (l.foldl (fun A c => arrG c A) A).length = A.length := by
    intro l
    induction l with
    | nil => intro A; rfl
    | cons c l ih => intro A; rw [List.foldl_cons, ih, arrG_len]
  rw [this]
  simp [arr0]

theorem arrive_K (n : Nat) (l : List Cl) (s : Int) : arriveP n l s = arrK n l s l.length := by
  unfold arriveP arrK
  rw [List.take_of_length_le (Nat.le_refl _)]

theorem at_set {A : List Int} {i : Nat} {x p : Int} (hi : i < A.length) (hp : 0 ≤ p) : atP (A.set i x) p = if p.toNat = i then x else atP A p := by
  unfold atP
  simp only [List.getD_eq_getElem?_getD, List.getElem?_set]
  by_cases h : i = p.toNat
  · subst h; simp [hi]
  · simp [h, Ne.symm h]

/-- What a call does to the arrivals. -/
theorem arrG_at {n : Int} {A : List Int} {c : Cl} (hc : okC n c = true) (hl : A.length = n.toNat) {p : Int} (hp : 0 ≤ p ∧ p < n) :
    atP (arrG c A) p = if (p = c.b ∧ atP A c.a ≠ -1 ∧ atP A c.b = -1) ∨ (p = c.a ∧ atP A c.b ≠ -1 ∧ atP A c.a = -1) then c.t else atP A p := by
  obtain ⟨ha, hb, hne, _⟩ := okC_iff.1 hc
  unfold arrG
  change atP (if atP A c.a ≠ -1 ∧ atP A c.b = -1 then A.set c.b.toNat c.t else if atP A c.b ≠ -1 ∧ atP A c.a = -1 then A.set c.a.toNat c.t else A) p = _
  by_cases h1 : atP A c.a ≠ -1 ∧ atP A c.b = -1
  · rw [if_pos h1, at_set (by omega) hp.1]
    by_cases h2 : p = c.b
    · rw [if_pos (by omega), if_pos (.inl ⟨h2, h1⟩)]
    · rw [if_neg (by omega), if_neg (by rintro (h | h); exact h2 h.1; exact h1.1 h.2.2)]
  · rw [if_neg h1]
    by_cases h3 : atP A c.b ≠ -1 ∧ atP A c.a = -1
    · rw [if_pos h3, at_set (by omega) hp.1]
      by_cases h2 : p = c.a
      · rw [if_pos (by omega), if_pos (.inr ⟨h2, h3⟩)]
      · rw [if_neg (by omega), if_neg (by rintro (h | h); exact h1 h.2; exact h2 h.1)]
    · rw [if_neg h3, if_neg (by rintro (h | h); exact h1 h.2; exact h3 h.2)]

theorem arr0_at {n s p : Int} (hs : 0 ≤ s ∧ s < n) (hp : 0 ≤ p ∧ p < n) : atP (arr0 n.toNat s) p = if p = s then 0 else -1 := by
  unfold arr0
  rw [at_set (by simp; omega) hp.1]
  by_cases h : p = s
  · subst h; simp
  · rw [if_neg (by omega), if_neg h]
    unfold atP
    simp [List.getD_eq_getElem?_getD, List.getElem?_replicate, show p.toNat < n.toNat by omega]

/-- What is known of the arrivals behind k calls. -/
structure ArrOk (n : Int) (l : List Cl) (s : Int) (k : Nat) (A : List Int) : Prop where
  run : ∀ p, 0 ≤ p ∧ p < n → atP A p ≠ -1 → ∃ (w : List Int) (m : Nat), runP l w (st0 s) = some (p, atP A p, (m : Int)) ∧ (∀ i ∈ w, 0 ≤ i ∧ i < k) ∧ ∀ q : Int, 0 ≤ q → m.testBit q.toNat = true → q < n ∧ atP A q ≠ -1
  by_ : ∀ p, 0 ≤ p ∧ p < n → atP A p ≠ -1 → (atP A p = 0 ∧ p = s) ∨ ∃ j c, j < k ∧ l[j]? = some c ∧ c.has p = true ∧ atP A p = c.t
  s0 : atP A s = 0

theorem arr_ok {n s : Int} {l : List Cl} (hv : validP n l = true) (hs : 0 ≤ s ∧ s < n) : ∀ k, k ≤ l.length → ArrOk n l s k (arrK n.toNat l s k) := by
  obtain ⟨hn1, hn7, hl24, hok⟩ := validP_ok hv
  intro k
  induction k with
  | zero =>
    intro _
    have h0 : arrK n.toNat l s 0 = arr0 n.toNat s := rfl
    rw [h0]
    refine ⟨fun p hp hne => ?_, fun p hp hne => ?_, by rw [arr0_at hs hs, if_pos rfl]⟩
    · rw [arr0_at hs hp] at hne ⊢
      by_cases h : p = s
      · subst h
        obtain ⟨m, rfl⟩ := Int.eq_ofNat_of_zero_le hs.1
        refine ⟨[], 2 ^ m, ?_, by simp, fun q hq hb => ?_⟩
        · rw [if_pos rfl]
          simp only [runP, st0]
          rw [shl1_nat (by omega)]
        · rw [testBit_pow] at hb
          have : m = q.toNat := of_decide_eq_true hb
          have hqe : q = m := by omega
          subst hqe
          exact ⟨hs.2, by rw [arr0_at hs hs, if_pos rfl]; decide⟩
      · rw [if_neg h] at hne; exact absurd rfl hne
    · rw [arr0_at hs hp] at hne ⊢
      by_cases h : p = s
      · exact .inl ⟨by rw [if_pos h], h⟩
      · rw [if_neg h] at hne; exact absurd rfl hne
  | succ k ih =>
    intro hk
    have hc : l[k]? = some l[k] := List.getElem?_eq_getElem (by omega)
    generalize l[k] = c at hc
    have hcok := hok _ _ hc
    obtain ⟨ha, hb, hne, ht1, ht2⟩ := okC_iff.1 hcok
    have I := ih (by omega)
    have hlen : (arrK n.toNat l s k).length = n.toNat := arrK_len
    rw [arrK_succ hc]
    generalize hA : arrK n.toNat l s k = A at *
    have hat := fun p hp => arrG_at (p := p) hcok hlen hp
    -- what stands stays
    have stay : ∀ p, 0 ≤ p ∧ p < n → atP A p ≠ -1 → atP (arrG c A) p = atP A p := fun p hp h => by
      rw [hat p hp, if_neg]
      rintro (⟨rfl, _, h2⟩ | ⟨rfl, _, h2⟩)
      · exact h h2
      · exact h h2
    -- one who was reached calls another one
    have ext : ∀ x y, (0 ≤ x ∧ x < n) → (0 ≤ y ∧ y < n) → c.has x = true → c.oth x = y → c.has y = true → atP A x ≠ -1 → atP A y = -1 → atP (arrG c A) y = c.t →
        ∃ (w : List Int) (m : Nat), runP l w (st0 s) = some (y, atP (arrG c A) y, (m : Int)) ∧ (∀ i ∈ w, 0 ≤ i ∧ i < (k + 1 : Nat)) ∧ ∀ q : Int, 0 ≤ q → m.testBit q.toNat = true → q < n ∧ atP (arrG c A) q ≠ -1 := by
      intro x y hx hy hxc hxy hyc hxn hyn hyt
      obtain ⟨w, m, r1, r2, r3⟩ := I.run x hx hxn
      have wf := (run_keep hv w _ _ (wf0 hn7 hs) r1).1
      obtain ⟨m', e1, e2, _, _⟩ := wf
      simp only at e1
      have : m = m' := by omega
      subst this
      have hlt : atP A x < c.t := by
        rcases I.by_ x hx hxn with ⟨h0, _⟩ | ⟨j, d, hj, hd, hdx, hdt⟩
        · omega
        · have hs2 := validP_sorted hv hj hd hc
          rw [hdt]
          rcases Int.lt_or_eq_of_le hs2.1 with h | h
          · exact h
          · exfalso
            have hcl := hs2.2
            unfold clash at hcl
            rw [h] at hcl
            simp only [beq_self_eq_true, Bool.true_and, Bool.or_eq_false_iff] at hcl
            simp only [Cl.has, Bool.or_eq_true, beq_iff_eq] at hxc
            rcases hxc with h1 | h1
            · rw [h1, hdx] at hcl; cases hcl.1
            · rw [h1, hdx] at hcl; cases hcl.2
      have hin : inP (m : Int) y = false := by
        rw [inP_nat e2 ⟨hy.1, by omega⟩]
        cases hb : m.testBit y.toNat with
        | false => rfl
        | true => exact absurd hyn (r3 y hy.1 hb).2
      obtain ⟨f1, f2⟩ := withP_nat (p := y) e2 ⟨hy.1, by omega⟩
      refine ⟨w ++ [(k : Int)], m ||| 2 ^ y.toNat, ?_, fun i hi => ?_, fun q hq hb => ?_⟩
      · rw [runP_append, r1, Option.bind_some]
        simp only [runP]
        rw [if_pos ⟨by omega, by omega⟩, Int.toNat_natCast, hc]
        simp only
        rw [if_pos (by simp only [goes, hxc, hxy, hin]; simp; omega), hxy, hyt, f1]
      · simp only [List.mem_append, List.mem_cons, List.not_mem_nil, or_false] at hi
        rcases hi with hi | rfl
        · have := r2 i hi; omega
        · omega
      · rw [Nat.testBit_or, testBit_pow] at hb
        by_cases hqy : y.toNat = q.toNat
        · have : q = y := by omega
          subst this
          exact ⟨hy.2, by rw [hyt]; omega⟩
        · simp only [hqy, decide_false, Bool.or_false] at hb
          have := r3 q hq hb
          exact ⟨this.1, by rw [stay q ⟨hq, this.1⟩ this.2]; exact this.2⟩
    have hha : c.has c.a = true := by simp [Cl.has]
    have hhb : c.has c.b = true := by simp [Cl.has]
    have hoa : c.oth c.a = c.b := by unfold Cl.oth; omega
    have hob : c.oth c.b = c.a := by unfold Cl.oth; omega
    refine ⟨fun p hp hne' => ?_, fun p hp hne' => ?_, by rw [stay s hs (by rw [I.s0]; decide)]; exact I.s0⟩
    · by_cases hold : atP A p = -1
      · have h1 := hat p hp
        by_cases hcase : (p = c.b ∧ atP A c.a ≠ -1 ∧ atP A c.b = -1) ∨ (p = c.a ∧ atP A c.b ≠ -1 ∧ atP A c.a = -1)
        · rw [if_pos hcase] at h1
          rcases hcase with ⟨rfl, h2, h3⟩ | ⟨rfl, h2, h3⟩
          · exact ext c.a c.b ha hb hha hoa hhb h2 h3 h1
          · exact ext c.b c.a hb ha hhb hob hha h2 h3 h1
        · rw [if_neg hcase, hold] at h1; exact absurd h1 hne'
      · obtain ⟨w, m, r1, r2, r3⟩ := I.run p hp hold
        refine ⟨w, m, by rw [stay p hp hold]; exact r1, fun i hi => by have := r2 i hi; omega, fun q hq hb => ?_⟩
        have := r3 q hq hb
        exact ⟨this.1, by rw [stay q ⟨hq, this.1⟩ this.2]; exact this.2⟩
    · by_cases hold : atP A p = -1
      · have h1 := hat p hp
        by_cases hcase : (p = c.b ∧ atP A c.a ≠ -1 ∧ atP A c.b = -1) ∨ (p = c.a ∧ atP A c.b ≠ -1 ∧ atP A c.a = -1)
        · rw [if_pos hcase] at h1
          right
          rcases hcase with ⟨rfl, h2, h3⟩ | ⟨rfl, h2, h3⟩
          · exact ⟨k, c, by omega, hc, hhb, h1⟩
          · exact ⟨k, c, by omega, hc, hha, h1⟩
        · rw [if_neg hcase, hold] at h1; exact absurd h1 hne'
      · rw [stay p hp hold]
        rcases I.by_ p hp hold with h | ⟨j, d, h1, h2⟩
        · exact .inl h
        · exact .inr ⟨j, d, by omega, h2⟩

theorem arr_stay {n s : Int} {l : List Cl} (hv : validP n l = true) : ∀ (k m : Nat), k ≤ m → m ≤ l.length → ∀ p, 0 ≤ p ∧ p < n → atP (arrK n.toNat l s k) p ≠ -1 → atP (arrK n.toNat l s m) p = atP (arrK n.toNat l s k) p := by
  intro k m hkm
  induction hkm with
  | refl => intro _ p _ _; rfl
  | @step m hkm ih =>
    intro hm p hp hne
    have hc : l[m]? = some l[m] := List.getElem?_eq_getElem (by omega)
    rw [arrK_succ hc, arrG_at ((validP_ok hv).2.2.2 _ _ hc) arrK_len hp, if_neg, ih (by omega) p hp hne]
    have := ih (by omega) p hp hne
    rintro (⟨rfl, _, h2⟩ | ⟨rfl, _, h2⟩)
    · rw [this] at h2; exact hne h2
    · rw [this] at h2; exact hne h2

/-- Whoever a way ends at has been reached, not later. -/
theorem run_arr {n s : Int} {l : List Cl} (hv : validP n l = true) (hs : 0 ≤ s ∧ s < n) : ∀ (m : Nat) (w : List Int), w.length = m → ∀ (st' : Int × Int × Int) (k : Nat), k ≤ l.length → runP l w (st0 s) = some st' → (∀ i ∈ w, 0 ≤ i ∧ i < k) →
    atP (arrK n.toNat l s k) st'.1 ≠ -1 ∧ atP (arrK n.toNat l s k) st'.1 ≤ st'.2.1 := by
  obtain ⟨hn1, hn7, hl24, hok⟩ := validP_ok hv
  intro m
  induction m with
  | zero =>
    intro w hw st' k hk hr _
    rw [List.eq_nil_of_length_eq_zero hw] at hr
    cases hr
    have := (arr_ok hv hs k hk).s0
    simp only [st0]
    rw [this]
    exact ⟨by decide, Int.le_refl _⟩
  | succ m ih =>
    intro w hw st' k hk hr hik
    have hne : w ≠ [] := by intro e; rw [e] at hw; cases hw
    obtain ⟨u, i, rfl⟩ : ∃ u i, w = u ++ [i] := ⟨w.dropLast, w.getLast hne, (List.dropLast_concat_getLast hne).symm⟩
    rw [runP_append] at hr
    cases hu : runP l u (st0 s) with
    | none => rw [hu] at hr; cases hr
    | some st1 =>
      rw [hu] at hr
      simp only [Option.bind_some, runP] at hr
      split at hr
      · rename_i hi
        split at hr
        · cases hr
        · rename_i c hc
          split at hr
          · rename_i hg
            cases hr
            have hcok := hok _ _ hc
            obtain ⟨g1, g2, g3, g4, g5⟩ := goes_spec hn7 hcok hg
            have hku := run_keep hv u _ _ (wf0 hn7 hs) hu
            obtain ⟨mm, _, _, hp1, _⟩ := hku.1
            -- the calls ahead of this one
            have hlt : ∀ j ∈ u, 0 ≤ j ∧ j < (i.toNat : Int) := fun j hj => by
              obtain ⟨h0, d, hd, hdt, _⟩ := hku.2.2.2.2 j hj
              refine ⟨h0, ?_⟩
              rcases Nat.lt_or_ge j.toNat i.toNat with h | h
              · omega
              · exfalso
                rcases Nat.lt_or_ge i.toNat j.toNat with h' | h'
                · have := (validP_sorted hv h' hc hd).1; omega
                · have : j.toNat = i.toNat := by omega
                  rw [this, hc] at hd
                  cases hd
                  omega
            obtain ⟨q1, q2⟩ := ih u (by simpa using hw) st1 i.toNat (by omega) hu hlt
            have hik' := hik i (by simp)
            obtain ⟨ha, hb, hnab, ht1, ht2⟩ := okC_iff.1 hcok
            have ix : i.toNat < k := by omega
            -- behind this call
            have key : atP (arrK n.toNat l s (i.toNat + 1)) (c.oth st1.1) ≠ -1 ∧ atP (arrK n.toNat l s (i.toNat + 1)) (c.oth st1.1) ≤ c.t := by
              rw [arrK_succ hc, arrG_at hcok arrK_len ⟨g4, g5⟩]
              have hcase : (st1.1 = c.a ∧ c.oth st1.1 = c.b) ∨ (st1.1 = c.b ∧ c.oth st1.1 = c.a) := by
                simp only [Cl.has, Bool.or_eq_true, beq_iff_eq] at g2
                unfold Cl.oth
                rcases g2 with h | h
                · left; omega
                · right; omega
              by_cases hset : (c.oth st1.1 = c.b ∧ atP (arrK n.toNat l s i.toNat) c.a ≠ -1 ∧ atP (arrK n.toNat l s i.toNat) c.b = -1) ∨ (c.oth st1.1 = c.a ∧ atP (arrK n.toNat l s i.toNat) c.b ≠ -1 ∧ atP (arrK n.toNat l s i.toNat) c.a = -1)
              · rw [if_pos hset]; omega
              · rw [if_neg hset]
                have hnn : atP (arrK n.toNat l s i.toNat) (c.oth st1.1) ≠ -1 := by
                  intro h
                  apply hset
                  rcases hcase with ⟨h1, h2⟩ | ⟨h1, h2⟩
                  · left; rw [h1] at q1; rw [h2] at h; exact ⟨h2, q1, h⟩
                  · right; rw [h1] at q1; rw [h2] at h; exact ⟨h2, q1, h⟩
                refine ⟨hnn, ?_⟩
                rcases (arr_ok hv hs i.toNat (by omega)).by_ _ ⟨g4, g5⟩ hnn with ⟨h1, _⟩ | ⟨j, d, h1, h2, _, h3⟩
                · omega
                · rw [h3]; exact (validP_sorted hv h1 h2 hc).1
            have hst := arr_stay (s := s) hv (i.toNat + 1) k (by omega) hk _ ⟨g4, g5⟩ key.1
            simp only
            rw [hst]
            exact key
          · cases hr
      · cases hr

end Go.AM
