/- Best ways, arrivals and the news. -/
import Derived.Test.YthmfjfblndophaaCw
import Derived.Test.YthmfjfblndophaaCs
namespace Go.AM
open Go.Proofs

theorem run_last {l : List Cl} {w : List Int} {st st' : Int × Int × Int} (hr : runP l w st = some st') (hne : w ≠ []) : st'.2.1 = arrP l w := by
  obtain ⟨u, i, rfl⟩ : ∃ u i, w = u ++ [i] := ⟨w.dropLast, w.getLast hne, (List.dropLast_concat_getLast hne).symm⟩
  rw [runP_append] at hr
  cases hu : runP l u st with
  | none => rw [hu] at hr; cases hr
  | some st1 =>
    rw [hu] at hr
    simp only [Option.bind_some, runP] at hr
    split at hr
    · split at hr
      · cases hr
      · rename_i c hc
        split at hr
        · cases hr
          unfold arrP timeP
          simp [hc]
        · cases hr
    · cases hr

theorem best_fold (ofP : List Int → Int) : ∀ (ws : List (List Int)) (σ : Option (List Int)),
    match ws.foldl (betterP ofP) σ with
    | none => σ = none ∧ ws = []
    | some b => (σ = some b ∨ b ∈ ws) ∧ (∀ w ∈ ws, ofP b ≤ ofP w) ∧ ∀ a, σ = some a → ofP b ≤ ofP a := by
  intro ws
  induction ws with
  | nil =>
    intro σ
    cases σ with
    | none => exact ⟨rfl, rfl⟩
    | some b => exact ⟨.inl rfl, by simp, fun a h => by cases h; exact Int.le_refl _⟩
  | cons w ws ih =>
    intro σ
    have := ih (betterP ofP σ w)
    rw [List.foldl_cons]
    cases hf : ws.foldl (betterP ofP) (betterP ofP σ w) with
    | none =>
      rw [hf] at this
      have h1 := this.1
      unfold betterP at h1
      split at h1
      · cases h1
      · split at h1 <;> cases h1
    | some b =>
      rw [hf] at this
      obtain ⟨h1, h2, h3⟩ := this
      cases σ with
      | none =>
        have h4 := h3 w rfl
        refine ⟨.inr ?_, fun x hx => ?_, fun a h => by cases h⟩
        · rcases h1 with h1 | h1
          · cases h1; exact List.mem_cons_self
          · exact List.mem_cons_of_mem _ h1
        · rcases List.mem_cons.1 hx with rfl | hx
          · exact h4
          · exact h2 x hx
      | some a =>
        by_cases hlt : ofP w < ofP a
        · have e : betterP ofP (some a) w = some w := by simp [betterP, hlt]
          rw [e] at h1 h3
          have h4 := h3 w rfl
          refine ⟨.inr ?_, fun x hx => ?_, fun a' h => by cases h; omega⟩
          · rcases h1 with h1 | h1
            · cases h1; exact List.mem_cons_self
            · exact List.mem_cons_of_mem _ h1
          · rcases List.mem_cons.1 hx with rfl | hx
            · exact h4
            · exact h2 x hx
        · have e : betterP ofP (some a) w = some a := by simp [betterP, hlt]
          rw [e] at h1 h3
          have h4 := h3 a rfl
          refine ⟨?_, fun x hx => ?_, fun a' h => by cases h; exact h4⟩
          · rcases h1 with h1 | h1
            · exact .inl h1
            · exact .inr (List.mem_cons_of_mem _ h1)
          · rcases List.mem_cons.1 hx with rfl | hx
            · omega
            · exact h2 x hx

theorem best_none {ofP : List Int → Int} {l : List Cl} {s t : Int} (h : bestP ofP l s t = none) : allWays l s t = [] := by
  have := best_fold ofP (allWays l s t) none
  unfold bestP at h
  rw [h] at this
  exact this.2

theorem best_some {ofP : List Int → Int} {l : List Cl} {s t : Int} {b : List Int} (h : bestP ofP l s t = some b) : b ∈ allWays l s t ∧ ∀ w ∈ allWays l s t, ofP b ≤ ofP w := by
  have := best_fold ofP (allWays l s t) none
  unfold bestP at h
  rw [h] at this
  exact ⟨this.1.resolve_left (by simp), this.2.1⟩

/-- When t has the news. -/
def atT (n : Int) (l : List Cl) (s t : Int) : Int := atP (arriveP n.toNat l s) t

theorem at_nonneg {n s t : Int} {l : List Cl} (hv : validP n l = true) (hs : 0 ≤ s ∧ s < n) (ht : 0 ≤ t ∧ t < n) : 0 ≤ atT n l s t ↔ atT n l s t ≠ -1 := by
  unfold atT
  rw [arrive_K]
  have I := arr_ok hv hs l.length (Nat.le_refl _)
  constructor
  · intro h; omega
  · intro h
    rcases I.by_ t ht h with h1 | ⟨j, c, h1, h2, h3, h4⟩
    · omega
    · have := (time_ok hv h2).1; omega

theorem at_iff {n s t : Int} {l : List Cl} (hv : validP n l = true) (hs : 0 ≤ s ∧ s < n) (ht : 0 ≤ t ∧ t < n) (hst : s ≠ t) : atT n l s t ≠ -1 ↔ allWays l s t ≠ [] := by
  have I := arr_ok hv hs l.length (Nat.le_refl _)
  unfold atT
  rw [arrive_K]
  constructor
  · intro h
    obtain ⟨w, m, r1, _⟩ := I.run t ht h
    intro e
    have := (mem_all (n := n) hv hst w).2 ((check_run hv hs w).2 ⟨_, r1, rfl⟩)
    rw [e] at this
    cases this
  · intro h
    obtain ⟨w, hw⟩ := List.exists_mem_of_ne_nil _ h
    obtain ⟨st', r, e⟩ := (check_run hv hs w).1 ((mem_all (n := n) hv hst w).1 hw)
    have := run_arr hv hs _ w rfl st' l.length (Nat.le_refl _) r (fun i hi => by
      have := (allWays_ok w hw).2.2 i hi
      omega)
    rw [e] at this
    exact this.1

theorem at_best {n s t : Int} {l : List Cl} (hv : validP n l = true) (hs : 0 ≤ s ∧ s < n) (ht : 0 ≤ t ∧ t < n) (hst : s ≠ t) {b : List Int} (hb : bestP (ofK l 0) l s t = some b) : arrP l b = atT n l s t := by
  obtain ⟨h1, h2⟩ := best_some hb
  have I := arr_ok hv hs l.length (Nat.le_refl _)
  have hne : atT n l s t ≠ -1 := (at_iff hv hs ht hst).2 (fun e => by rw [e] at h1; cases h1)
  unfold atT at hne ⊢
  rw [arrive_K] at hne ⊢
  obtain ⟨w, m, r1, r2, _⟩ := I.run t ht hne
  have hw := (mem_all (n := n) hv hst w).2 ((check_run hv hs w).2 ⟨_, r1, rfl⟩)
  have e1 := run_last r1 (allWays_ok w hw).1
  have e2 := h2 w hw
  obtain ⟨st', r, e⟩ := (check_run hv hs b).1 ((mem_all (n := n) hv hst b).1 h1)
  have e3 := run_last r (allWays_ok b h1).1
  have e4 := (run_arr hv hs _ b rfl st' l.length (Nat.le_refl _) r (fun i hi => by
      have := (allWays_ok b h1).2.2 i hi
      omega)).2
  rw [e] at e4
  simp only [ofK] at e2
  simp only at e1
  omega

theorem news_arr {n s : Int} {l : List Cl} (hv : validP n l = true) (hs : 0 ≤ s ∧ s < n) : ∀ k, k ≤ l.length → ∃ M, NS 7 ((l.take k).foldl hearP (ownP n.toNat)) M ∧ M.length = n.toNat ∧
    ∀ p : Int, 0 ≤ p ∧ p < n → (((M[p.toNat]?).any fun x => x.testBit s.toNat) = true ↔ atP (arrK n.toNat l s k) p ≠ -1) := by
  obtain ⟨hn1, hn7, hl24, hok⟩ := validP_ok hv
  intro k
  induction k with
  | zero =>
    intro _
    refine ⟨_, ownP_ns (by omega), by simp, fun p hp => ?_⟩
    have h0 : arrK n.toNat l s 0 = arr0 n.toNat s := rfl
    have hr : (List.range n.toNat)[p.toNat]? = some p.toNat := List.getElem?_range (by omega)
    rw [h0, arr0_at hs hp]
    simp only [List.getElem?_map, hr, Option.map_some, Option.any_some, testBit_pow, decide_eq_true_eq]
    by_cases h : p = s
    · subst h; simp
    · rw [if_neg h]
      constructor
      · intro e; exact absurd (show p = s by omega) h
      · intro e; exact absurd rfl e
  | succ k ih =>
    intro hk
    have hc : l[k]? = some l[k] := List.getElem?_eq_getElem (by omega)
    generalize l[k] = c at hc
    have hcok := hok _ _ hc
    obtain ⟨ha, hb, hne, ht1, ht2⟩ := okC_iff.1 hcok
    obtain ⟨M, hns, hl, hM⟩ := ih (by omega)
    have hlen := hns.len
    refine ⟨hearN M c.a.toNat c.b.toNat, ?_, by simp [hearN, hl], fun p hp => ?_⟩
    · rw [List.take_add_one, hc]
      simp only [Option.toList_some, List.foldl_append, List.foldl_cons, List.foldl_nil]
      exact hearP_ns hns (by omega) (by omega)
    · rw [hearN_get M _ _ (by omega) (by omega), arrK_succ hc, arrG_at hcok arrK_len hp]
      have e1 := hM c.a ha
      have e2 := hM c.b hb
      have e3 := hM p hp
      generalize ((M[c.a.toNat]?).any fun x => x.testBit s.toNat) = x at *
      generalize ((M[c.b.toNat]?).any fun x => x.testBit s.toNat) = y at *
      generalize ((M[p.toNat]?).any fun x => x.testBit s.toNat) = z at *
      by_cases h : p = c.a
      · subst h
        rw [if_pos (.inl rfl), Bool.or_eq_true, e1, e2]
        by_cases q : (c.a = c.b ∧ atP (arrK n.toNat l s k) c.a ≠ -1 ∧ atP (arrK n.toNat l s k) c.b = -1) ∨ (c.a = c.a ∧ atP (arrK n.toNat l s k) c.b ≠ -1 ∧ atP (arrK n.toNat l s k) c.a = -1)
        · rw [if_pos q]
          constructor
          · intro _; omega
          · intro _
            rcases q with q | q
            · exact .inl q.2.1
            · exact .inr q.2.1
        · rw [if_neg q]
          constructor
          · rintro (r | r)
            · exact r
            · intro r2; exact q (.inr ⟨rfl, r, r2⟩)
          · exact .inl
      · by_cases h' : p = c.b
        · subst h'
          rw [if_pos (.inr rfl), Bool.or_eq_true, e1, e2]
          by_cases q : (c.b = c.b ∧ atP (arrK n.toNat l s k) c.a ≠ -1 ∧ atP (arrK n.toNat l s k) c.b = -1) ∨ (c.b = c.a ∧ atP (arrK n.toNat l s k) c.b ≠ -1 ∧ atP (arrK n.toNat l s k) c.a = -1)
          · rw [if_pos q]
            constructor
            · intro _; omega
            · intro _
              rcases q with q | q
              · exact .inl q.2.1
              · exact .inr q.2.1
          · rw [if_neg q]
            constructor
            · rintro (r | r)
              · intro r2; exact q (.inl ⟨rfl, r, r2⟩)
              · exact r
            · exact .inr
        · rw [if_neg (by omega), if_neg (by rintro (r | r); exact h' r.1; exact h r.1)]
          exact e3

theorem news_bit {n s t : Int} {l : List Cl} (hv : validP n l = true) (hs : 0 ≤ s ∧ s < n) (ht : 0 ≤ t ∧ t < n) : and .i64 (shr .i64 ((newsP n.toNat l).getD t.toNat 0) s) 1 = if atT n l s t ≠ -1 then 1 else 0 := by
  obtain ⟨hn1, hn7, hl24, hok⟩ := validP_ok hv
  obtain ⟨M, hns, hl, hM⟩ := news_arr hv hs l.length (Nat.le_refl _)
  rw [List.take_of_length_le (Nat.le_refl _)] at hns
  have h1 := hns.get (i := t.toNat) (by omega)
  obtain ⟨k, rfl⟩ := Int.eq_ofNat_of_zero_le hs.1
  unfold newsP atT
  rw [h1.1, bit_nat (by omega) (by omega), arrive_K]
  have := hM t ht
  rw [List.getElem?_eq_getElem (by omega), Option.any_some, Int.toNat_natCast] at this
  have e : M.getD t.toNat 0 = M[t.toNat] := by simp [List.getD_eq_getElem?_getD, List.getElem?_eq_getElem (show t.toNat < M.length by omega)]
  rw [e]
  by_cases hc : M[t.toNat].testBit k = true
  · rw [if_pos hc, if_pos (this.1 hc)]
  · rw [if_neg hc, if_neg (fun q => hc (this.2 q))]

end Go.AM
