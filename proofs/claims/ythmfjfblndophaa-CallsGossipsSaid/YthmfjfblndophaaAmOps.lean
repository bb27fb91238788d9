/- The operations, one by one. -/
import Derived.Test.YthmfjfblndophaaAmEq
namespace Go.AM

section
variable {P : Program} {E : Env} {ι : Nat → Emb} {n : Nat}

theorem eqGuard_run (w : World) {op : BinOp} {t : TypeId} {x x' y y' v : Value} (hb : binOp P op t x y = some v) (hx : VR ι n x x') (hy : VR ι n y y') (ox oy : Operand) :
    (eqGuard op t ox oy x' y').run P w = .ok () w := by
  by_cases ho : op = .eql ∨ op = .neq
  · unfold eqGuard
    rw [if_neg (by rcases ho with rfl | rfl <;> simp)]
    cases hx <;> cases hy <;> try rfl
    · exfalso
      rcases ho with rfl | rfl
      all_goals
        simp only [binOp] at hb
        obtain ⟨q, hq, _⟩ := map_some hb
        unfold eqV at hq
        split at hq <;> simp_all
    · simp only [Sem.run_bind, run_program, Result.andThen_ok]
      simp only [binOp] at hb
      split at hb
      · cases hb
      · rename_i hg
        rw [if_pos (by simpa using hg)]
        rfl
  · cases op <;> first | exact absurd (.inl rfl) ho | exact absurd (.inr rfl) ho | rfl

theorem binOp_run (w : World) {op : BinOp} {t : TypeId} {x x' y y' v : Value} (hb : binOp P op t x y = some v) (hx : VR ι n x x') (hy : VR ι n y y') :
    ∃ v', (Go.binOp op t x' y').run P w = .ok v' w ∧ VR ι n v v' := by
  unfold binOp at hb
  split at hb
  · rename_i k a k' b
    cases hx; cases hy
    split at hb
    · split at hb
      · cases hb
      · rename_i hlt
        cases hb
        exact ⟨_, by simp only [Go.binOp, Op.shift]; rw [if_neg hlt]; rfl, .int _ _⟩
    · split at hb
      · cases hb
      · rename_i hlt
        cases hb
        exact ⟨_, by simp only [Go.binOp, Op.shift]; rw [if_neg hlt]; rfl, .int _ _⟩
    · split at hb
      · rename_i hk
        subst hk
        exact ⟨v, (intBin_run (ι := ι) hb w).1, (intBin_run (ι := ι) (P := P) hb w (T := t)).2 n⟩
      · cases hb
  · rename_i a b
    split at hb
    · cases hb
    · cases hx; cases hy
      rename_i h1 h2 _ h3 h4
      split at hb
      · obtain ⟨q, hq, rfl⟩ := map_some hb
        exact ⟨_, by simp only [Go.binOp, Sem.run_bind, equal_run w hq (.agg h1 h2) (.agg h3 h4), Result.andThen_ok, Sem.run_pure], .bool _⟩
      · obtain ⟨q, hq, rfl⟩ := map_some hb
        exact ⟨_, by simp only [Go.binOp, Sem.run_bind, equal_run w hq (.agg h1 h2) (.agg h3 h4), Result.andThen_ok, Sem.run_pure], .bool _⟩
      · cases hb
  · rename_i hni hna
    split at hb
    · obtain ⟨q, hq, rfl⟩ := map_some hb
      have he := equal_run w hq hx hy
      refine ⟨.bool q, ?_, .bool _⟩
      have : Go.binOp .eql t x' y' = (do pure (.bool (← Op.equal t x' y'))) := by
        cases hx <;> cases hy <;> first | rfl | (exfalso; simp_all [eqV]; done) | (exfalso; unfold eqV at hq; split at hq <;> simp_all; done)
      rw [this]
      simp only [Sem.run_bind, he, Result.andThen_ok, Sem.run_pure]
    · obtain ⟨q, hq, rfl⟩ := map_some hb
      have he := equal_run w hq hx hy
      refine ⟨.bool (!q), ?_, .bool _⟩
      have : Go.binOp .neq t x' y' = (do pure (.bool (!(← Op.equal t x' y')))) := by
        cases hx <;> cases hy <;> first | rfl | (exfalso; simp_all [eqV]; done) | (exfalso; unfold eqV at hq; split at hq <;> simp_all; done)
      rw [this]
      simp only [Sem.run_bind, he, Result.andThen_ok, Sem.run_pure]
    · cases hb

/-- Filling a row's parts. -/
theorem foldl_set (off : Nat) : ∀ (l l' : List Value) (k : Nat) (cs cs' : Array Value), LR ι n l l' → AR ι n cs cs' →
    AR ι n ((l.zipIdx k).foldl (fun cs (cj : Value × Nat) => cs.setIfInBounds (off + cj.2) cj.1) cs) ((l'.zipIdx k).foldl (fun cs (cj : Value × Nat) => cs.setIfInBounds (off + cj.2) cj.1) cs') := by
  intro l
  induction l with
  | nil =>
    intro l' k cs cs' hl hc
    cases l' with
    | nil => exact hc
    | cons a b => exact absurd hl.1 (by simp)
  | cons x l ih =>
    intro l' k cs cs' hl hc
    obtain ⟨x', l', rfl, hx, hl⟩ := hl.uncons
    simp only [List.zipIdx_cons, List.foldl_cons]
    refine ih l' (k + 1) _ _ hl ⟨by simp [hc.1], fun i v v' hv hv' => ?_⟩
    rw [Array.getElem?_setIfInBounds] at hv hv'
    by_cases hi : off + k = i
    · rw [if_pos hi] at hv hv'
      split at hv
      · split at hv'
        · cases hv; cases hv'; exact hx
        · cases hv'
      · cases hv
    · rw [if_neg hi] at hv hv'
      exact hc.2 i v v' hv hv'

theorem fill_rel (place : Nat → Option (Nat × Nat)) (e e' : Operand → Value) : ∀ (l : List (Nat × Operand)) (cs cs' r : Array Value), (∀ p ∈ l, VR ι n (e p.2) (e' p.2)) → AR ι n cs cs' →
    Instr.fill place cs (l.map fun (i, x) => (i, e x)) = some r → ∃ r', Instr.fill place cs' (l.map fun (i, x) => (i, e' x)) = some r' ∧ AR ι n r r' := by
  intro l
  induction l with
  | nil => intro cs cs' r _ hc h; cases h; exact ⟨cs', rfl, hc⟩
  | cons p l ih =>
    intro cs cs' r he hc h
    obtain ⟨i, x⟩ := p
    simp only [List.map_cons, Instr.fill] at h ⊢
    have hx : AR ι n (e x).cells (e' x).cells := (he (i, x) (by simp)).cells
    cases hp : place i with
    | none => rw [hp] at h; cases h
    | some q =>
      obtain ⟨off, size⟩ := q
      rw [hp] at h
      simp only at h ⊢
      split at h
      · cases h
      · rename_i hc1
        rw [if_neg (by rw [← hx.1, ← hc.1]; exact hc1)]
        refine ih _ _ r (fun p hp => he p (by simp [hp])) ?_ h
        have := foldl_set (ι := ι) (n := n) off (e x).cells.toList (e' x).cells.toList 0 cs cs' hx.toList hc
        rw [← Array.foldl_toList, ← Array.foldl_toList]
        simpa [Array.toList_zipIdx] using this

theorem places_run : ∀ (fs : List Field) (ps : List (Nat × Nat)) (w : World), places P fs = some ps →
    (fs.mapM (fun f => do pure (f.offset, ← sizeOf f.type)) : Sem (List (Nat × Nat))).run P w = .ok ps w := by
  intro fs
  induction fs with
  | nil => intro ps w h; cases h; rfl
  | cons f fs ih =>
    intro ps w h
    unfold places at h ih
    simp only [List.mapM_cons] at h ⊢
    obtain ⟨a, ha, h⟩ := bind_some h
    obtain ⟨s, hs, rfl⟩ := map_some ha
    obtain ⟨as, has, h⟩ := bind_some h
    cases h
    simp only [Sem.run_bind, run_sizeOf' hs, Result.andThen_ok, Sem.run_pure, ih as w has]

theorem build_run (w : World) {t : TypeId} (l : List (Nat × Operand)) (e e' : Operand → Value) {v : Value} (he : ∀ p ∈ l, VR ι n (e p.2) (e' p.2))
    (hb : build P t (l.map fun (i, x) => (i, e x)) = some v) : ∃ v', (Instr.build t (l.map fun (i, x) => (i, e' x)).toArray).run P w = .ok v' w ∧ VR ι n v v' := by
  unfold build at hb
  obtain ⟨z, hz, hb⟩ := bind_some hb
  split at hb
  · rename_i fs hu
    obtain ⟨ps, hps, hb⟩ := bind_some hb
    obtain ⟨r, hr, rfl⟩ := map_some hb
    obtain ⟨r', hr', hrr⟩ := fill_rel (ι := ι) (n := n) _ e e' l _ _ r he (VR.cells (zero_rel (ι := ι) (n := n) hz)) hr
    refine ⟨.agg r', ?_, .agg hrr.1 hrr.2⟩
    have hm : (fs.mapM (fun f => do pure (f.offset, ← sizeOf f.type)) : Sem (Array (Nat × Nat))).run P w = .ok ps.toArray w := by
      rw [Array.mapM_eq_mapM_toList]
      simp only [Sem.run_map, places_run fs.toList ps w hps, Result.andThen_ok]
    simp only [Instr.build, Sem.run_bind, run_zero hz, Result.andThen_ok, run_underlying hu, hm]
    have hpl : (fun i : Nat => ps.toArray[i]?) = (fun i : Nat => ps[i]?) := by funext i; simp
    rw [hpl, hr']
    rfl
  · rename_i m e1 hu
    obtain ⟨s, hs, hb⟩ := bind_some hb
    obtain ⟨r, hr, rfl⟩ := map_some hb
    obtain ⟨r', hr', hrr⟩ := fill_rel (ι := ι) (n := n) _ e e' l _ _ r he (VR.cells (zero_rel (ι := ι) (n := n) hz)) hr
    refine ⟨.agg r', ?_, .agg hrr.1 hrr.2⟩
    simp only [Instr.build, Sem.run_bind, run_zero hz, Result.andThen_ok, run_underlying hu, run_sizeOf' hs, hr']
    rfl
  · cases hb

end
end Go.AM
