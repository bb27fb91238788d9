/- Comparing. -/
import Derived.Test.YthmfjfblndophaaAmPure
namespace Go.AM

section
variable {P : Program} {ι : Nat → Emb} {n : Nat}

/-- The fields of two structs, one after the other. -/
theorem run_eqFields (d : Nat) (w : World) (ih : ∀ (t : TypeId) (x x' y y' : Value) (q : Bool), eqV P d t x y = some q → VR ι n x x' → VR ι n y y' → ∀ D, d ≤ D → (Op.equalIn D t x' y').run P w = .ok q w)
    {xs xs' ys ys' : Array Value} (hx : AR ι n xs xs') (hy : AR ι n ys ys') (D : Nat) (hD : d ≤ D) : ∀ (fs : List Field) (q : Bool),
    fs.foldr (fun f r => if f.name ≠ "_" then
          (part P f.type xs f.offset).bind fun a => (part P f.type ys f.offset).bind fun b =>
            (eqV P d f.type a b).bind fun q => if q then r else some false
        else none) (some true) = some q →
    (forIn fs ((none : Option Bool), PUnit.unit) (fun (f : Field) (_ : Option Bool × PUnit) =>
      if f.name ≠ "_" then do
        let a ← Go.part f.type xs' f.offset
        let b ← Go.part f.type ys' f.offset
        let q ← Op.equalIn D f.type a b
        if (!q) = true then pure (ForInStep.done ((some false : Option Bool), PUnit.unit)) else pure (ForInStep.yield ((none : Option Bool), PUnit.unit))
      else pure (ForInStep.yield ((none : Option Bool), PUnit.unit))) : Sem (Option Bool × PUnit)).run P w = .ok (if q then none else some false, PUnit.unit) w := by
  intro fs
  induction fs with
  | nil => intro q hq; cases hq; rfl
  | cons f fs ihf =>
    intro q hq
    simp only [List.foldr_cons] at hq
    split at hq
    · rename_i hn
      obtain ⟨a, ha, hq⟩ := bind_some hq
      obtain ⟨b, hb, hq⟩ := bind_some hq
      obtain ⟨p, hp, hq⟩ := bind_some hq
      obtain ⟨a', ra, va⟩ := part_run hx ha
      obtain ⟨b', rb, vb⟩ := part_run hy hb
      have hrun := ih f.type a a' b b' p hp va vb D hD
      simp only [List.forIn_cons]
      rw [if_pos hn]
      simp only [Sem.run_bind, ra w, rb w, Result.andThen_ok, hrun]
      cases p with
      | true => simp only [Bool.not_true, Bool.false_eq_true, if_false, Sem.run_pure, Result.andThen_ok]; exact ihf q hq
      | false =>
        have hq' : false = q := by simpa using hq
        subst hq'
        rfl
    · cases hq

theorem run_eqElems (d : Nat) (w : World) (ih : ∀ (t : TypeId) (x x' y y' : Value) (q : Bool), eqV P d t x y = some q → VR ι n x x' → VR ι n y y' → ∀ D, d ≤ D → (Op.equalIn D t x' y').run P w = .ok q w)
    {xs xs' ys ys' : Array Value} (hx : AR ι n xs xs') (hy : AR ι n ys ys') (D : Nat) (hD : d ≤ D) (e : TypeId) (s : Nat) : ∀ (is : List Nat) (q : Bool),
    is.foldr (fun i r =>
          (part P e xs (i * s)).bind fun a => (part P e ys (i * s)).bind fun b =>
            (eqV P d e a b).bind fun q => if q then r else some false) (some true) = some q →
    (forIn is ((none : Option Bool), PUnit.unit) (fun (i : Nat) (_ : Option Bool × PUnit) => do
        let a ← Go.part e xs' (i * s)
        let b ← Go.part e ys' (i * s)
        let q ← Op.equalIn D e a b
        if (!q) = true then pure (ForInStep.done ((some false : Option Bool), PUnit.unit)) else pure (ForInStep.yield ((none : Option Bool), PUnit.unit))) : Sem (Option Bool × PUnit)).run P w
      = .ok (if q then none else some false, PUnit.unit) w := by
  intro is
  induction is with
  | nil => intro q hq; cases hq; rfl
  | cons i is ihf =>
    intro q hq
    simp only [List.foldr_cons] at hq
    obtain ⟨a, ha, hq⟩ := bind_some hq
    obtain ⟨b, hb, hq⟩ := bind_some hq
    obtain ⟨p, hp, hq⟩ := bind_some hq
    obtain ⟨a', ra, va⟩ := part_run hx ha
    obtain ⟨b', rb, vb⟩ := part_run hy hb
    have hrun := ih e a a' b b' p hp va vb D hD
    simp only [List.forIn_cons, Sem.run_bind, ra w, rb w, Result.andThen_ok, hrun]
    cases p with
    | true => simp only [Bool.not_true, Bool.false_eq_true, if_false, Sem.run_pure, Result.andThen_ok]; exact ihf q hq
    | false =>
      have hq' : false = q := by simpa using hq
      subst hq'
      rfl

theorem eqV_run (w : World) : ∀ (d : Nat) (t : TypeId) (x x' y y' : Value) (q : Bool), eqV P d t x y = some q → VR ι n x x' → VR ι n y y' →
    ∀ D, d ≤ D → (Op.equalIn D t x' y').run P w = .ok q w := by
  intro d
  induction d with
  | zero => intro t x x' y y' q h; cases h
  | succ d ih =>
    intro t x x' y y' q hq hx hy D hD
    obtain ⟨D, rfl⟩ : ∃ k, D = k + 1 := ⟨D - 1, by omega⟩
    have hD' : d ≤ D := by omega
    unfold eqV at hq
    split at hq
    · rename_i hu; cases hq; cases hx; cases hy
      simp only [Op.equalIn, Sem.run_bind, run_underlying hu, Result.andThen_ok, Sem.run_pure]
    · rename_i hu
      split at hq
      · cases hq; cases hx; cases hy
        rename_i hk
        simp only [Op.equalIn, Sem.run_bind, run_underlying hu, Result.andThen_ok, hk, if_true, Sem.run_pure]
      · cases hq
    · rename_i fs xs ys hu
      split at hq
      · cases hq
      · rename_i hst
        cases hx with
        | agg h1 h2 =>
          cases hy with
          | agg h3 h4 =>
            have := run_eqFields (P := P) (ι := ι) (n := n) d w ih ⟨h1, h2⟩ ⟨h3, h4⟩ D hD' fs.toList q hq
            simp only [Op.equalIn, Sem.run_bind, run_underlying hu, Result.andThen_ok, run_program, hst, Bool.false_eq_true, if_false]
            rw [← Array.forIn_toList]
            simp only [ne_eq] at this ⊢
            rw [this]
            cases q <;> rfl
    · rename_i len e xs ys hu
      obtain ⟨s, hs, hq⟩ := bind_some hq
      cases hx with
      | agg h1 h2 =>
        cases hy with
        | agg h3 h4 =>
          have := run_eqElems (P := P) (ι := ι) (n := n) d w ih ⟨h1, h2⟩ ⟨h3, h4⟩ D hD' e s (List.range len) q hq
          simp only [Op.equalIn, Sem.run_bind, run_underlying hu, Result.andThen_ok, run_sizeOf' hs]
          simp only [Std.Legacy.Range.forIn_eq_forIn_range', Std.Legacy.Range.size, Nat.sub_zero, Nat.add_one_sub_one, Nat.div_one]
          rw [← List.range_eq_range']
          rw [this]
          cases q <;> rfl
    · rename_i hu; cases hq; cases hx; cases hy <;>
        simp [Op.equalIn, Sem.run_bind, run_underlying hu, Result.andThen_ok, Sem.run_pure]
    · rename_i hu; cases hq; cases hy; cases hx <;>
        simp [Op.equalIn, Sem.run_bind, run_underlying hu, Result.andThen_ok, Sem.run_pure]
    · rename_i hu; cases hq; cases hx; cases hy <;>
        simp [Op.equalIn, Sem.run_bind, run_underlying hu, Result.andThen_ok, Sem.run_pure]
    · rename_i hu; cases hq; cases hy; cases hx <;>
        simp [Op.equalIn, Sem.run_bind, run_underlying hu, Result.andThen_ok, Sem.run_pure]
    · rename_i hu; cases hq; cases hx; cases hy
      simp [Op.equalIn, Sem.run_bind, run_underlying hu, Result.andThen_ok, Sem.run_pure]
    · rename_i hu; cases hq; cases hx; cases hy
      simp [Op.equalIn, Sem.run_bind, run_underlying hu, Result.andThen_ok, Sem.run_pure]
    · rename_i hu; cases hq; cases hx; cases hy
      simp [Op.equalIn, Sem.run_bind, run_underlying hu, Result.andThen_ok, Sem.run_pure]
    · cases hq

theorem equal_run (w : World) {t : TypeId} {x x' y y' : Value} {q : Bool} (hq : eqV P 10 t x y = some q) (hx : VR ι n x x') (hy : VR ι n y y') :
    (Op.equal t x' y').run P w = .ok q w := eqV_run w 10 t x x' y y' q hq hx hy Op.maxDepth (by unfold Op.maxDepth; omega)

end
end Go.AM
