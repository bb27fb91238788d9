/- Slicing, appending. -/
import Derived.Test.YthmfjfblndophaaAmHeap
namespace Go.AM

section
variable {P : Program} {E : Env} {ι : Nat → Emb} {h : H} {w : World}

theorem capK_le {c c' : Nat} (hc : CapR c c') : capK c ≤ c' := by
  unfold capK
  rcases hc with ⟨h1, h2⟩ | ⟨h1, h2⟩
  · rw [if_pos h1]; omega
  · rw [if_neg (by omega)]; exact h2

/-- A bound is a number: it stands for itself. -/
theorem bound_same {n : Nat} {lo : Option Operand} {e e' : Operand → Value} {y d m : Nat} (he : ∀ x, lo = some x → VR ι n (e x) (e' x)) (hb : bound (lo.map e) y d = some m) :
    lo.map e' = lo.map e := by
  cases lo with
  | none => rfl
  | some x =>
    have := he x rfl
    simp only [Option.map_some] at hb ⊢
    unfold bound at hb
    split at hb
    · rename_i hh; cases hh
    · rename_i hh
      simp only [Option.some.injEq] at hh
      rw [hh] at this ⊢
      generalize e' x = u at this ⊢
      cases this
      rfl
    · cases hb

theorem sliceBound_run {k : IntKind} {i : Int} {y y' m d : Nat} (hb : bound (some (.int k i)) y d = some m) (hy : y ≤ y') (code : BoundsCode) :
    (Instr.sliceBound (.int k i) y' code).run P w = .ok m w := by
  simp only [bound] at hb
  split at hb
  · rename_i hc
    cases hb
    simp only [Instr.sliceBound, asIntOf, Sem.run_bind, Sem.run_pure, Result.andThen_ok]
    rw [if_pos (by omega)]
    rfl
  · cases hb

theorem bound_le {v : Option Value} {y d m : Nat} (hb : bound v y d = some m) (hd : d ≤ y) : m ≤ y := by
  unfold bound at hb
  split at hb
  · cases hb; exact hd
  · split at hb
    · cases hb; omega
    · cases hb
  · cases hb

theorem sliceBounds_run {lo hi mx : Option Value} {n K cap m hh l : Nat} (hK : K ≤ cap) (hm : bound mx K K = some m) (hh' : bound hi m n = some hh) (hl : bound lo hh 0 = some l)
    (hx : (mx.isSome && hi.isNone) = false) : (Instr.sliceBounds true n cap lo hi mx).run P w = .ok (l, hh, if mx.isSome then m else cap) w := by
  have lowR : ∀ (code : BoundsCode) (m' : Nat), (match lo with
      | some v => (do let l ← Instr.sliceBound v hh code; pure (l, hh, m') : Sem (Nat × Nat × Nat))
      | none => (do let l ← pure 0; pure (l, hh, m') : Sem (Nat × Nat × Nat))).run P w = .ok (l, hh, m') w := by
    intro code m'
    cases lo with
    | none => simp only [bound] at hl; cases hl; rfl
    | some v =>
      cases v <;> simp only [bound] at hl <;> try (cases hl; done)
      rename_i k i
      have := sliceBound_run (P := P) (w := w) (k := k) (i := i) (d := 0) (by simp only [bound]; exact hl) (Nat.le_refl hh) code
      simp only [Sem.run_bind, this, Result.andThen_ok, Sem.run_pure]
  cases mx with
  | none =>
    simp only [bound] at hm
    cases hm
    cases hi with
    | none =>
      simp only [bound] at hh'
      cases hh'
      have := lowR .sliceB cap
      simp only [Instr.sliceBounds, Sem.run_bind, Sem.run_pure, Result.andThen_ok, Option.isSome_none, Bool.false_eq_true, if_false] at this ⊢
      cases lo <;> exact this
    | some v =>
      cases v <;> simp only [bound] at hh' <;> try (cases hh'; done)
      rename_i k i
      have h1 := sliceBound_run (P := P) (w := w) (k := k) (i := i) (y' := cap) (d := n) (by simp only [bound]; exact hh') hK .sliceAcap
      have := lowR .sliceB cap
      simp only [Instr.sliceBounds, Sem.run_bind, Sem.run_pure, Result.andThen_ok, if_true, h1, Option.isSome_none, Bool.false_eq_true, if_false] at this ⊢
      cases lo <;> exact this
  | some u =>
    cases u <;> simp only [bound] at hm <;> try (cases hm; done)
    rename_i k i
    have h0 := sliceBound_run (P := P) (w := w) (k := k) (i := i) (y' := cap) (d := K) (by simp only [bound]; exact hm) hK .slice3Acap
    cases hi with
    | none => simp at hx
    | some v =>
      cases v <;> simp only [bound] at hh' <;> try (cases hh'; done)
      rename_i k' i'
      have h1 := sliceBound_run (P := P) (w := w) (k := k') (i := i') (y' := m) (d := n) (by simp only [bound]; exact hh') (Nat.le_refl _) .slice3B
      have := lowR .slice3C m
      simp only [Instr.sliceBounds, Sem.run_bind, if_true, h0, Result.andThen_ok, h1, Option.isSome_some] at this ⊢
      cases lo <;> exact this

theorem slice_run (r : Rel P E ι h w) {t : TypeId} {x x' v : Value} {lo hi mx : Option Value} (hx : VR ι h.nx x x') (hs : slice P t x lo hi mx h = some v) :
    ∃ v', (Instr.sliceAt t x' lo hi mx).run P w = .ok v' w ∧ VR ι h.nx v v' := by
  unfold slice at hs
  split at hs
  · rename_i e hu
    cases hx
    obtain ⟨s, hsz, hs⟩ := bind_some hs
    obtain ⟨m, h3, hs⟩ := bind_some hs
    obtain ⟨hh, h2, hs⟩ := bind_some hs
    obtain ⟨l, h1, hs⟩ := bind_some hs
    split at hs
    · cases hs
    · rename_i hc
      cases hs
      have e3 : m = 0 := by have := bound_le h3 (Nat.le_refl _); omega
      subst e3
      have e2 : hh = 0 := by have := bound_le h2 (Nat.le_refl _); omega
      subst e2
      have e1 : l = 0 := by have := bound_le h1 (Nat.le_refl _); omega
      subst e1
      have hb := sliceBounds_run (P := P) (w := w) (cap := 0) (Nat.le_refl 0) h3 h2 h1 (by cases mx <;> cases hi <;> simp_all)
      refine ⟨_, ?_, .slNil⟩
      simp only [Instr.sliceAt, Sem.run_bind, run_underlying hu, Result.andThen_ok, Instr.slice, hb, run_sizeOf' hsz, Sem.run_pure]
      simp
  · rename_i e b o n c hu
    split at hs
    · rename_i cs e' own hb
      split at hs
      · rename_i hc
        obtain ⟨rfl, hcU, hmx⟩ := hc
        obtain ⟨s, hsz, hs⟩ := bind_some hs
        obtain ⟨m, hm, hs⟩ := bind_some hs
        obtain ⟨hh, hhi, hs⟩ := bind_some hs
        obtain ⟨l, hl, hs⟩ := bind_some hs
        have hsb : s = (ι b).sz := by
          have hR := r.blk b _ hb
          cases own with
          | true => obtain ⟨_, _, _, h2, _⟩ := hR; rw [hsz] at h2; exact Option.some.inj h2
          | false => have h2 := hR.2.1; rw [hsz] at h2; exact Option.some.inj h2
        have hmK := bound_le hm (Nat.le_refl _)
        cases hx with
        | sl hbn hcap hk hlim =>
          rename_i c'
          have hKc := capK_le hcap
          have hrun := sliceBounds_run (P := P) (w := w) hKc hm hhi hl hmx
          have hhm : hh ≤ m := by
            cases hi with
            | none =>
              simp only [bound] at hhi
              cases hhi
              cases mx with
              | none => simp only [bound] at hm; cases hm; exact hk
              | some _ => simp at hmx
            | some v => 
              cases v <;> simp only [bound] at hhi <;> try (cases hhi; done)
              split at hhi
              · cases hhi; omega
              · cases hhi
          have hlh : l ≤ hh := bound_le hl (Nat.zero_le _)
          have key : (Instr.sliceAt t (.slice (some ⟨(ι b).g, (ι b).base + o, none⟩) n c') lo hi mx).run P w =
              .ok (.slice (if (if mx.isSome then m else c') = l then some ⟨(ι b).g, (ι b).base + o, none⟩ else some ⟨(ι b).g, (ι b).base + o + l * s, none⟩) (hh - l) ((if mx.isSome then m else c') - l)) w := by
            simp only [Instr.sliceAt, Sem.run_bind, run_underlying hu, Result.andThen_ok, Instr.slice, hrun, run_sizeOf' hsz, Sem.run_pure, Option.map_some, addr_add]
          rw [key]
          split at hs
          · rename_i hex
            cases hs
            have hmm : (if mx.isSome then m else c') = m := by
              cases hmxs : mx.isSome with
              | true => simp
              | false =>
                rw [hmxs] at hex
                have hcU' : c < U := by rcases hex with h | h; exact absurd h (by simp); exact h
                have : mx = none := by cases mx with | none => rfl | some _ => simp at hmxs
                subst this
                simp only [bound] at hm
                cases hm
                rcases hcap with ⟨h1, h2⟩ | ⟨h1, h2⟩
                · simp only [Bool.false_eq_true, if_false, h2]; unfold capK; rw [if_pos h1]
                · omega
            rw [hmm]
            have hle : m ≤ c' := Nat.le_trans hmK hKc
            have hprod : (m - l) * (ι b).sz + l * (ι b).sz ≤ c' * (ι b).sz := by
              rw [← Nat.add_mul]
              exact Nat.mul_le_mul_right _ (by omega)
            by_cases hml : m = l
            · rw [if_pos hml, if_pos hml]
              refine ⟨_, rfl, .sl hbn (.inl ⟨by omega, rfl⟩) ?_ ?_⟩
              · unfold capK; rw [if_pos (by omega)]; omega
              · rw [hml]; simp; omega
            · rw [if_neg hml, if_neg hml]
              refine ⟨_, rfl, ?_⟩
              rw [Nat.add_assoc]
              refine .sl hbn (.inl ⟨by omega, rfl⟩) ?_ ?_
              · unfold capK; rw [if_pos (by omega)]; omega
              · rw [hsb]; omega
          · rename_i hnex
            cases hs
            have hmn : mx = none := by cases mx with | none => rfl | some _ => simp at hnex
            subst hmn
            have hcU2 : ¬ c < U := by simpa using hnex
            simp only [bound] at hm
            cases hm
            simp only [Option.isSome_none, Bool.false_eq_true, if_false]
            have hprod : (c' - l) * (ι b).sz + l * (ι b).sz ≤ c' * (ι b).sz := by
              rw [← Nat.add_mul]
              exact Nat.mul_le_mul_right _ (by omega)
            have hcK : capK (U + (capK c - l)) = capK c - l := by
              generalize capK c - l = z
              unfold capK
              rw [if_neg (by omega)]
              omega
            by_cases hml : c' = l
            · have hl0 : capK c = l := by omega
              have hh0 : hh = l := by omega
              rw [if_pos hml]
              refine ⟨_, rfl, ?_⟩
              rw [hl0, hh0, hml]
              simp only [Nat.sub_self, Nat.add_zero]
              exact .sl0 hbn (by unfold capK; simp)
            · rw [if_neg hml]
              refine ⟨_, rfl, ?_⟩
              rw [Nat.add_assoc]
              refine .sl hbn (.inr ⟨by omega, by omega⟩) (by rw [hcK]; omega) ?_
              rw [hsb]; omega
        | @sl0 _ _ _ ad hbn hK0 =>
          rw [hK0] at hm hmK
          have hm0 : m = 0 := by omega
          subst hm0
          have hh0 : hh = 0 := by have := bound_le hhi (Nat.le_refl _); omega
          subst hh0
          have hl0 : l = 0 := by have := bound_le hl (Nat.le_refl _); omega
          subst hl0
          have hrun := sliceBounds_run (P := P) (w := w) (cap := 0) (Nat.le_refl 0) hm hhi hl hmx
          have key : (Instr.sliceAt t (.slice (some ad) 0 0) lo hi mx).run P w = .ok (.slice (some ad) 0 0) w := by
            simp only [Instr.sliceAt, Sem.run_bind, run_underlying hu, Result.andThen_ok, Instr.slice, hrun, run_sizeOf' hsz, Sem.run_pure]
            simp
          rw [key]
          split at hs
          · cases hs
            exact ⟨_, rfl, .sl0 hbn (by unfold capK; simp [U])⟩
          · cases hs
            refine ⟨_, rfl, ?_⟩
            simp only [Nat.zero_mul, Nat.add_zero, Nat.sub_self]
            exact .sl0 hbn (by unfold capK; simp)
      · cases hs
    · cases hs
  · cases hs

end
end Go.AM
