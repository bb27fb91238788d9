/- Parts of the proof, put together: what the functions of the program answer, and plain laws. -/
import Derived.Test.YthmfjfblndophaaAmSim
import Derived.Test.YthmfjfblndophaaProg
import Derived.KernelRfl
import Derived.Test.YthmfjfblndophaaAmRun

section

/- The seat's environment, what its types are, and calls in the end. -/
namespace Go.AM
open Go.Proofs
/-- No package-level variables; the calls that are made by themselves. -/
def E0 : Env := ⟨0, fun _ => none, fun f => f == 22 || f == 1000033⟩

noncomputable abbrev rn : Rec := run Try.prog E0

variable {R : Type} {h : H} {b o : Nat} {v : Value}
theorem ag0 : aggT Try.prog 0 = some false := by kernel_rfl

theorem d0 {K : Value → Option R} : ld Try.prog h 0 b o K = (h.cell b o).bind K := ld_scS ag0

theorem ag1 : aggT Try.prog 1 = some false := by kernel_rfl

theorem sz1 : size? Try.prog 1 = some 1 := by kernel_rfl

theorem d1 {K : Value → Option R} : ld Try.prog h 1 b o K = (h.cell b o).bind K := ld_scS ag1

theorem w1 {K : H → Option R} : st Try.prog h 1 b o v K = (wrc 1 h b o v).bind K := st_S sz1

theorem sz2 : size? Try.prog 2 = some 1 := by kernel_rfl

theorem w2 {K : H → Option R} : st Try.prog h 2 b o v K = (wrc 1 h b o v).bind K := st_S sz2

theorem ag3 : aggT Try.prog 3 = some false := by kernel_rfl

theorem sz3 : size? Try.prog 3 = some 1 := by kernel_rfl

theorem d3 {K : Value → Option R} : ld Try.prog h 3 b o K = (h.cell b o).bind K := ld_scS ag3

theorem w3 {K : H → Option R} : st Try.prog h 3 b o v K = (wrc 1 h b o v).bind K := st_S sz3

theorem ag22 : aggT Try.prog 22 = some false := by kernel_rfl

theorem d22 {K : Value → Option R} : ld Try.prog h 22 b o K = (h.cell b o).bind K := ld_scS ag22

theorem ag24 : aggT Try.prog 24 = some true := by kernel_rfl

theorem sz24 : size? Try.prog 24 = some 2 := by kernel_rfl

theorem d24 {K : Value → Option R} : ld Try.prog h 24 b o K = (h.rd b o 2).bind fun l => K (.agg l.toArray) := ld_agS ag24 sz24

theorem ag25 : aggT Try.prog 25 = some false := by kernel_rfl

theorem d25 {K : Value → Option R} : ld Try.prog h 25 b o K = (h.cell b o).bind K := ld_scS ag25

theorem ag29 : aggT Try.prog 29 = some false := by kernel_rfl

theorem sz29 : size? Try.prog 29 = some 1 := by kernel_rfl

theorem d29 {K : Value → Option R} : ld Try.prog h 29 b o K = (h.cell b o).bind K := ld_scS ag29

theorem w29 {K : H → Option R} : st Try.prog h 29 b o v K = (wrc 1 h b o v).bind K := st_S sz29

theorem ag31 : aggT Try.prog 31 = some true := by kernel_rfl

theorem sz31 : size? Try.prog 31 = some 2 := by kernel_rfl

theorem d31 {K : Value → Option R} : ld Try.prog h 31 b o K = (h.rd b o 2).bind fun l => K (.agg l.toArray) := ld_agS ag31 sz31

theorem w31 {K : H → Option R} : st Try.prog h 31 b o v K = (wrc 2 h b o v).bind K := st_S sz31

theorem ag56 : aggT Try.prog 56 = some true := by kernel_rfl

theorem sz56 : size? Try.prog 56 = some 3 := by kernel_rfl

theorem d56 {K : Value → Option R} : ld Try.prog h 56 b o K = (h.rd b o 3).bind fun l => K (.agg l.toArray) := ld_agS ag56 sz56

theorem ag59 : aggT Try.prog 59 = some true := by kernel_rfl

theorem sz59 : size? Try.prog 59 = some 3 := by kernel_rfl

theorem d59 {K : Value → Option R} : ld Try.prog h 59 b o K = (h.rd b o 3).bind fun l => K (.agg l.toArray) := ld_agS ag59 sz59

end Go.AM

end

section

/- PLAIN: gossip needs 2n - 4 calls (shown for at most 7 people). -/
namespace Go.AM
/-! ### Who knows what, and who still can tell -/
abbrev Kn := Nat → Nat → Bool

def gStep (K : Kn) (c : Nat × Nat) : Kn := fun p q => if p = c.1 ∨ p = c.2 then K c.1 q || K c.2 q else K p q

def gRun (K : Kn) (l : List (Nat × Nat)) : Kn := l.foldl gStep K

def gOwn : Kn := fun p q => p == q

def gBack (x : Nat) : List (Nat × Nat) → Nat → Bool
  | [], p => p == x
  | c :: l, p => gBack x l p || ((p == c.1 || p == c.2) && (gBack x l c.1 || gBack x l c.2))

theorem gRun_snoc (K : Kn) (l : List (Nat × Nat)) (c : Nat × Nat) : gRun K (l ++ [c]) = gStep (gRun K l) c := by unfold gRun; rw [List.foldl_append]; rfl

theorem gRun_app (K : Kn) (l m : List (Nat × Nat)) : gRun K (l ++ m) = gRun (gRun K l) m := by unfold gRun; rw [List.foldl_append]

theorem gRun_iff (x q : Nat) : ∀ (l : List (Nat × Nat)) (K : Kn), gRun K l x q = true ↔ ∃ p, gBack x l p = true ∧ K p q = true
  | [], K => by
    constructor
    · intro h; exact ⟨x, by simp [gBack], h⟩
    · rintro ⟨p, h1, h2⟩
      have : p = x := by simpa [gBack] using h1
      rw [this] at h2; exact h2
  | c :: l, K => by
    rw [show gRun K (c :: l) = gRun (gStep K c) l from rfl, gRun_iff x q l]
    constructor
    · rintro ⟨p, h1, h2⟩
      by_cases hp : p = c.1 ∨ p = c.2
      · have hb : (gBack x l c.1 || gBack x l c.2) = true := by rcases hp with rfl | rfl <;> simp [h1]
        have h3 : K c.1 q = true ∨ K c.2 q = true := by simpa [gStep, hp] using h2
        rcases h3 with h3 | h3
        · exact ⟨c.1, by unfold gBack; rw [hb]; simp, h3⟩
        · exact ⟨c.2, by unfold gBack; rw [hb]; simp, h3⟩
      · exact ⟨p, by simp [gBack, h1], by simpa [gStep, hp] using h2⟩
    · rintro ⟨p, h1, h2⟩
      simp only [gBack, Bool.or_eq_true, Bool.and_eq_true, beq_iff_eq] at h1
      rcases h1 with h1 | ⟨h1, h3⟩
      · refine ⟨p, h1, ?_⟩
        by_cases hp : p = c.1 ∨ p = c.2
        · simp only [gStep, hp, if_true]
          rcases hp with rfl | rfl <;> simp [h2]
        · simp [gStep, hp, h2]
      · have h4 : (K c.1 q || K c.2 q) = true := by rcases h1 with rfl | rfl <;> simp [h2]
        rcases h3 with h3 | h3
        · exact ⟨c.1, h3, by simpa [gStep] using h4⟩
        · exact ⟨c.2, h3, by simpa [gStep] using h4⟩

/-! ### A person is left out -/
/-- All but x know at least as much, and r what x knows too. -/
def GSub (x r : Nat) (K K' : Kn) : Prop := (∀ y q, y ≠ x → q ≠ x → K y q = true → K' y q = true) ∧ ∀ q, q ≠ x → K x q = true → K' r q = true

/-- Calls among others. -/
def GOk (S : List Nat) (x : Nat) (l : List (Nat × Nat)) : Prop := ∀ c ∈ l, (c.1 ∈ S ∧ c.1 ≠ x) ∧ (c.2 ∈ S ∧ c.2 ≠ x) ∧ c.1 ≠ c.2

def GIn (S : List Nat) (l : List (Nat × Nat)) : Prop := ∀ c ∈ l, c.1 ∈ S ∧ c.2 ∈ S ∧ c.1 ≠ c.2

theorem GOk.app {S : List Nat} {x : Nat} {l m : List (Nat × Nat)} (h : GOk S x l) (h' : GOk S x m) : GOk S x (l ++ m) := fun c hc => (List.mem_append.1 hc).elim (h c) (h' c)

theorem gmono {K : Kn} {c : Nat × Nat} {p q : Nat} (h : K p q = true) : gStep K c p q = true := by
  unfold gStep
  split
  · rename_i hp; rcases hp with rfl | rfl <;> simp [h]
  · exact h

theorem g_switch {x a b : Nat} {K K' : Kn} {c : Nat × Nat} (h : GSub x a K K') (h1 : c.1 ≠ x) (h2 : c.2 ≠ x) (ha : a = c.1 ∨ a = c.2) (hb : b = c.1 ∨ b = c.2) : GSub x b (gStep K c) (gStep K' c) := by
  constructor
  · intro y q hy hq hk
    unfold gStep at hk ⊢
    split at hk
    · rename_i hp
      rw [if_pos hp]
      simp only [Bool.or_eq_true] at hk ⊢
      exact hk.imp (h.1 _ q h1 hq) (h.1 _ q h2 hq)
    · rename_i hp
      rw [if_neg hp]
      exact h.1 y q hy hq hk
  · intro q hq hk
    have hx : ¬ (x = c.1 ∨ x = c.2) := fun e => e.elim (fun e => h1 e.symm) (fun e => h2 e.symm)
    have hk' : K x q = true := by simpa [gStep, hx] using hk
    have := h.2 q hq hk'
    unfold gStep
    rw [if_pos hb]
    rcases ha with rfl | rfl <;> simp [this]

theorem g_step {S : List Nat} {x r : Nat} {K K' : Kn} {c : Nat × Nat} (h : GSub x r K K') (hr : r ≠ x) (hrS : r ∈ S) (h1 : c.1 ∈ S) (h2 : c.2 ∈ S) (h12 : c.1 ≠ c.2) :
    ∃ l', GOk S x l' ∧ l'.length ≤ 1 ∧ GSub x r (gStep K c) (gRun K' l') ∧ ((c = (x, r) ∨ c = (r, x)) → l' = []) := by
  obtain ⟨a, b⟩ := c
  simp only at h1 h2 h12
  by_cases ha : a = x
  · subst ha
    have hb : b ≠ a := fun e => h12 e.symm
    by_cases hbr : b = r
    · subst hbr
      refine ⟨[], fun c hc => by simp at hc, by simp, ⟨fun y q hy hq hk => ?_, fun q hq hk => ?_⟩, fun _ => rfl⟩
      · show K' y q = true
        unfold gStep at hk
        split at hk
        · rename_i hp
          simp only [Bool.or_eq_true] at hk
          rcases hp with hp | hp
          · exact absurd hp hy
          · simp only at hp
            subst hp
            exact hk.elim (h.2 q hq) (h.1 _ q hy hq)
        · exact h.1 y q hy hq hk
      · show K' b q = true
        have hk' : K a q = true ∨ K b q = true := by simpa [gStep] using hk
        exact hk'.elim (h.2 q hq) (h.1 _ q hb hq)
    · refine ⟨[(r, b)], fun c hc => ?_, by simp, ⟨fun y q hy hq hk => ?_, fun q hq hk => ?_⟩, fun e => ?_⟩
      · rw [List.mem_singleton.1 hc]; exact ⟨⟨hrS, hr⟩, ⟨h2, hb⟩, fun e => hbr e.symm⟩
      · show gStep K' (r, b) y q = true
        unfold gStep at hk
        split at hk
        · rename_i hp
          simp only [Bool.or_eq_true] at hk
          rcases hp with hp | hp
          · exact absurd hp hy
          · simp only at hp
            subst hp
            have : K' r q = true ∨ K' y q = true := hk.imp (h.2 q hq) (h.1 _ q hy hq)
            unfold gStep
            rw [if_pos (.inr rfl)]
            simpa using this
        · exact gmono (h.1 y q hy hq hk)
      · show gStep K' (r, b) r q = true
        have hk' : K a q = true ∨ K b q = true := by simpa [gStep] using hk
        have : K' r q = true ∨ K' b q = true := hk'.imp (h.2 q hq) (h.1 _ q hb hq)
        unfold gStep
        rw [if_pos (.inl rfl)]
        simpa using this
      · rcases e with e | e
        · simp at e; exact absurd e hbr
        · simp at e; exact absurd e.1.symm hr
  · by_cases hb : b = x
    · subst hb
      by_cases har : a = r
      · subst har
        refine ⟨[], fun c hc => by simp at hc, by simp, ⟨fun y q hy hq hk => ?_, fun q hq hk => ?_⟩, fun _ => rfl⟩
        · show K' y q = true
          unfold gStep at hk
          split at hk
          · rename_i hp
            simp only [Bool.or_eq_true] at hk
            rcases hp with hp | hp
            · simp only at hp
              subst hp
              exact hk.elim (h.1 _ q hy hq) (h.2 q hq)
            · exact absurd hp hy
          · exact h.1 y q hy hq hk
        · show K' a q = true
          have hk' : K a q = true ∨ K b q = true := by simpa [gStep] using hk
          exact hk'.elim (h.1 _ q ha hq) (h.2 q hq)
      · refine ⟨[(a, r)], fun c hc => ?_, by simp, ⟨fun y q hy hq hk => ?_, fun q hq hk => ?_⟩, fun e => ?_⟩
        · rw [List.mem_singleton.1 hc]; exact ⟨⟨h1, ha⟩, ⟨hrS, hr⟩, har⟩
        · show gStep K' (a, r) y q = true
          unfold gStep at hk
          split at hk
          · rename_i hp
            simp only [Bool.or_eq_true] at hk
            rcases hp with hp | hp
            · simp only at hp
              subst hp
              have : K' y q = true ∨ K' r q = true := hk.imp (h.1 _ q hy hq) (h.2 q hq)
              unfold gStep
              rw [if_pos (.inl rfl)]
              simpa using this
            · exact absurd hp hy
          · exact gmono (h.1 y q hy hq hk)
        · show gStep K' (a, r) r q = true
          have hk' : K a q = true ∨ K b q = true := by simpa [gStep] using hk
          have : K' a q = true ∨ K' r q = true := hk'.imp (h.1 _ q ha hq) (h.2 q hq)
          unfold gStep
          rw [if_pos (.inr rfl)]
          simpa using this
        · rcases e with e | e
          · simp at e; exact absurd e.1 ha
          · simp at e; exact absurd e har
    · refine ⟨[(a, b)], fun c hc => ?_, by simp, ⟨fun y q hy hq hk => ?_, fun q hq hk => ?_⟩, fun e => ?_⟩
      · rw [List.mem_singleton.1 hc]; exact ⟨⟨h1, ha⟩, ⟨h2, hb⟩, h12⟩
      · show gStep K' (a, b) y q = true
        unfold gStep at hk ⊢
        split at hk
        · rename_i hp
          rw [if_pos hp]
          simp only [Bool.or_eq_true] at hk ⊢
          exact hk.imp (h.1 _ q ha hq) (h.1 _ q hb hq)
        · rename_i hp
          rw [if_neg hp]
          exact h.1 y q hy hq hk
      · show gStep K' (a, b) r q = true
        have hx : ¬ (x = a ∨ x = b) := fun e => e.elim (fun e => ha e.symm) (fun e => hb e.symm)
        exact gmono (h.2 q hq (by simpa [gStep, hx] using hk))
      · rcases e with e | e
        · simp at e; exact absurd e.1 ha
        · simp at e; exact absurd e.2 hb

theorem g_const {S : List Nat} {x r : Nat} (hr : r ≠ x) (hrS : r ∈ S) : ∀ (l : List (Nat × Nat)) (K K' : Kn), GIn S l → GSub x r K K' → ∃ l', GOk S x l' ∧ l'.length ≤ l.length ∧ GSub x r (gRun K l) (gRun K' l')
  | [], _, _, _, h => ⟨[], fun _ hc => by simp at hc, by simp, h⟩
  | c :: l, K, K', hin, h => by
    obtain ⟨q1, q2, q3⟩ := hin c List.mem_cons_self
    obtain ⟨l1, o1, n1, s1, _⟩ := g_step h hr hrS q1 q2 q3
    obtain ⟨l2, o2, n2, s2⟩ := g_const hr hrS l _ _ (fun d hd => hin d (List.mem_cons_of_mem _ hd)) s1
    exact ⟨l1 ++ l2, o1.app o2, by simp; omega, by rw [gRun_app]; exact s2⟩

theorem g_fwd {S : List Nat} {x : Nat} (hxS : x ∈ S) : ∀ (m : List (Nat × Nat)) (a : Nat), a ≠ x → a ∈ S → GIn S m.reverse → gRun gOwn m.reverse a x = true →
    ∃ l', GOk S x l' ∧ l'.length + 1 ≤ m.length ∧ GSub x a (gRun gOwn m.reverse) (gRun gOwn l')
  | [], a, ha, _, _, h => absurd (by simpa [gRun, gOwn] using h) ha
  | c :: m, a, ha, haS, hin, h => by
    rw [List.reverse_cons] at hin h ⊢
    rw [gRun_snoc] at h ⊢
    have hin' : GIn S m.reverse := fun d hd => hin d (List.mem_append_left _ hd)
    obtain ⟨q1, q2, q3⟩ := hin c (by simp)
    cases hK : gRun gOwn m.reverse a x with
    | true =>
      obtain ⟨l1, o1, n1, s1⟩ := g_fwd hxS m a ha haS hin' hK
      obtain ⟨l2, o2, n2, s2, _⟩ := g_step s1 ha haS q1 q2 q3
      exact ⟨l1 ++ l2, o1.app o2, by simp; omega, by rw [gRun_app]; exact s2⟩
    | false =>
      -- the other one of the call knows
      have hc : a = c.1 ∨ a = c.2 := by
        by_cases hc : a = c.1 ∨ a = c.2
        · exact hc
        · rw [show gStep (gRun gOwn m.reverse) c a x = gRun gOwn m.reverse a x by simp [gStep, hc], hK] at h; cases h
      obtain ⟨b, hb, hbS, hbK, hcc⟩ : ∃ b, (b = c.1 ∨ b = c.2) ∧ b ∈ S ∧ gRun gOwn m.reverse b x = true ∧ (c = (a, b) ∨ c = (b, a)) := by
        have h' : gRun gOwn m.reverse c.1 x = true ∨ gRun gOwn m.reverse c.2 x = true := by simpa [gStep, hc] using h
        rcases hc with rfl | rfl
        · rw [hK] at h'
          exact ⟨c.2, .inr rfl, q2, h'.resolve_left (by simp), .inl rfl⟩
        · rw [hK] at h'
          exact ⟨c.1, .inl rfl, q1, h'.resolve_right (by simp), .inr rfl⟩
      by_cases hbx : b = x
      · subst hbx
        have h0 : GSub b a gOwn gOwn := ⟨fun _ _ _ _ h => h, fun q hq h => absurd (by simpa [gOwn] using h : b = q) (Ne.symm hq)⟩
        obtain ⟨l1, o1, n1, s1⟩ := g_const ha haS m.reverse _ _ hin' h0
        obtain ⟨l2, o2, n2, s2, e2⟩ := g_step s1 ha haS q1 q2 q3
        have := e2 hcc.symm
        subst this
        exact ⟨l1, o1, by simp at n1; simp; omega, s2⟩
      · obtain ⟨l1, o1, n1, s1⟩ := g_fwd hxS m b hbx hbS hin' hbK
        have hc1 : c.1 ≠ x := by rcases hcc with e | e <;> rw [e] <;> assumption
        have hc2 : c.2 ≠ x := by rcases hcc with e | e <;> rw [e] <;> assumption
        refine ⟨l1 ++ [c], o1.app fun d hd => ?_, by simp; omega, by rw [gRun_snoc]; exact g_switch s1 hc1 hc2 hb hc⟩
        rw [List.mem_singleton.1 hd]; exact ⟨⟨q1, hc1⟩, ⟨q2, hc2⟩, q3⟩

theorem g_bwd {S : List Nat} {x : Nat} : ∀ (l : List (Nat × Nat)) (K K' : Kn) (b : Nat), b ≠ x → b ∈ S → GIn S l → gBack x l b = true → GSub x b K K' →
    ∃ l', GOk S x l' ∧ l'.length + 1 ≤ l.length ∧ ∀ y q, y ≠ x → q ≠ x → gRun K l y q = true → gRun K' l' y q = true
  | [], _, _, b, hb, _, _, h, _ => absurd (by simpa [gBack] using h) hb
  | c :: l, K, K', b, hb, hbS, hin, h, hs => by
    have hin' : GIn S l := fun d hd => hin d (List.mem_cons_of_mem _ hd)
    obtain ⟨q1, q2, q3⟩ := hin c List.mem_cons_self
    cases hB : gBack x l b with
    | true =>
      obtain ⟨l1, o1, n1, s1, _⟩ := g_step hs hb hbS q1 q2 q3
      obtain ⟨l2, o2, n2, s2⟩ := g_bwd l _ _ b hb hbS hin' hB s1
      exact ⟨l1 ++ l2, o1.app o2, by simp; omega, fun y q hy hq hk => by rw [gRun_app]; exact s2 y q hy hq hk⟩
    | false =>
      rw [gBack, hB] at h
      simp only [Bool.false_or, Bool.and_eq_true, Bool.or_eq_true, beq_iff_eq] at h
      obtain ⟨hc, h'⟩ := h
      obtain ⟨d, hd, hdS, hdB, hcc⟩ : ∃ d, (d = c.1 ∨ d = c.2) ∧ d ∈ S ∧ gBack x l d = true ∧ (c = (b, d) ∨ c = (d, b)) := by
        rcases hc with rfl | rfl
        · rw [hB] at h'
          exact ⟨c.2, .inr rfl, q2, h'.resolve_left (by simp), .inl rfl⟩
        · rw [hB] at h'
          exact ⟨c.1, .inl rfl, q1, h'.resolve_right (by simp), .inr rfl⟩
      by_cases hdx : d = x
      · subst hdx
        obtain ⟨l1, o1, n1, s1, e1⟩ := g_step hs hb hbS q1 q2 q3
        have := e1 hcc.symm
        subst this
        obtain ⟨l2, o2, n2, s2⟩ := g_const hb hbS l _ _ hin' s1
        exact ⟨l2, o2, by simp; omega, fun y q hy hq hk => s2.1 y q hy hq hk⟩
      · have hc1 : c.1 ≠ x := by rcases hcc with e | e <;> rw [e] <;> assumption
        have hc2 : c.2 ≠ x := by rcases hcc with e | e <;> rw [e] <;> assumption
        obtain ⟨l2, o2, n2, s2⟩ := g_bwd l _ _ d hdx hdS hin' hdB (g_switch hs hc1 hc2 hc hd)
        refine ⟨c :: l2, fun e he => ?_, by simp; omega, fun y q hy hq hk => s2 y q hy hq hk⟩
        rcases List.mem_cons.1 he with rfl | he
        · exact ⟨⟨q1, hc1⟩, ⟨q2, hc2⟩, q3⟩
        · exact o2 e he

def GAll (S : List Nat) (l : List (Nat × Nat)) : Prop := ∀ y ∈ S, ∀ q ∈ S, gRun gOwn l y q = true

/-- Who hears of himself can be left out, with two calls less. -/
theorem g_less {S : List Nat} {x : Nat} (hxS : x ∈ S) {l1 l2 : List (Nat × Nat)} {c : Nat × Nat} (hin : GIn S (l1 ++ c :: l2)) (hall : GAll S (l1 ++ c :: l2)) (h1 : c.1 ≠ x) (h2 : c.2 ≠ x)
    (hf : gRun gOwn l1 c.1 x = true ∨ gRun gOwn l1 c.2 x = true) (hb : gBack x l2 c.1 = true ∨ gBack x l2 c.2 = true) :
    ∃ l', GOk S x l' ∧ l'.length + 2 ≤ (l1 ++ c :: l2).length ∧ ∀ y ∈ S, ∀ q ∈ S, y ≠ x → q ≠ x → gRun gOwn l' y q = true := by
  obtain ⟨q1, q2, q3⟩ := hin c (by simp)
  have hin1 : GIn S l1 := fun d hd => hin d (List.mem_append_left _ hd)
  have hin2 : GIn S l2 := fun d hd => hin d (List.mem_append_right _ (List.mem_cons_of_mem _ hd))
  obtain ⟨a, ha, hax, haS, haK⟩ : ∃ a, (a = c.1 ∨ a = c.2) ∧ a ≠ x ∧ a ∈ S ∧ gRun gOwn l1 a x = true := by
    rcases hf with h | h
    · exact ⟨c.1, .inl rfl, h1, q1, h⟩
    · exact ⟨c.2, .inr rfl, h2, q2, h⟩
  obtain ⟨b, hb', hbx, hbS, hbB⟩ : ∃ b, (b = c.1 ∨ b = c.2) ∧ b ≠ x ∧ b ∈ S ∧ gBack x l2 b = true := by
    rcases hb with h | h
    · exact ⟨c.1, .inl rfl, h1, q1, h⟩
    · exact ⟨c.2, .inr rfl, h2, q2, h⟩
  obtain ⟨m1, o1, n1, s1⟩ := g_fwd hxS l1.reverse a hax haS (by rw [List.reverse_reverse]; exact hin1) (by rw [List.reverse_reverse]; exact haK)
  rw [List.reverse_reverse, List.length_reverse] at *
  obtain ⟨m2, o2, n2, s2⟩ := g_bwd l2 _ _ b hbx hbS hin2 hbB (g_switch s1 h1 h2 ha hb')
  refine ⟨m1 ++ c :: m2, ?_, by simp; omega, fun y hy q hq hyx hqx => ?_⟩
  · intro d hd
    rcases List.mem_append.1 hd with hd | hd
    · exact o1 d hd
    · rcases List.mem_cons.1 hd with rfl | hd
      · exact ⟨⟨q1, h1⟩, ⟨q2, h2⟩, q3⟩
      · exact o2 d hd
  · have := hall y hy q hq
    rw [gRun_app] at this ⊢
    exact s2 y q hyx hqx this

/-! ### Counting calls -/
def oC (x : Nat) : Kn → List (Nat × Nat) → Nat
  | _, [] => 0
  | K, c :: l => (if K c.1 x = K c.2 x then 0 else 1) + oC x (gStep K c) l

def iC (x : Nat) : List (Nat × Nat) → Nat
  | [] => 0
  | c :: l => (if gBack x l c.1 = gBack x l c.2 then 0 else 1) + iC x l

def vC (x : Nat) (l : List (Nat × Nat)) : Nat := l.countP fun c => c.1 == x || c.2 == x

theorem countP_one {S : List Nat} (hn : S.Nodup) {f g : Nat → Bool} {b : Nat} (hb : b ∈ S) (hf : f b = false) (hg : ∀ p, g p = (f p || p == b)) : S.countP g = S.countP f + 1 := by
  induction S with
  | nil => simp at hb
  | cons s S ih =>
    rw [List.nodup_cons] at hn
    rw [List.countP_cons, List.countP_cons]
    rcases List.mem_cons.1 hb with rfl | hb
    · have : S.countP g = S.countP f := by
        apply List.countP_congr
        intro p hp
        have : p ≠ b := fun e => hn.1 (e ▸ hp)
        rw [hg p]
        simp [this]
      rw [this, hg b, hf]
      simp
    · have hsb : s ≠ b := fun e => hn.1 (e ▸ hb)
      rw [ih hn.2 hb, hg s]
      simp [hsb]
      omega

theorem oC_eq {S : List Nat} (hn : S.Nodup) (x : Nat) : ∀ (l : List (Nat × Nat)) (K : Kn), GIn S l → S.countP (fun p => gRun K l p x) = S.countP (fun p => K p x) + oC x K l
  | [], K, _ => rfl
  | c :: l, K, hin => by
    obtain ⟨q1, q2, q3⟩ := hin c List.mem_cons_self
    rw [show gRun K (c :: l) = gRun (gStep K c) l from rfl, oC_eq hn x l _ fun d hd => hin d (List.mem_cons_of_mem _ hd), oC]
    have : S.countP (fun p => gStep K c p x) = S.countP (fun p => K p x) + (if K c.1 x = K c.2 x then 0 else 1) := by
      cases h1 : K c.1 x <;> cases h2 : K c.2 x
      · rw [if_pos rfl]
        apply List.countP_congr
        intro p _
        unfold gStep
        split
        · rename_i hp; rcases hp with rfl | rfl <;> simp [h1, h2]
        · exact Iff.rfl
      · rw [if_neg (by simp)]
        refine countP_one hn q1 h1 fun p => ?_
        unfold gStep
        by_cases hp1 : p = c.1
        · subst hp1; simp [h2]
        · by_cases hp2 : p = c.2
          · subst hp2; simp [h2]
          · simp [hp1, hp2]
      · rw [if_neg (by simp)]
        refine countP_one hn q2 h2 fun p => ?_
        unfold gStep
        by_cases hp1 : p = c.2
        · subst hp1; simp [h1]
        · by_cases hp2 : p = c.1
          · subst hp2; simp [h1]
          · simp [hp1, hp2]
      · rw [if_pos rfl]
        apply List.countP_congr
        intro p _
        unfold gStep
        split
        · rename_i hp; rcases hp with rfl | rfl <;> simp [h1, h2]
        · exact Iff.rfl
    omega

theorem iC_eq {S : List Nat} (hn : S.Nodup) {x : Nat} (hx : x ∈ S) : ∀ (l : List (Nat × Nat)), GIn S l → S.countP (gBack x l) = 1 + iC x l
  | [], _ => by
    have := countP_one hn (f := fun _ => false) (g := gBack x []) hx rfl fun p => by simp [gBack]
    rw [this]
    simp [iC]
  | c :: l, hin => by
    obtain ⟨q1, q2, q3⟩ := hin c List.mem_cons_self
    have ih := iC_eq hn hx l fun d hd => hin d (List.mem_cons_of_mem _ hd)
    have : S.countP (gBack x (c :: l)) = S.countP (gBack x l) + (if gBack x l c.1 = gBack x l c.2 then 0 else 1) := by
      cases h1 : gBack x l c.1 <;> cases h2 : gBack x l c.2
      · rw [if_pos rfl]
        apply List.countP_congr
        intro p _
        simp [gBack, h1, h2]
      · rw [if_neg (by simp)]
        refine countP_one hn q1 h1 fun p => ?_
        by_cases hp2 : p = c.2
        · subst hp2; simp [gBack, h2]
        · simp only [gBack, h1, h2, Bool.or_true, Bool.and_true, show (p == c.2) = false by simp [hp2], Bool.or_false]
      · rw [if_neg (by simp)]
        refine countP_one hn q2 h2 fun p => ?_
        by_cases hp2 : p = c.1
        · subst hp2; simp [gBack, h1]
        · simp only [gBack, h1, h2, Bool.true_or, Bool.and_true, show (p == c.1) = false by simp [hp2], Bool.false_or]
      · rw [if_pos rfl]
        apply List.countP_congr
        intro p _
        simp only [gBack, h1, h2, Bool.or_true, Bool.and_true, Bool.or_eq_true, beq_iff_eq]
        constructor
        · rintro (h | rfl | rfl) <;> assumption
        · exact .inl
    rw [iC, this, ih]
    omega

theorem oi_le (x : Nat) : ∀ (l : List (Nat × Nat)) (K : Kn), (∀ l1 c l2, l = l1 ++ c :: l2 → c.1 ≠ x → c.2 ≠ x → gRun K l1 c.1 x ≠ gRun K l1 c.2 x → gBack x l2 c.1 = gBack x l2 c.2) → oC x K l + iC x l ≤ l.length + vC x l
  | [], _, _ => by simp [oC, iC]
  | c :: l, K, h => by
    have ih := oi_le x l (gStep K c) fun l1 d l2 e h1 h2 h3 => h (c :: l1) d l2 (by rw [e]; rfl) h1 h2 h3
    have h0 := h [] c l rfl
    unfold vC at *
    rw [oC, iC, List.countP_cons, List.length_cons]
    by_cases hx : c.1 ≠ x ∧ c.2 ≠ x
    · by_cases hk : K c.1 x = K c.2 x
      · rw [if_pos hk]
        split <;> omega
      · have := h0 hx.1 hx.2 hk
        rw [if_neg hk, if_pos this]
        omega
    · have : (c.1 == x || c.2 == x) = true := by
        simp only [Bool.or_eq_true, beq_iff_eq]
        by_cases h1 : c.1 = x
        · exact .inl h1
        · exact .inr (Classical.byContradiction fun h2 => hx ⟨h1, h2⟩)
      rw [if_pos this]
      split <;> split <;> omega

theorem v_sum {S : List Nat} (hn : S.Nodup) : ∀ (l : List (Nat × Nat)), (S.map fun x => vC x l).sum ≤ 2 * l.length
  | [] => by
    have : ∀ S : List Nat, (S.map fun _ => 0).sum = 0 := fun S => by induction S <;> simp_all
    simp [vC, this]
  | c :: l => by
    have ih := v_sum hn l
    have h1 : ∀ T : List Nat, (T.map fun x => vC x (c :: l)).sum = (T.map fun x => vC x l).sum + T.countP fun x => c.1 == x || c.2 == x := by
      intro T
      induction T with
      | nil => rfl
      | cons x T ih =>
        simp only [List.map_cons, List.sum_cons, List.countP_cons]
        rw [ih]
        have : vC x (c :: l) = vC x l + if (c.1 == x || c.2 == x) = true then 1 else 0 := by
          unfold vC
          rw [List.countP_cons]
        rw [this]
        omega
    have one : ∀ a, S.countP (fun x => a == x) ≤ 1 := by
      intro a
      by_cases ha : a ∈ S
      · have := countP_one hn (f := fun _ => false) (g := fun x => a == x) ha rfl fun p => by rw [Bool.false_or]; exact Bool.beq_comm
        rw [this]; simp
      · have : S.countP (fun x => a == x) = 0 := by
          rw [List.countP_eq_zero]
          intro x hx h
          exact ha ((by simpa using h : a = x) ▸ hx)
        omega
    have two : S.countP (fun x => c.1 == x || c.2 == x) ≤ S.countP (fun x => c.1 == x) + S.countP (fun x => c.2 == x) := by
      clear ih h1 one hn
      induction S with
      | nil => simp
      | cons x S ih =>
        simp only [List.countP_cons]
        cases h1 : (c.1 == x) <;> cases h2 : (c.2 == x) <;> simp <;> omega
    rw [h1, List.length_cons]
    have := one c.1
    have := one c.2
    omega

def gNeed (n : Nat) : Nat := if n < 4 then n * (n - 1) / 2 else 2 * n - 4

theorem gossip_bound : ∀ (n : Nat), n ≤ 7 → ∀ (S : List Nat) (l : List (Nat × Nat)), S.Nodup → S.length = n → GIn S l → GAll S l → gNeed n ≤ l.length
  | 0, _, _, _, _, _, _, _ => by simp [gNeed]
  | n + 1, hn7, S, l, hnd, hlen, hin, hall => by
    by_cases hex : ∃ x ∈ S, ∃ l1 c l2, l = l1 ++ c :: l2 ∧ c.1 ≠ x ∧ c.2 ≠ x ∧ (gRun gOwn l1 c.1 x = true ∨ gRun gOwn l1 c.2 x = true) ∧ (gBack x l2 c.1 = true ∨ gBack x l2 c.2 = true)
    · obtain ⟨x, hx, l1, c, l2, rfl, h1, h2, h3, h4⟩ := hex
      obtain ⟨l', o, hl, ha⟩ := g_less hx hin hall h1 h2 h3 h4
      have ih := gossip_bound n (by omega) (S.erase x) l' (hnd.erase x) (by rw [List.length_erase_of_mem hx]; omega)
        (fun d hd => by
          obtain ⟨⟨a1, a2⟩, ⟨b1, b2⟩, ab⟩ := o d hd
          exact ⟨(List.mem_erase_of_ne a2).2 a1, (List.mem_erase_of_ne b2).2 b1, ab⟩)
        (fun y hy q hq => by
          rw [hnd.mem_erase_iff] at hy hq
          exact ha y hy.2 q hq.2 hy.1 hq.1)
      have hstep : gNeed (n + 1) ≤ gNeed n + 2 := by
        have h7 : n = 0 ∨ n = 1 ∨ n = 2 ∨ n = 3 ∨ n = 4 ∨ n = 5 ∨ n = 6 := by omega
        rcases h7 with rfl | rfl | rfl | rfl | rfl | rfl | rfl <;> decide
      omega
    · have hx : ∀ x ∈ S, 2 * n ≤ l.length + vC x l := by
        intro x hx
        have h1 := oC_eq hnd x l gOwn hin
        have h2 := iC_eq hnd hx l hin
        have h3 := oi_le x l gOwn fun l1 c l2 e h1 h2 h3 => by
          cases hb1 : gBack x l2 c.1 <;> cases hb2 : gBack x l2 c.2
          · rfl
          all_goals
            exfalso
            refine hex ⟨x, hx, l1, c, l2, e, h1, h2, ?_, by simp [hb1, hb2]⟩
            cases hk1 : gRun gOwn l1 c.1 x <;> cases hk2 : gRun gOwn l1 c.2 x <;> simp_all
        have h4 : S.countP (fun p => gRun gOwn l p x) = n + 1 := by
          rw [← hlen, List.countP_eq_length]
          intro p hp
          exact hall p hp x hx
        have h5 : S.countP (gBack x l) = n + 1 := by
          rw [← hlen, List.countP_eq_length]
          intro p hp
          obtain ⟨p', hp1, hp2⟩ := (gRun_iff x p l gOwn).1 (hall x hx p hp)
          have : p' = p := by simpa [gOwn] using hp2
          rw [← this]; exact hp1
        have h6 : S.countP (fun p => gOwn p x) = 1 := by
          have := countP_one hnd (f := fun _ => false) (g := fun p => gOwn p x) hx rfl fun p => by simp [gOwn]
          rw [this]; simp
        omega
      have hs : ∀ T : List Nat, (∀ x ∈ T, 2 * n ≤ l.length + vC x l) → T.length * (2 * n) ≤ T.length * l.length + (T.map fun x => vC x l).sum := by
        intro T
        induction T with
        | nil => intro _; simp
        | cons x T ih =>
          intro h
          have h1 := h x List.mem_cons_self
          have h2 := ih fun y hy => h y (List.mem_cons_of_mem _ hy)
          simp only [List.length_cons, List.map_cons, List.sum_cons, Nat.add_mul, Nat.one_mul]
          omega
      have h1 := hs S hx
      have h2 := v_sum hnd l
      rw [hlen] at h1
      have h7 : n = 0 ∨ n = 1 ∨ n = 2 ∨ n = 3 ∨ n = 4 ∨ n = 5 ∨ n = 6 := by omega
      rcases h7 with rfl | rfl | rfl | rfl | rfl | rfl | rfl <;> simp [gNeed] <;> omega

end Go.AM

end

section

/- The staged forms of functions 3, 6, 11, 14, 17, 18, 19, 20, 21, 23, 24, 25, 26, 27, 28, 29, 34, 35, 36, 37, 38, 39, 40, 41, 42, 43, 45, and what calls of these answer. -/
namespace Go.AM
open Go.Proofs
noncomputable def f3 (rec : Rec) (_k : Nat) (v0 : Value) (n0 : Int) (n1 : Int) (h0 : H) : Option (Value × H) :=
  bx h0 24 v0 fun h1 =>
  ld Try.prog h1 24 (nx h0) 0 fun v1 =>
  calls rec h1 18 [v1] fun v2 h2 =>
  calls rec h2 17 [v2, (.int .i64 n0), (.int .i64 n1)] fun v3 h3 =>
  ext v3 0 fun v4 =>
  ext v3 1 fun v5 =>
  asI .i64 v5 fun n2 =>
  ld Try.prog h3 24 (nx h0) 0 fun v6 =>
  calls rec h3 18 [v6] fun v7 h4 =>
  calls rec h4 19 [v7, (.int .i64 n0), (.int .i64 n1)] fun v8 h5 =>
  ext v8 0 fun v9 =>
  ext v8 1 fun v10 =>
  asI .i64 v10 fun n3 =>
  ld Try.prog h5 24 (nx h0) 0 fun v11 =>
  calls rec h5 18 [v11] fun v12 h6 =>
  calls rec h6 20 [v12, (.int .i64 n0), (.int .i64 n1)] fun v13 h7 =>
  ext v13 0 fun v14 =>
  ext v13 1 fun v15 =>
  asI .i64 v15 fun n4 =>
  ld Try.prog h7 24 (nx h0) 0 fun v16 =>
  calls rec h7 21 [v16, (.int .i64 n0), (.int .i64 n1)] fun v17 h8 =>
  asB v17 fun q0 =>
  ifB (not q0) (
    len v4 fun n5 =>
    len v9 fun n6 =>
    len v14 fun n7 =>
    ifB (eq (add .i64 (add .i64 n5 n6) n7) 0) (
      ifB (eq n2 2) (
        ifB (eq n3 2) (
          ifB (eq n4 2) (
            calls rec h8 22 [] fun v18 h9 =>
            asB v18 fun q1 =>
            some ((.bool q1), h9)) (
            some ((.bool false), h8))) (
          some ((.bool false), h8))) (
        some ((.bool false), h8))) (
      some ((.bool false), h8))) (
    ld Try.prog h8 24 (nx h0) 0 fun v19 =>
    calls rec h8 23 [v19, (.int .i64 n0), (.int .i64 n1)] fun v20 h10 =>
    ext v20 0 fun v21 =>
    ext v20 1 fun v22 =>
    asI .i64 v22 fun n8 =>
    ld Try.prog h10 24 (nx h0) 0 fun v23 =>
    calls rec h10 24 [v23, (.int .i64 n0), (.int .i64 n1)] fun v24 h11 =>
    ext v24 0 fun v25 =>
    ext v24 1 fun v26 =>
    asI .i64 v26 fun n9 =>
    ld Try.prog h11 24 (nx h0) 0 fun v27 =>
    calls rec h11 25 [v27, (.int .i64 n0), (.int .i64 n1)] fun v28 h12 =>
    ext v28 0 fun v29 =>
    ext v28 1 fun v30 =>
    asI .i64 v30 fun n10 =>
    calls rec h12 26 [v4, v21] fun v31 h13 =>
    asB v31 fun q2 =>
    ifB q2 (
      calls rec h13 26 [v9, v25] fun v32 h14 =>
      asB v32 fun q3 =>
      ifB q3 (
        calls rec h14 26 [v14, v29] fun v33 h15 =>
        asB v33 fun q4 =>
        ifB q4 (
          ifB (eq n2 n8) (
            ifB (eq n3 n9) (
              ifB (eq n4 n10) (
                calls rec h15 22 [] fun v34 h16 =>
                asB v34 fun q5 =>
                some ((.bool q5), h16)) (
                some ((.bool false), h15))) (
              some ((.bool false), h15))) (
            some ((.bool false), h15))) (
          some ((.bool false), h15))) (
        some ((.bool false), h14))) (
      some ((.bool false), h13)))

theorem e3 (rec : Rec) (k : Nat) (v0 : Value) (n0 : Int) (n1 : Int) (h : H) : bodyT Try.prog E0 SC (XC Try.prog rec k) 3 (Value × H) [.opq v0, .int .i64 n0, .int .i64 n1] h (fun v h => some (v, h)) = f3 rec k v0 n0 n1 h := by kernel_rfl

theorem t3 {k : Nat} {v0 : Value} {n0 : Int} {n1 : Int} {h h1 : H} {v : Value} (hh : f3 rn k v0 n0 n1 h = some (v, h1)) : rn 3 #[v0, .int .i64 n0, .int .i64 n1] h = some (v, trunc Try.prog h h1 v) :=
  run_of_bodyT (args := [.opq v0, .int .i64 n0, .int .i64 n1]) rfl ((e3 _ _ _ _ _ _).trans hh)

theorem x3 {k : Nat} {v0 : Value} {n0 : Int} {n1 : Int} {h h1 : H} {v : Value} (hh : f3 rn k v0 n0 n1 h = some (v, h1)) (hp : plainO v = false) : rn 3 #[v0, .int .i64 n0, .int .i64 n1] h = some (v, h1) := by rw [t3 hh, trunc_not hp]

noncomputable def f6 (rec : Rec) (_k : Nat) (v0 : Value) (n0 : Int) (h0 : H) : Option (Value × H) :=
  bx h0 24 v0 fun h1 =>
  ld Try.prog h1 24 (nx h0) 0 fun v1 =>
  calls rec h1 18 [v1] fun v2 h2 =>
  calls rec h2 37 [v2] fun v3 h3 =>
  ext v3 0 fun v4 =>
  ext v3 1 fun v5 =>
  asI .i64 v5 fun n1 =>
  ld Try.prog h3 24 (nx h0) 0 fun v6 =>
  calls rec h3 18 [v6] fun v7 h4 =>
  calls rec h4 38 [v7, (.int .i64 n0)] fun v8 h5 =>
  ext v8 0 fun v9 =>
  ext v8 1 fun v10 =>
  asI .i64 v10 fun n2 =>
  ld Try.prog h5 24 (nx h0) 0 fun v11 =>
  calls rec h5 18 [v11] fun v12 h6 =>
  calls rec h6 39 [v12] fun v13 h7 =>
  ext v13 0 fun v14 =>
  ext v13 1 fun v15 =>
  asI .i64 v15 fun n3 =>
  ld Try.prog h7 24 (nx h0) 0 fun v16 =>
  calls rec h7 35 [v16] fun v17 h8 =>
  asB v17 fun q0 =>
  ifB (not q0) (
    len v4 fun n4 =>
    len v9 fun n5 =>
    len v14 fun n6 =>
    ifB (eq (add .i64 (add .i64 n4 n5) n6) 0) (
      ifB (eq n1 2) (
        ifB (eq n2 2) (
          ifB (eq n3 2) (
            calls rec h8 22 [] fun v18 h9 =>
            asB v18 fun q1 =>
            some ((.bool q1), h9)) (
            some ((.bool false), h8))) (
          some ((.bool false), h8))) (
        some ((.bool false), h8))) (
      some ((.bool false), h8))) (
    ld Try.prog h8 24 (nx h0) 0 fun v19 =>
    calls rec h8 40 [v19] fun v20 h10 =>
    calls rec h10 26 [v4, v20] fun v21 h11 =>
    asB v21 fun q2 =>
    ifB (not q2) (
      some ((.bool false), h11)) (
      ifB (not (eq n1 0)) (
        some ((.bool false), h11)) (
        ld Try.prog h11 24 (nx h0) 0 fun v22 =>
        calls rec h11 41 [v22] fun v23 h12 =>
        calls rec h12 26 [v14, v23] fun v24 h13 =>
        asB v24 fun q3 =>
        ifB (not q3) (
          some ((.bool false), h13)) (
          ifB (not (eq n3 0)) (
            some ((.bool false), h13)) (
            calls rec h13 22 [] fun v25 h14 =>
            asB v25 fun q4 =>
            ifB (not q4) (
              some ((.bool false), h14)) (
              ld Try.prog h14 24 (nx h0) 0 fun v26 =>
              calls rec h14 42 [v26, (.int .i64 n0)] fun v27 h15 =>
              asB v27 fun q5 =>
              ifB (not q5) (
                len v9 fun n7 =>
                ifB (eq n7 0) (
                  some ((.bool (eq n2 2)), h15)) (
                  some ((.bool false), h15))) (
                ld Try.prog h15 24 (nx h0) 0 fun v28 =>
                calls rec h15 43 [v28, (.int .i64 n0)] fun v29 h16 =>
                calls rec h16 26 [v9, v29] fun v30 h17 =>
                asB v30 fun q6 =>
                ifB q6 (
                  some ((.bool (eq n2 0)), h17)) (
                  some ((.bool false), h17)))))))))

theorem e6 (rec : Rec) (k : Nat) (v0 : Value) (n0 : Int) (h : H) : bodyT Try.prog E0 SC (XC Try.prog rec k) 6 (Value × H) [.opq v0, .int .i64 n0] h (fun v h => some (v, h)) = f6 rec k v0 n0 h := by kernel_rfl

noncomputable def f18_l1 (_rec : Rec) (_k : Nat) (h2 : H) (v3 : Value) (n1 : Int) (ws0 : List Value) (h5 : H) : Option (Ex × List Value × H) :=
  asI .i64 (gv ws0 0) fun n2 =>
  ifB (lt n2 n1) (
    asK (gv ws0 0) fun n3 =>
    six v3 n3 3 fun b0 b1 =>
    ld Try.prog h5 59 b0 b1 fun v4 =>
    al h5 59 [(.int .i64 0), (.int .i64 0), (.int .i64 0)] fun h6 =>
    st Try.prog h6 59 (nx h5) 0 v4 fun h7 =>
    asI .i64 (gv ws0 0) fun n4 =>
    ifB (lt n4 26) (
      ld Try.prog h7 29 (nx h2) (off 0 1) fun v5 =>
      ld Try.prog h7 3 (nx h5) 0 fun v6 =>
      asI .i64 v6 fun n5 =>
      ld Try.prog h7 3 (nx h5) (off 0 1) fun v7 =>
      asI .i64 v7 fun n6 =>
      ld Try.prog h7 3 (nx h5) (off 0 2) fun v8 =>
      asI .i64 v8 fun n7 =>
      bld Try.prog 56 [(0, (.int .i64 n5)), (1, (.int .i64 n6)), (2, (.int .i64 n7))] fun v9 =>
      bls Try.prog h7 29 1 [(0, v9)] fun v10 h8 =>
      app Try.prog h8 29 29 v5 v10 fun v11 h9 =>
      st Try.prog h9 29 (nx h2) (off 0 1) v11 fun h10 =>
      asI .i64 (gv ws0 0) fun n8 =>
      out .normal [(.int .i64 (add .i64 n8 1))] h10) (
      asI .i64 (gv ws0 0) fun n9 =>
      out .normal [(.int .i64 (add .i64 n9 1))] h7)) (
    out (.exit 0) [gv ws0 0] h5)

noncomputable def f18 (rec : Rec) (k : Nat) (v0 : Value) (h0 : H) : Option (Value × H) :=
  bx h0 24 v0 fun h1 =>
  al h1 31 [(.int .i64 0), (.slice none 0 0)] fun h2 =>
  ld Try.prog h2 3 (nx h0) 0 fun v1 =>
  asI .i64 v1 fun n0 =>
  bld Try.prog 31 [(0, (.int .i64 n0))] fun v2 =>
  al h2 31 [(.int .i64 0), (.slice none 0 0)] fun h3 =>
  st Try.prog h3 31 (nx h2) 0 v2 fun h4 =>
  ld Try.prog h4 22 (nx h0) (off 0 1) fun v3 =>
  len v3 fun n1 =>
  lp k (f18_l1 rec k h2 v3 n1) [(.int .i64 0)] h4 fun e0 _ h11 =>
  onE e0 0 (
    ld Try.prog h11 31 (nx h2) 0 fun v12 =>
    st Try.prog h11 31 (nx h1) 0 v12 fun h12 =>
    ld Try.prog h12 31 (nx h1) 0 fun v13 =>
    some (v13, h12)) (
    none)

theorem e18 (rec : Rec) (k : Nat) (v0 : Value) (h : H) : bodyT Try.prog E0 SC (XC Try.prog rec k) 18 (Value × H) [.opq v0] h (fun v h => some (v, h)) = f18 rec k v0 h := by kernel_rfl

theorem t18 {k : Nat} {v0 : Value} {h h1 : H} {v : Value} (hh : f18 rn k v0 h = some (v, h1)) : rn 18 #[v0] h = some (v, trunc Try.prog h h1 v) :=
  run_of_bodyT (args := [.opq v0]) rfl ((e18 _ _ _ _).trans hh)

theorem x18 {k : Nat} {v0 : Value} {h h1 : H} {v : Value} (hh : f18 rn k v0 h = some (v, h1)) (hp : plainO v = false) : rn 18 #[v0] h = some (v, h1) := by rw [t18 hh, trunc_not hp]

noncomputable def f21 (rec : Rec) (_k : Nat) (v0 : Value) (n0 : Int) (n1 : Int) (h0 : H) : Option (Value × H) :=
  bx h0 24 v0 fun h1 =>
  ld Try.prog h1 24 (nx h0) 0 fun v1 =>
  calls rec h1 35 [v1] fun v2 h2 =>
  asB v2 fun q0 =>
  ifB q0 (
    ld Try.prog h2 24 (nx h0) 0 fun v3 =>
    calls rec h2 42 [v3, (.int .i64 n0)] fun v4 h3 =>
    asB v4 fun q1 =>
    ifB q1 (
      ld Try.prog h3 24 (nx h0) 0 fun v5 =>
      calls rec h3 42 [v5, (.int .i64 n1)] fun v6 h4 =>
      asB v6 fun q2 =>
      ifB q2 (
        some ((.bool (not (eq n0 n1))), h4)) (
        some ((.bool false), h4))) (
      some ((.bool false), h3))) (
    some ((.bool false), h2))

theorem e21 (rec : Rec) (k : Nat) (v0 : Value) (n0 : Int) (n1 : Int) (h : H) : bodyT Try.prog E0 SC (XC Try.prog rec k) 21 (Value × H) [.opq v0, .int .i64 n0, .int .i64 n1] h (fun v h => some (v, h)) = f21 rec k v0 n0 n1 h := by kernel_rfl

theorem t21 {k : Nat} {v0 : Value} {n0 : Int} {n1 : Int} {h h1 : H} {v : Value} (hh : f21 rn k v0 n0 n1 h = some (v, h1)) : rn 21 #[v0, .int .i64 n0, .int .i64 n1] h = some (v, trunc Try.prog h h1 v) :=
  run_of_bodyT (args := [.opq v0, .int .i64 n0, .int .i64 n1]) rfl ((e21 _ _ _ _ _ _).trans hh)

theorem x21 {k : Nat} {v0 : Value} {n0 : Int} {n1 : Int} {h h1 : H} {v : Value} (hh : f21 rn k v0 n0 n1 h = some (v, h1)) (hp : plainO v = false) : rn 21 #[v0, .int .i64 n0, .int .i64 n1] h = some (v, h1) := by rw [t21 hh, trunc_not hp]

noncomputable def f26_l1 (_rec : Rec) (_k : Nat) (v0 : Value) (v1 : Value) (n2 : Int) (ws0 : List Value) (h1 : H) : Option (Ex × List Value × H) :=
  asI .i64 (gv ws0 1) fun n3 =>
  ifB (lt n3 n2) (
    asK (gv ws0 1) fun n4 =>
    six v0 n4 1 fun b0 b1 =>
    ld Try.prog h1 3 b0 b1 fun v2 =>
    asI .i64 v2 fun n5 =>
    asK (gv ws0 1) fun n6 =>
    six v1 n6 1 fun b2 b3 =>
    ld Try.prog h1 3 b2 b3 fun v3 =>
    asI .i64 v3 fun n7 =>
    ifB (not (eq n5 n7)) (
      out .ret [(.bool false), gv ws0 1] h1) (
      asI .i64 (gv ws0 1) fun n8 =>
      out .normal [gv ws0 0, (.int .i64 (add .i64 n8 1))] h1)) (
    out (.exit 0) [gv ws0 0, gv ws0 1] h1)

noncomputable def f26 (rec : Rec) (k : Nat) (v0 : Value) (v1 : Value) (h0 : H) : Option (Value × H) :=
  len v0 fun n0 =>
  len v1 fun n1 =>
  ifB (not (eq n0 n1)) (
    some ((.bool false), h0)) (
    len v0 fun n2 =>
    lp k (f26_l1 rec k v0 v1 n2) [(.bool false), (.int .i64 0)] h0 fun e0 ws1 h2 =>
    onE e0 0 (
      some ((.bool true), h2)) (
      onR e0 (
        some (gv ws1 0, h2))))

theorem e26 (rec : Rec) (k : Nat) (v0 : Value) (v1 : Value) (h : H) : bodyT Try.prog E0 SC (XC Try.prog rec k) 26 (Value × H) [.opq v0, .opq v1] h (fun v h => some (v, h)) = f26 rec k v0 v1 h := by kernel_rfl

theorem t26 {k : Nat} {v0 : Value} {v1 : Value} {h h1 : H} {v : Value} (hh : f26 rn k v0 v1 h = some (v, h1)) : rn 26 #[v0, v1] h = some (v, trunc Try.prog h h1 v) :=
  run_of_bodyT (args := [.opq v0, .opq v1]) rfl ((e26 _ _ _ _ _).trans hh)

theorem p26 {k : Nat} {v0 : Value} {v1 : Value} {h h1 : H} {v : Value} (hh : f26 rn k v0 v1 h = some (v, h1)) (hp : plainO v = true) (x : Ext h h1) : rn 26 #[v0, v1] h = some (v, h) := by rw [t26 hh, trunc_pure hp x]

noncomputable def f37_l1 (rec : Rec) (_k : Nat) (v4 : Value) (v5 : Value) (n0 : Int) (ws0 : List Value) (h4 : H) : Option (Ex × List Value × H) :=
  asI .i64 (gv ws0 0) fun n1 =>
  ifB (lt n1 n0) (
    asK (gv ws0 0) fun n2 =>
    six v5 n2 3 fun b0 b1 =>
    ld Try.prog h4 56 b0 b1 fun v6 =>
    al h4 56 [(.int .i64 0), (.int .i64 0), (.int .i64 0)] fun h5 =>
    st Try.prog h5 56 (nx h4) 0 v6 fun h6 =>
    ld Try.prog h6 56 (nx h4) 0 fun v7 =>
    calls rec h6 78 [v4, v7] fun v8 h7 =>
    asB v8 fun _ =>
    asI .i64 (gv ws0 0) fun n3 =>
    out .normal [(.int .i64 (add .i64 n3 1))] h7) (
    out (.exit 0) [gv ws0 0] h4)

noncomputable def f37 (rec : Rec) (k : Nat) (v0 : Value) (h0 : H) : Option (Value × H) :=
  bx h0 31 v0 fun h1 =>
  ld Try.prog h1 31 (nx h0) 0 fun v1 =>
  calls rec h1 71 [v1] fun v2 h2 =>
  asB v2 fun q0 =>
  ifB (not q0) (
    some ((.tuple #[(.slice none 0 0), (.int .i64 2)]), h2)) (
    ld Try.prog h2 31 (nx h0) 0 fun v3 =>
    calls rec h2 77 [v3] fun v4 h3 =>
    ld Try.prog h3 29 (nx h0) (off 0 1) fun v5 =>
    len v5 fun n0 =>
    lp k (f37_l1 rec k v4 v5 n0) [(.int .i64 0)] h3 fun e0 _ h8 =>
    onE e0 0 (
      some ((.tuple #[v4, (.int .i64 0)]), h8)) (
      none))

theorem e37 (rec : Rec) (k : Nat) (v0 : Value) (h : H) : bodyT Try.prog E0 SC (XC Try.prog rec k) 37 (Value × H) [.opq v0] h (fun v h => some (v, h)) = f37 rec k v0 h := by kernel_rfl

theorem t37 {k : Nat} {v0 : Value} {h h1 : H} {v : Value} (hh : f37 rn k v0 h = some (v, h1)) : rn 37 #[v0] h = some (v, trunc Try.prog h h1 v) :=
  run_of_bodyT (args := [.opq v0]) rfl ((e37 _ _ _ _).trans hh)

theorem x37 {k : Nat} {v0 : Value} {h h1 : H} {v : Value} (hh : f37 rn k v0 h = some (v, h1)) (hp : plainO v = false) : rn 37 #[v0] h = some (v, h1) := by rw [t37 hh, trunc_not hp]

noncomputable def f39_l1 (rec : Rec) (_k : Nat) (v4 : Value) (v5 : Value) (n0 : Int) (ws0 : List Value) (h4 : H) : Option (Ex × List Value × H) :=
  asI .i64 (gv ws0 1) fun n1 =>
  ifB (lt n1 n0) (
    asK (gv ws0 1) fun n2 =>
    six v5 n2 3 fun b0 b1 =>
    ld Try.prog h4 56 b0 b1 fun v6 =>
    al h4 56 [(.int .i64 0), (.int .i64 0), (.int .i64 0)] fun h5 =>
    st Try.prog h5 56 (nx h4) 0 v6 fun h6 =>
    ld Try.prog h6 56 (nx h4) 0 fun v7 =>
    calls rec h6 78 [v4, v7] fun v8 h7 =>
    asB v8 fun q1 =>
    ifB (not q1) (
      bls Try.prog h7 25 1 [(0, gv ws0 1)] fun v9 h8 =>
      app Try.prog h8 25 25 (gv ws0 0) v9 fun v10 h9 =>
      asI .i64 (gv ws0 1) fun n3 =>
      out .normal [v10, (.int .i64 (add .i64 n3 1))] h9) (
      asI .i64 (gv ws0 1) fun n4 =>
      out .normal [gv ws0 0, (.int .i64 (add .i64 n4 1))] h7)) (
    out (.exit 0) [gv ws0 0, gv ws0 1] h4)

noncomputable def f39 (rec : Rec) (k : Nat) (v0 : Value) (h0 : H) : Option (Value × H) :=
  bx h0 31 v0 fun h1 =>
  ld Try.prog h1 31 (nx h0) 0 fun v1 =>
  calls rec h1 71 [v1] fun v2 h2 =>
  asB v2 fun q0 =>
  ifB (not q0) (
    some ((.tuple #[(.slice none 0 0), (.int .i64 2)]), h2)) (
    ld Try.prog h2 31 (nx h0) 0 fun v3 =>
    calls rec h2 77 [v3] fun v4 h3 =>
    ld Try.prog h3 29 (nx h0) (off 0 1) fun v5 =>
    len v5 fun n0 =>
    lp k (f39_l1 rec k v4 v5 n0) [(.slice none 0 0), (.int .i64 0)] h3 fun e0 ws1 h10 =>
    onE e0 0 (
      some ((.tuple #[gv ws1 0, (.int .i64 0)]), h10)) (
      none))

theorem e39 (rec : Rec) (k : Nat) (v0 : Value) (h : H) : bodyT Try.prog E0 SC (XC Try.prog rec k) 39 (Value × H) [.opq v0] h (fun v h => some (v, h)) = f39 rec k v0 h := by kernel_rfl

theorem t39 {k : Nat} {v0 : Value} {h h1 : H} {v : Value} (hh : f39 rn k v0 h = some (v, h1)) : rn 39 #[v0] h = some (v, trunc Try.prog h h1 v) :=
  run_of_bodyT (args := [.opq v0]) rfl ((e39 _ _ _ _).trans hh)

theorem x39 {k : Nat} {v0 : Value} {h h1 : H} {v : Value} (hh : f39 rn k v0 h = some (v, h1)) (hp : plainO v = false) : rn 39 #[v0] h = some (v, h1) := by rw [t39 hh, trunc_not hp]

noncomputable def f42 (_rec : Rec) (_k : Nat) (v0 : Value) (n0 : Int) (h0 : H) : Option (Value × H) :=
  bx h0 24 v0 fun h1 =>
  ifB (le 0 n0) (
    ld Try.prog h1 3 (nx h0) 0 fun v1 =>
    asI .i64 v1 fun n1 =>
    some ((.bool (lt n0 n1)), h1)) (
    some ((.bool false), h1))

theorem e42 (rec : Rec) (k : Nat) (v0 : Value) (n0 : Int) (h : H) : bodyT Try.prog E0 SC (XC Try.prog rec k) 42 (Value × H) [.opq v0, .int .i64 n0] h (fun v h => some (v, h)) = f42 rec k v0 n0 h := by kernel_rfl

theorem t42 {k : Nat} {v0 : Value} {n0 : Int} {h h1 : H} {v : Value} (hh : f42 rn k v0 n0 h = some (v, h1)) : rn 42 #[v0, .int .i64 n0] h = some (v, trunc Try.prog h h1 v) :=
  run_of_bodyT (args := [.opq v0, .int .i64 n0]) rfl ((e42 _ _ _ _ _).trans hh)

theorem p42 {k : Nat} {v0 : Value} {n0 : Int} {h h1 : H} {v : Value} (hh : f42 rn k v0 n0 h = some (v, h1)) (hp : plainO v = true) (x : Ext h h1) : rn 42 #[v0, .int .i64 n0] h = some (v, h) := by rw [t42 hh, trunc_pure hp x]

end Go.AM

end

section

/- The staged forms of functions 5, 30, 31, 32, 33, 71, 72, 73, 74, 75, 76, 77, 78, 79, 89, 99, 100, 105, and what calls of these answer. -/
namespace Go.AM
open Go.Proofs
noncomputable def f5 (rec : Rec) (_k : Nat) (n0 : Int) (h0 : H) : Option (Value × H) :=
  calls rec h0 30 [(.int .i64 n0)] fun v0 h1 =>
  ext v0 0 fun v1 =>
  ext v0 1 fun v2 =>
  asI .i64 v2 fun n1 =>
  al h1 31 [(.int .i64 0), (.slice none 0 0)] fun h2 =>
  st Try.prog h2 31 (nx h1) 0 v1 fun h3 =>
  calls rec h3 31 [(.int .i64 n0)] fun v3 h4 =>
  ext v3 0 fun v4 =>
  asI .i64 v4 fun n2 =>
  ext v3 1 fun v5 =>
  asI .i64 v5 fun n3 =>
  ifB (lt n0 1) (
    ld Try.prog h4 31 (nx h1) 0 fun v6 =>
    calls rec h4 32 [v6] fun v7 h5 =>
    asB v7 fun q0 =>
    ifB q0 (
      ifB (eq n2 0) (
        ifB (eq n1 2) (
          ifB (eq n3 2) (
            calls rec h5 22 [] fun v8 h6 =>
            asB v8 fun q1 =>
            some ((.bool q1), h6)) (
            some ((.bool false), h5))) (
          some ((.bool false), h5))) (
        some ((.bool false), h5))) (
      some ((.bool false), h5))) (
    ifB (lt 7 n0) (
      ld Try.prog h4 31 (nx h1) 0 fun v9 =>
      calls rec h4 32 [v9] fun v10 h7 =>
      asB v10 fun q2 =>
      ifB q2 (
        ifB (eq n2 0) (
          ifB (eq n1 2) (
            ifB (eq n3 2) (
              calls rec h7 22 [] fun v11 h8 =>
              asB v11 fun q3 =>
              some ((.bool q3), h8)) (
              some ((.bool false), h7))) (
            some ((.bool false), h7))) (
          some ((.bool false), h7))) (
        some ((.bool false), h7))) (
      ld Try.prog h4 31 (nx h1) 0 fun v12 =>
      calls rec h4 33 [v12] fun v13 h9 =>
      al h9 24 [(.int .i64 0), (.slice none 0 0)] fun h10 =>
      st Try.prog h10 24 (nx h9) 0 v13 fun h11 =>
      ifB (eq n1 0) (
        ifB (eq n3 0) (
          calls rec h11 34 [(.int .i64 n0)] fun v14 h12 =>
          asI .i64 v14 fun n4 =>
          ifB (eq n2 n4) (
            ld Try.prog h12 24 (nx h9) 0 fun v15 =>
            calls rec h12 35 [v15] fun v16 h13 =>
            asB v16 fun q4 =>
            ifB q4 (
              ld Try.prog h13 3 (nx h9) 0 fun v17 =>
              asI .i64 v17 fun n5 =>
              ifB (eq n5 n0) (
                ld Try.prog h13 24 (nx h9) 0 fun v18 =>
                calls rec h13 36 [v18] fun v19 h14 =>
                asB v19 fun q5 =>
                ifB q5 (
                  ld Try.prog h14 22 (nx h9) (off 0 1) fun v20 =>
                  len v20 fun n6 =>
                  ifB (eq n6 n2) (
                    calls rec h14 22 [] fun v21 h15 =>
                    asB v21 fun q6 =>
                    some ((.bool q6), h15)) (
                    some ((.bool false), h14))) (
                  some ((.bool false), h14))) (
                some ((.bool false), h13))) (
              some ((.bool false), h13))) (
            some ((.bool false), h12))) (
          some ((.bool false), h11))) (
        some ((.bool false), h11))))

theorem e5 (rec : Rec) (k : Nat) (n0 : Int) (h : H) : bodyT Try.prog E0 SC (XC Try.prog rec k) 5 (Value × H) [.int .i64 n0] h (fun v h => some (v, h)) = f5 rec k n0 h := by kernel_rfl

theorem t5 {k : Nat} {n0 : Int} {h h1 : H} {v : Value} (hh : f5 rn k n0 h = some (v, h1)) : rn 5 #[.int .i64 n0] h = some (v, trunc Try.prog h h1 v) :=
  run_of_bodyT (args := [.int .i64 n0]) rfl ((e5 _ _ _ _).trans hh)

theorem x5 {k : Nat} {n0 : Int} {h h1 : H} {v : Value} (hh : f5 rn k n0 h = some (v, h1)) (hp : plainO v = false) : rn 5 #[.int .i64 n0] h = some (v, h1) := by rw [t5 hh, trunc_not hp]

noncomputable def f31 (rec : Rec) (_k : Nat) (n0 : Int) (h0 : H) : Option (Value × H) :=
  ifB (lt n0 1) (
    some ((.tuple #[(.int .i64 0), (.int .i64 2)]), h0)) (
    ifB (lt 7 n0) (
      some ((.tuple #[(.int .i64 0), (.int .i64 2)]), h0)) (
      calls rec h0 76 [(.int .i64 n0)] fun v0 h1 =>
      fld Try.prog 31 v0 1 fun v1 =>
      len v1 fun n1 =>
      some ((.tuple #[(.int .i64 n1), (.int .i64 0)]), h1)))

theorem e31 (rec : Rec) (k : Nat) (n0 : Int) (h : H) : bodyT Try.prog E0 SC (XC Try.prog rec k) 31 (Value × H) [.int .i64 n0] h (fun v h => some (v, h)) = f31 rec k n0 h := by kernel_rfl

theorem t31 {k : Nat} {n0 : Int} {h h1 : H} {v : Value} (hh : f31 rn k n0 h = some (v, h1)) : rn 31 #[.int .i64 n0] h = some (v, trunc Try.prog h h1 v) :=
  run_of_bodyT (args := [.int .i64 n0]) rfl ((e31 _ _ _ _).trans hh)

theorem p31 {k : Nat} {n0 : Int} {h h1 : H} {v : Value} (hh : f31 rn k n0 h = some (v, h1)) (hp : plainO v = true) (x : Ext h h1) : rn 31 #[.int .i64 n0] h = some (v, h) := by rw [t31 hh, trunc_pure hp x]

noncomputable def f71_l1 (rec : Rec) (_k : Nat) (h0 : H) (v4 : Value) (n3 : Int) (ws0 : List Value) (h2 : H) : Option (Ex × List Value × H) :=
  asI .i64 (gv ws0 1) fun n4 =>
  ifB (lt n4 n3) (
    asK (gv ws0 1) fun n5 =>
    six v4 n5 3 fun b0 b1 =>
    ld Try.prog h2 56 b0 b1 fun v5 =>
    al h2 56 [(.int .i64 0), (.int .i64 0), (.int .i64 0)] fun h3 =>
    st Try.prog h3 56 (nx h2) 0 v5 fun h4 =>
    ld Try.prog h4 31 (nx h0) 0 fun v6 =>
    ld Try.prog h4 3 (nx h2) 0 fun v7 =>
    asI .i64 v7 fun n6 =>
    calls rec h4 72 [v6, (.int .i64 n6)] fun v8 h5 =>
    asB v8 fun q0 =>
    ifB (not q0) (
      out .ret [(.bool false), gv ws0 1] h5) (
      ld Try.prog h5 31 (nx h0) 0 fun v9 =>
      ld Try.prog h5 3 (nx h2) (off 0 1) fun v10 =>
      asI .i64 v10 fun n7 =>
      calls rec h5 72 [v9, (.int .i64 n7)] fun v11 h6 =>
      asB v11 fun q1 =>
      ifB (not q1) (
        out .ret [(.bool false), gv ws0 1] h6) (
        ld Try.prog h6 3 (nx h2) 0 fun v12 =>
        asI .i64 v12 fun n8 =>
        ld Try.prog h6 3 (nx h2) (off 0 1) fun v13 =>
        asI .i64 v13 fun n9 =>
        ifB (eq n8 n9) (
          out .ret [(.bool false), gv ws0 1] h6) (
          ld Try.prog h6 3 (nx h2) (off 0 2) fun v14 =>
          asI .i64 v14 fun n10 =>
          ifB (lt n10 1) (
            out .ret [(.bool false), gv ws0 1] h6) (
            ld Try.prog h6 3 (nx h2) (off 0 2) fun v15 =>
            asI .i64 v15 fun n11 =>
            ifB (lt 30 n11) (
              out .ret [(.bool false), gv ws0 1] h6) (
              asI .i64 (gv ws0 1) fun n12 =>
              ifB (lt 0 n12) (
                ld Try.prog h6 29 (nx h0) (off 0 1) fun v16 =>
                asI .i64 (gv ws0 1) fun n13 =>
                six v16 (sub .i64 n13 1) 3 fun b2 b3 =>
                ld Try.prog h6 3 b2 (off b3 2) fun v17 =>
                asI .i64 v17 fun n14 =>
                ld Try.prog h6 3 (nx h2) (off 0 2) fun v18 =>
                asI .i64 v18 fun n15 =>
                ifB (lt n15 n14) (
                  out .ret [(.bool false), gv ws0 1] h6) (
                  ld Try.prog h6 29 (nx h0) (off 0 1) fun v19 =>
                  sli Try.prog h6 29 v19 none (some (gv ws0 1)) none fun v20 =>
                  calls rec h6 89 [v20, (.func (.func 99) #[] #[(pt (nx h2) 0)])] fun v21 h7 =>
                  asB v21 fun q2 =>
                  ifB q2 (
                    out .ret [(.bool false), gv ws0 1] h7) (
                    asI .i64 (gv ws0 1) fun n16 =>
                    out .normal [gv ws0 0, (.int .i64 (add .i64 n16 1))] h7))) (
                ld Try.prog h6 29 (nx h0) (off 0 1) fun v22 =>
                sli Try.prog h6 29 v22 none (some (gv ws0 1)) none fun v23 =>
                calls rec h6 89 [v23, (.func (.func 99) #[] #[(pt (nx h2) 0)])] fun v24 h8 =>
                asB v24 fun q3 =>
                ifB q3 (
                  out .ret [(.bool false), gv ws0 1] h8) (
                  asI .i64 (gv ws0 1) fun n17 =>
                  out .normal [gv ws0 0, (.int .i64 (add .i64 n17 1))] h8)))))))) (
    out (.exit 0) [gv ws0 0, gv ws0 1] h2)

noncomputable def f71 (rec : Rec) (k : Nat) (v0 : Value) (h0 : H) : Option (Value × H) :=
  bx h0 31 v0 fun h1 =>
  ld Try.prog h1 3 (nx h0) 0 fun v1 =>
  asI .i64 v1 fun n0 =>
  ifB (lt n0 1) (
    some ((.bool false), h1)) (
    ld Try.prog h1 3 (nx h0) 0 fun v2 =>
    asI .i64 v2 fun n1 =>
    ifB (lt 7 n1) (
      some ((.bool false), h1)) (
      ld Try.prog h1 29 (nx h0) (off 0 1) fun v3 =>
      len v3 fun n2 =>
      ifB (lt 24 n2) (
        some ((.bool false), h1)) (
        ld Try.prog h1 29 (nx h0) (off 0 1) fun v4 =>
        len v4 fun n3 =>
        lp k (f71_l1 rec k h0 v4 n3) [(.bool false), (.int .i64 0)] h1 fun e0 ws1 h9 =>
        onE e0 0 (
          some ((.bool true), h9)) (
          onR e0 (
            some (gv ws1 0, h9))))))

theorem e71 (rec : Rec) (k : Nat) (v0 : Value) (h : H) : bodyT Try.prog E0 SC (XC Try.prog rec k) 71 (Value × H) [.opq v0] h (fun v h => some (v, h)) = f71 rec k v0 h := by kernel_rfl

theorem t71 {k : Nat} {v0 : Value} {h h1 : H} {v : Value} (hh : f71 rn k v0 h = some (v, h1)) : rn 71 #[v0] h = some (v, trunc Try.prog h h1 v) :=
  run_of_bodyT (args := [.opq v0]) rfl ((e71 _ _ _ _).trans hh)

theorem p71 {k : Nat} {v0 : Value} {h h1 : H} {v : Value} (hh : f71 rn k v0 h = some (v, h1)) (hp : plainO v = true) (x : Ext h h1) : rn 71 #[v0] h = some (v, h) := by rw [t71 hh, trunc_pure hp x]

noncomputable def f72 (_rec : Rec) (_k : Nat) (v0 : Value) (n0 : Int) (h0 : H) : Option (Value × H) :=
  bx h0 31 v0 fun h1 =>
  ifB (le 0 n0) (
    ld Try.prog h1 3 (nx h0) 0 fun v1 =>
    asI .i64 v1 fun n1 =>
    some ((.bool (lt n0 n1)), h1)) (
    some ((.bool false), h1))

theorem e72 (rec : Rec) (k : Nat) (v0 : Value) (n0 : Int) (h : H) : bodyT Try.prog E0 SC (XC Try.prog rec k) 72 (Value × H) [.opq v0, .int .i64 n0] h (fun v h => some (v, h)) = f72 rec k v0 n0 h := by kernel_rfl

theorem t72 {k : Nat} {v0 : Value} {n0 : Int} {h h1 : H} {v : Value} (hh : f72 rn k v0 n0 h = some (v, h1)) : rn 72 #[v0, .int .i64 n0] h = some (v, trunc Try.prog h h1 v) :=
  run_of_bodyT (args := [.opq v0, .int .i64 n0]) rfl ((e72 _ _ _ _ _).trans hh)

theorem p72 {k : Nat} {v0 : Value} {n0 : Int} {h h1 : H} {v : Value} (hh : f72 rn k v0 n0 h = some (v, h1)) (hp : plainO v = true) (x : Ext h h1) : rn 72 #[v0, .int .i64 n0] h = some (v, h) := by rw [t72 hh, trunc_pure hp x]

noncomputable def f73 (_rec : Rec) (_k : Nat) (v0 : Value) (n0 : Int) (h0 : H) : Option (Value × H) :=
  bx h0 56 v0 fun h1 =>
  ld Try.prog h1 3 (nx h0) 0 fun v1 =>
  asI .i64 v1 fun n1 =>
  ifB (eq n1 n0) (
    some ((.bool true), h1)) (
    ld Try.prog h1 3 (nx h0) (off 0 1) fun v2 =>
    asI .i64 v2 fun n2 =>
    some ((.bool (eq n2 n0)), h1))

theorem e73 (rec : Rec) (k : Nat) (v0 : Value) (n0 : Int) (h : H) : bodyT Try.prog E0 SC (XC Try.prog rec k) 73 (Value × H) [.opq v0, .int .i64 n0] h (fun v h => some (v, h)) = f73 rec k v0 n0 h := by kernel_rfl

theorem t73 {k : Nat} {v0 : Value} {n0 : Int} {h h1 : H} {v : Value} (hh : f73 rn k v0 n0 h = some (v, h1)) : rn 73 #[v0, .int .i64 n0] h = some (v, trunc Try.prog h h1 v) :=
  run_of_bodyT (args := [.opq v0, .int .i64 n0]) rfl ((e73 _ _ _ _ _).trans hh)

theorem p73 {k : Nat} {v0 : Value} {n0 : Int} {h h1 : H} {v : Value} (hh : f73 rn k v0 n0 h = some (v, h1)) (hp : plainO v = true) (x : Ext h h1) : rn 73 #[v0, .int .i64 n0] h = some (v, h) := by rw [t73 hh, trunc_pure hp x]

noncomputable def f74 (_rec : Rec) (_k : Nat) (v0 : Value) (n0 : Int) (h0 : H) : Option (Value × H) :=
  bx h0 56 v0 fun h1 =>
  ld Try.prog h1 3 (nx h0) 0 fun v1 =>
  asI .i64 v1 fun n1 =>
  ld Try.prog h1 3 (nx h0) (off 0 1) fun v2 =>
  asI .i64 v2 fun n2 =>
  some ((.int .i64 (sub .i64 (add .i64 n1 n2) n0)), h1)

theorem e74 (rec : Rec) (k : Nat) (v0 : Value) (n0 : Int) (h : H) : bodyT Try.prog E0 SC (XC Try.prog rec k) 74 (Value × H) [.opq v0, .int .i64 n0] h (fun v h => some (v, h)) = f74 rec k v0 n0 h := by kernel_rfl

theorem t74 {k : Nat} {v0 : Value} {n0 : Int} {h h1 : H} {v : Value} (hh : f74 rn k v0 n0 h = some (v, h1)) : rn 74 #[v0, .int .i64 n0] h = some (v, trunc Try.prog h h1 v) :=
  run_of_bodyT (args := [.opq v0, .int .i64 n0]) rfl ((e74 _ _ _ _ _).trans hh)

theorem p74 {k : Nat} {v0 : Value} {n0 : Int} {h h1 : H} {v : Value} (hh : f74 rn k v0 n0 h = some (v, h1)) (hp : plainO v = true) (x : Ext h h1) : rn 74 #[v0, .int .i64 n0] h = some (v, h) := by rw [t74 hh, trunc_pure hp x]

noncomputable def f76_l1 (rec : Rec) (_k : Nat) (n0 : Int) (h1 : H) (h3 : H) (ws0 : List Value) (h6 : H) : Option (Ex × List Value × H) :=
  asI .i64 (gv ws0 0) fun n1 =>
  ifB (lt n1 n0) (
    asI .i64 (gv ws0 0) fun n2 =>
    calls rec h6 100 [(.int .i64 (sub .i64 n2 1)), gv ws0 0, (pt (nx h3) 0), (pt (nx h1) 0)] fun _ h7 =>
    asI .i64 (gv ws0 0) fun n3 =>
    out .normal [(.int .i64 (add .i64 n3 1))] h7) (
    out (.exit 0) [gv ws0 0] h6)

noncomputable def f76_l2 (rec : Rec) (_k : Nat) (n0 : Int) (h1 : H) (h3 : H) (ws2 : List Value) (h12 : H) : Option (Ex × List Value × H) :=
  asI .i64 (gv ws2 0) fun n4 =>
  ifB (lt n4 n0) (
    calls rec h12 100 [(.int .i64 0), gv ws2 0, (pt (nx h3) 0), (pt (nx h1) 0)] fun _ h13 =>
    asI .i64 (gv ws2 0) fun n5 =>
    out .normal [(.int .i64 (add .i64 n5 1))] h13) (
    out (.exit 2) [gv ws2 0] h12)

noncomputable def f76_l3 (rec : Rec) (_k : Nat) (n0 : Int) (h1 : H) (h3 : H) (ws4 : List Value) (h19 : H) : Option (Ex × List Value × H) :=
  asI .i64 (gv ws4 0) fun n6 =>
  ifB (lt n6 n0) (
    calls rec h19 100 [(.int .i64 0), gv ws4 0, (pt (nx h3) 0), (pt (nx h1) 0)] fun _ h20 =>
    asI .i64 (gv ws4 0) fun n7 =>
    out .normal [(.int .i64 (add .i64 n7 1))] h20) (
    out (.exit 4) [gv ws4 0] h19)

noncomputable def f76 (rec : Rec) (k : Nat) (n0 : Int) (h0 : H) : Option (Value × H) :=
  al h0 31 [(.int .i64 0), (.slice none 0 0)] fun h1 =>
  bld Try.prog 31 [(0, (.int .i64 n0))] fun v0 =>
  al h1 31 [(.int .i64 0), (.slice none 0 0)] fun h2 =>
  st Try.prog h2 31 (nx h1) 0 v0 fun h3 =>
  al h3 3 [(.int .i64 0)] fun h4 =>
  st Try.prog h4 3 (nx h3) 0 (.int .i64 0) fun h5 =>
  ifB (lt n0 4) (
    lp k (f76_l1 rec k n0 h1 h3) [(.int .i64 1)] h5 fun e0 _ h8 =>
    onE e0 0 (
      ifB (eq n0 3) (
        calls rec h8 100 [(.int .i64 0), (.int .i64 1), (pt (nx h3) 0), (pt (nx h1) 0)] fun _ h9 =>
        ld Try.prog h9 31 (nx h1) 0 fun v3 =>
        st Try.prog h9 31 (nx h0) 0 v3 fun h10 =>
        ld Try.prog h10 31 (nx h0) 0 fun v4 =>
        some (v4, h10)) (
        ld Try.prog h8 31 (nx h1) 0 fun v5 =>
        st Try.prog h8 31 (nx h0) 0 v5 fun h11 =>
        ld Try.prog h11 31 (nx h0) 0 fun v6 =>
        some (v6, h11))) (
      none)) (
    lp k (f76_l2 rec k n0 h1 h3) [(.int .i64 4)] h5 fun e1 _ h14 =>
    onE e1 2 (
      calls rec h14 100 [(.int .i64 0), (.int .i64 1), (pt (nx h3) 0), (pt (nx h1) 0)] fun _ h15 =>
      calls rec h15 100 [(.int .i64 2), (.int .i64 3), (pt (nx h3) 0), (pt (nx h1) 0)] fun _ h16 =>
      calls rec h16 100 [(.int .i64 0), (.int .i64 2), (pt (nx h3) 0), (pt (nx h1) 0)] fun _ h17 =>
      calls rec h17 100 [(.int .i64 1), (.int .i64 3), (pt (nx h3) 0), (pt (nx h1) 0)] fun _ h18 =>
      lp k (f76_l3 rec k n0 h1 h3) [(.int .i64 4)] h18 fun e2 _ h21 =>
      onE e2 4 (
        ld Try.prog h21 31 (nx h1) 0 fun v13 =>
        st Try.prog h21 31 (nx h0) 0 v13 fun h22 =>
        ld Try.prog h22 31 (nx h0) 0 fun v14 =>
        some (v14, h22)) (
        none)) (
      none))

theorem e76 (rec : Rec) (k : Nat) (n0 : Int) (h : H) : bodyT Try.prog E0 SC (XC Try.prog rec k) 76 (Value × H) [.int .i64 n0] h (fun v h => some (v, h)) = f76 rec k n0 h := by kernel_rfl

theorem t76 {k : Nat} {n0 : Int} {h h1 : H} {v : Value} (hh : f76 rn k n0 h = some (v, h1)) : rn 76 #[.int .i64 n0] h = some (v, trunc Try.prog h h1 v) :=
  run_of_bodyT (args := [.int .i64 n0]) rfl ((e76 _ _ _ _).trans hh)

theorem x76 {k : Nat} {n0 : Int} {h h1 : H} {v : Value} (hh : f76 rn k n0 h = some (v, h1)) (hp : plainO v = false) : rn 76 #[.int .i64 n0] h = some (v, h1) := by rw [t76 hh, trunc_not hp]

noncomputable def f77_l1 (_rec : Rec) (_k : Nat) (n0 : Int) (ws0 : List Value) (h2 : H) : Option (Ex × List Value × H) :=
  asI .i64 (gv ws0 1) fun n1 =>
  ifB (lt n1 n0) (
    asK (gv ws0 1) fun n2 =>
    nn n2 (
      bls Try.prog h2 25 1 [(0, (.int .i64 (shl .i64 1 n2)))] fun v2 h3 =>
      app Try.prog h3 25 25 (gv ws0 0) v2 fun v3 h4 =>
      asI .i64 (gv ws0 1) fun n3 =>
      out .normal [v3, (.int .i64 (add .i64 n3 1))] h4)) (
    out (.exit 0) [gv ws0 0, gv ws0 1] h2)

noncomputable def f77 (rec : Rec) (k : Nat) (v0 : Value) (h0 : H) : Option (Value × H) :=
  bx h0 31 v0 fun h1 =>
  ld Try.prog h1 3 (nx h0) 0 fun v1 =>
  asI .i64 v1 fun n0 =>
  lp k (f77_l1 rec k n0) [(.slice none 0 0), (.int .i64 0)] h1 fun e0 ws1 h5 =>
  onE e0 0 (
    some (gv ws1 0, h5)) (
    none)

theorem e77 (rec : Rec) (k : Nat) (v0 : Value) (h : H) : bodyT Try.prog E0 SC (XC Try.prog rec k) 77 (Value × H) [.opq v0] h (fun v h => some (v, h)) = f77 rec k v0 h := by kernel_rfl

theorem t77 {k : Nat} {v0 : Value} {h h1 : H} {v : Value} (hh : f77 rn k v0 h = some (v, h1)) : rn 77 #[v0] h = some (v, trunc Try.prog h h1 v) :=
  run_of_bodyT (args := [.opq v0]) rfl ((e77 _ _ _ _).trans hh)

theorem x77 {k : Nat} {v0 : Value} {h h1 : H} {v : Value} (hh : f77 rn k v0 h = some (v, h1)) (hp : plainO v = false) : rn 77 #[v0] h = some (v, h1) := by rw [t77 hh, trunc_not hp]

noncomputable def f78 (_rec : Rec) (_k : Nat) (v0 : Value) (v1 : Value) (h0 : H) : Option (Value × H) :=
  bx h0 56 v1 fun h1 =>
  ld Try.prog h1 3 (nx h0) 0 fun v2 =>
  asI .i64 v2 fun n0 =>
  six v0 n0 1 fun b0 b1 =>
  ld Try.prog h1 3 b0 b1 fun v3 =>
  asI .i64 v3 fun n1 =>
  ld Try.prog h1 3 (nx h0) (off 0 1) fun v4 =>
  asI .i64 v4 fun n2 =>
  six v0 n2 1 fun b2 b3 =>
  ld Try.prog h1 3 b2 b3 fun v5 =>
  asI .i64 v5 fun n3 =>
  ld Try.prog h1 3 (nx h0) 0 fun v6 =>
  asI .i64 v6 fun n4 =>
  six v0 n4 1 fun b4 b5 =>
  ld Try.prog h1 3 b4 b5 fun v7 =>
  asI .i64 v7 fun n5 =>
  ifB (not (eq n5 (or .i64 n1 n3))) (
    ld Try.prog h1 3 (nx h0) 0 fun v8 =>
    asI .i64 v8 fun n6 =>
    ld Try.prog h1 3 (nx h0) (off 0 1) fun v9 =>
    asI .i64 v9 fun n7 =>
    six v0 n6 1 fun b6 b7 =>
    st Try.prog h1 3 b6 b7 (.int .i64 (or .i64 n1 n3)) fun h2 =>
    ck (fre (nx h0) (nx h1) (off 0 1) 1 b6 b7 1) (
      six v0 n7 1 fun b8 b9 =>
      st Try.prog h2 3 b8 b9 (.int .i64 (or .i64 n1 n3)) fun h3 =>
      some ((.bool true), h3))) (
    ld Try.prog h1 3 (nx h0) (off 0 1) fun v10 =>
    asI .i64 v10 fun n8 =>
    six v0 n8 1 fun b10 b11 =>
    ld Try.prog h1 3 b10 b11 fun v11 =>
    asI .i64 v11 fun n9 =>
    ld Try.prog h1 3 (nx h0) 0 fun v12 =>
    asI .i64 v12 fun n10 =>
    ld Try.prog h1 3 (nx h0) (off 0 1) fun v13 =>
    asI .i64 v13 fun n11 =>
    six v0 n10 1 fun b12 b13 =>
    st Try.prog h1 3 b12 b13 (.int .i64 (or .i64 n1 n3)) fun h4 =>
    ck (fre (nx h0) (nx h1) (off 0 1) 1 b12 b13 1) (
      six v0 n11 1 fun b14 b15 =>
      st Try.prog h4 3 b14 b15 (.int .i64 (or .i64 n1 n3)) fun h5 =>
      some ((.bool (not (eq n9 (or .i64 n1 n3)))), h5)))

theorem e78 (rec : Rec) (k : Nat) (v0 : Value) (v1 : Value) (h : H) : bodyT Try.prog E0 SC (XC Try.prog rec k) 78 (Value × H) [.opq v0, .opq v1] h (fun v h => some (v, h)) = f78 rec k v0 v1 h := by kernel_rfl

theorem t78 {k : Nat} {v0 : Value} {v1 : Value} {h h1 : H} {v : Value} (hh : f78 rn k v0 v1 h = some (v, h1)) : rn 78 #[v0, v1] h = some (v, trunc Try.prog h h1 v) :=
  run_of_bodyT (args := [.opq v0, .opq v1]) rfl ((e78 _ _ _ _ _).trans hh)

noncomputable def f89 (rec : Rec) (_k : Nat) (v0 : Value) (v1 : Value) (h0 : H) : Option (Value × H) :=
  calls rec h0 105 [v0, v1] fun v2 h1 =>
  asI .i64 v2 fun n0 =>
  some ((.bool (le 0 n0)), h1)

theorem e89 (rec : Rec) (k : Nat) (v0 : Value) (v1 : Value) (h : H) : bodyT Try.prog E0 SC (XC Try.prog rec k) 89 (Value × H) [.opq v0, .opq v1] h (fun v h => some (v, h)) = f89 rec k v0 v1 h := by kernel_rfl

theorem t89 {k : Nat} {v0 : Value} {v1 : Value} {h h1 : H} {v : Value} (hh : f89 rn k v0 v1 h = some (v, h1)) : rn 89 #[v0, v1] h = some (v, trunc Try.prog h h1 v) :=
  run_of_bodyT (args := [.opq v0, .opq v1]) rfl ((e89 _ _ _ _ _).trans hh)

theorem p89 {k : Nat} {v0 : Value} {v1 : Value} {h h1 : H} {v : Value} (hh : f89 rn k v0 v1 h = some (v, h1)) (hp : plainO v = true) (x : Ext h h1) : rn 89 #[v0, v1] h = some (v, h) := by rw [t89 hh, trunc_pure hp x]

noncomputable def f99 (rec : Rec) (_k : Nat) (v0 : Value) (v1 : Value) (h0 : H) : Option (Value × H) :=
  bx h0 56 v0 fun h1 =>
  ld Try.prog h1 3 (nx h0) (off 0 2) fun v2 =>
  asI .i64 v2 fun n0 =>
  asP v1 fun b0 b1 =>
  ld Try.prog h1 3 b0 (off b1 2) fun v3 =>
  asI .i64 v3 fun n1 =>
  ifB (eq n0 n1) (
    ld Try.prog h1 56 (nx h0) 0 fun v4 =>
    asP v1 fun b2 b3 =>
    ld Try.prog h1 3 b2 b3 fun v5 =>
    asI .i64 v5 fun n2 =>
    calls rec h1 73 [v4, (.int .i64 n2)] fun v6 h2 =>
    asB v6 fun q0 =>
    ifB q0 (
      some ((.bool true), h2)) (
      ld Try.prog h2 56 (nx h0) 0 fun v7 =>
      asP v1 fun b4 b5 =>
      ld Try.prog h2 3 b4 (off b5 1) fun v8 =>
      asI .i64 v8 fun n3 =>
      calls rec h2 73 [v7, (.int .i64 n3)] fun v9 h3 =>
      asB v9 fun q1 =>
      some ((.bool q1), h3))) (
    some ((.bool false), h1))

theorem e99 (rec : Rec) (k : Nat) (v0 : Value) (v1 : Value) (h : H) : bodyT Try.prog E0 SC (XC Try.prog rec k) 99 (Value × H) [.opq v0, .opq v1] h (fun v h => some (v, h)) = f99 rec k v0 v1 h := by kernel_rfl

theorem t99 {k : Nat} {v0 : Value} {v1 : Value} {h h1 : H} {v : Value} (hh : f99 rn k v0 v1 h = some (v, h1)) : rn 99 #[v0, v1] h = some (v, trunc Try.prog h h1 v) :=
  run_of_bodyT (args := [.opq v0, .opq v1]) rfl ((e99 _ _ _ _ _).trans hh)

theorem p99 {k : Nat} {v0 : Value} {v1 : Value} {h h1 : H} {v : Value} (hh : f99 rn k v0 v1 h = some (v, h1)) (hp : plainO v = true) (x : Ext h h1) : rn 99 #[v0, v1] h = some (v, h) := by rw [t99 hh, trunc_pure hp x]

noncomputable def f100 (_rec : Rec) (_k : Nat) (n0 : Int) (n1 : Int) (v0 : Value) (v1 : Value) (h0 : H) : Option (Value × H) :=
  asP v0 fun b0 b1 =>
  ld Try.prog h0 3 b0 b1 fun v2 =>
  asI .i64 v2 fun n2 =>
  asP v0 fun b2 b3 =>
  st Try.prog h0 3 b2 b3 (.int .i64 (add .i64 n2 1)) fun h1 =>
  asP v1 fun b4 b5 =>
  ld Try.prog h1 29 b4 (off b5 1) fun v3 =>
  asP v0 fun b6 b7 =>
  ld Try.prog h1 3 b6 b7 fun v4 =>
  asI .i64 v4 fun n3 =>
  bld Try.prog 56 [(0, (.int .i64 n0)), (1, (.int .i64 n1)), (2, (.int .i64 n3))] fun v5 =>
  bls Try.prog h1 29 1 [(0, v5)] fun v6 h2 =>
  app Try.prog h2 29 29 v3 v6 fun v7 h3 =>
  asP v1 fun b8 b9 =>
  st Try.prog h3 29 b8 (off b9 1) v7 fun h4 =>
  some (undef, h4)

theorem e100 (rec : Rec) (k : Nat) (n0 : Int) (n1 : Int) (v0 : Value) (v1 : Value) (h : H) : bodyT Try.prog E0 SC (XC Try.prog rec k) 100 (Value × H) [.int .i64 n0, .int .i64 n1, .opq v0, .opq v1] h (fun v h => some (v, h)) = f100 rec k n0 n1 v0 v1 h := by kernel_rfl

theorem t100 {k : Nat} {n0 : Int} {n1 : Int} {v0 : Value} {v1 : Value} {h h1 : H} {v : Value} (hh : f100 rn k n0 n1 v0 v1 h = some (v, h1)) : rn 100 #[.int .i64 n0, .int .i64 n1, v0, v1] h = some (v, trunc Try.prog h h1 v) :=
  run_of_bodyT (args := [.int .i64 n0, .int .i64 n1, .opq v0, .opq v1]) rfl ((e100 _ _ _ _ _ _ _).trans hh)

theorem x100 {k : Nat} {n0 : Int} {n1 : Int} {v0 : Value} {v1 : Value} {h h1 : H} {v : Value} (hh : f100 rn k n0 n1 v0 v1 h = some (v, h1)) (hp : plainO v = false) : rn 100 #[.int .i64 n0, .int .i64 n1, v0, v1] h = some (v, h1) := by rw [t100 hh, trunc_not hp]

noncomputable def f105_l1 (rec : Rec) (_k : Nat) (v0 : Value) (v1 : Value) (n0 : Int) (ws0 : List Value) (h1 : H) : Option (Ex × List Value × H) :=
  asI .i64 (gv ws0 1) fun n1 =>
  ifB (lt n1 n0) (
    asK (gv ws0 1) fun n2 =>
    six v0 n2 3 fun b0 b1 =>
    ld Try.prog h1 56 b0 b1 fun v2 =>
    callsV rec h1 v1 [v2] fun v3 h2 =>
    asB v3 fun q0 =>
    ifB q0 (
      out .ret [gv ws0 1, gv ws0 1] h2) (
      asI .i64 (gv ws0 1) fun n3 =>
      out .normal [gv ws0 0, (.int .i64 (add .i64 n3 1))] h2)) (
    out (.exit 0) [gv ws0 0, gv ws0 1] h1)

noncomputable def f105 (rec : Rec) (k : Nat) (v0 : Value) (v1 : Value) (h0 : H) : Option (Value × H) :=
  len v0 fun n0 =>
  lp k (f105_l1 rec k v0 v1 n0) [(.int .i64 0), (.int .i64 0)] h0 fun e0 ws1 h3 =>
  onE e0 0 (
    some ((.int .i64 (-1)), h3)) (
    onR e0 (
      some (gv ws1 0, h3)))

theorem e105 (rec : Rec) (k : Nat) (v0 : Value) (v1 : Value) (h : H) : bodyT Try.prog E0 SC (XC Try.prog rec k) 105 (Value × H) [.opq v0, .opq v1] h (fun v h => some (v, h)) = f105 rec k v0 v1 h := by kernel_rfl

theorem t105 {k : Nat} {v0 : Value} {v1 : Value} {h h1 : H} {v : Value} (hh : f105 rn k v0 v1 h = some (v, h1)) : rn 105 #[v0, v1] h = some (v, trunc Try.prog h h1 v) :=
  run_of_bodyT (args := [.opq v0, .opq v1]) rfl ((e105 _ _ _ _ _).trans hh)

theorem p105 {k : Nat} {v0 : Value} {v1 : Value} {h h1 : H} {v : Value} (hh : f105 rn k v0 v1 h = some (v, h1)) (hp : plainO v = true) (x : Ext h h1) : rn 105 #[v0, v1] h = some (v, h) := by rw [t105 hh, trunc_pure hp x]

end Go.AM

end

section

/- What the small functions of calls answer. -/
namespace Go.AM
open Go.Proofs
/-- A call. -/
structure Kl where
  a : Int
  b : Int
  t : Int
deriving DecidableEq

def Kl.cells (c : Kl) : List Value := [iv c.a, iv c.b, iv c.t]

abbrev Kl.val (c : Kl) : Value := .agg c.cells.toArray

def Kl.has (c : Kl) (p : Int) : Bool := c.a == p || c.b == p

variable {k : Nat}
attribute [local simp] nx_eq nx_new nx_set blk_new blk_set asI_int asK_int asB_bool asP_ptr al_eq bx_eq len_slice onE_exit onE_ret onR_ret Value.cells d3 d29 d31 d56 d24 d59 d22 cell_new cell_set rd_new rd_set off eq lt le ifB
theorem s73 (c : Kl) (p : Int) (h : H) : rn 73 #[c.val, iv p] h = some (.bool (c.has p), h) :=
  p73 (k := 0) (h1 := h.new (.row c.cells 56 true)) (by simp [f73, Kl.val, Kl.cells, Kl.has]; by_cases h1 : c.a = p <;> simp [h1]) rfl (.new _ _)

theorem s74 (c : Kl) (p : Int) (h : H) : rn 74 #[c.val, iv p] h = some (iv (sub .i64 (add .i64 c.a c.b) p), h) :=
  p74 (k := 0) (h1 := h.new (.row c.cells 56 true)) (by simp [f74, Kl.val, Kl.cells]) rfl (.new _ _)

theorem s72 (n p : Int) (s : Value) (h : H) : rn 72 #[.agg #[iv n, s], iv p] h = some (.bool (decide (0 ≤ p ∧ p < n)), h) :=
  p72 (k := 0) (h1 := h.new (.row [iv n, s] 31 true)) (by simp [f72]; by_cases h1 : 0 ≤ p <;> simp [h1]) rfl (.new _ _)

theorem s42 (n p : Int) (s : Value) (h : H) : rn 42 #[.agg #[iv n, s], iv p] h = some (.bool (decide (0 ≤ p ∧ p < n)), h) :=
  p42 (k := 0) (h1 := h.new (.row [iv n, s] 24 true)) (by simp [f42]; by_cases h1 : 0 ≤ p <;> simp [h1]) rfl (.new _ _)

/-- Calls, as they stand in the staged forms. -/
theorem k73 {R : Type} (c : Kl) (p : Int) (h : H) (K : Value → H → Option R) : calls rn h 73 [.agg #[iv c.a, iv c.b, iv c.t], iv p] K = K (.bool (c.has p)) h := calls_eq (s73 c p h)

theorem k74 {R : Type} (c : Kl) (p : Int) (h : H) (K : Value → H → Option R) : calls rn h 74 [.agg #[iv c.a, iv c.b, iv c.t], iv p] K = K (iv (sub .i64 (add .i64 c.a c.b) p)) h := calls_eq (s74 c p h)

theorem k72 {R : Type} (n p : Int) (s : Value) (h : H) (K : Value → H → Option R) : calls rn h 72 [.agg #[iv n, s], iv p] K = K (.bool (decide (0 ≤ p ∧ p < n))) h := calls_eq (s72 n p s h)

theorem k42 {R : Type} (n p : Int) (s : Value) (h : H) (K : Value → H → Option R) : calls rn h 42 [.agg #[iv n, s], iv p] K = K (.bool (decide (0 ≤ p ∧ p < n))) h := calls_eq (s42 n p s h)

/-- Two calls that cannot be: at one time, with a person in common. -/
def clash (c x : Kl) : Bool := x.t == c.t && (x.has c.a || x.has c.b)

attribute [local simp] k73 k74 k72 k42 lt_ne lt_ne1
theorem s99 {h : H} {c x : Kl} {b : Nat} (hb : b < h.nx) (hc : h.blk b = some (.row c.cells 56 true)) : rn 99 #[x.val, pt b 0] h = some (.bool (clash c x), h) := by
  refine p99 (k := 0) (h1 := h.new (.row x.cells 56 true)) ?_ rfl (.new _ _)
  simp only [Kl.cells] at hc
  simp [f99, Kl.cells, clash, hb, cell_of hc]
  by_cases h1 : x.t = c.t <;> simp [h1]
  by_cases h2 : x.has c.a = true <;> simp [h2]

/-- The first element for which a function says yes. -/
theorem s105 {v0 v1 : Value} {h : H} {l : List Kl} (hs : SlR h 56 3 v0 (l.map Kl.cells)) {p : Kl → Bool} (hp : ∀ x ∈ l, callV rn v1 #[x.val] h = some (.bool (p x), h)) :
    ∃ r, rn 105 #[v0, v1] h = some (iv r, h) ∧ (le 0 r = l.any p) := by
  have hlen := hs.lt62
  rw [List.length_map] at hlen
  have hl := lp_same (F := f105_l1 rn (l.length + 1) v0 v1 l.length) (k := l.length + 1) (l := l) (h := h) (fun i (_ : Unit) => [iv 0, iv i])
    (fun i x s => if (!p x) = true then .inl s else .inr i) (fun _ _ => True) (fun _ => .ret) (fun i => [iv i, iv i]) 0 (fun _ => [iv 0, iv l.length]) (ws := [iv 0, iv 0]) (s0 := ()) rfl trivial (by omega) (by simp)
    (fun _ _ => by simp [f105_l1, gv, out])
    (by
      intro i c _ hc _
      have hi := (List.getElem?_eq_some_iff.1 hc).1
      refine ⟨fun _ _ => trivial, ?_⟩
      unfold f105_l1
      rw [show gv [iv 0, iv i] 1 = iv i from rfl, asI_int, lt_t (by omega), ifB_true, asK_int, hs.ldA ag56 sz56 (by omega) (x := c.cells) (by simp [hc]), callsV_some (hp c (List.mem_of_getElem? hc))]
      rw [asB_bool, asI_int, add64 (by omega) (by omega)]
      cases hpc : p c <;> simp [out, rnd, gv])
  rcases itL_all (ok := fun _ x => !p x) (g := fun i _ => i) (s0 := ()) l 0 with ⟨⟨r, h1⟩, j, x, hx, h2⟩ | ⟨h1, h2⟩
  · rw [h1] at hl
    refine ⟨r, p105 (k := l.length + 1) ?_ rfl (.refl _), ?_⟩
    · unfold f105
      rw [hs.len, List.length_map, lp_eq hl]
      rfl
    · rw [le_t (by omega)]
      symm
      rw [List.any_eq_true]
      exact ⟨x, List.mem_of_getElem? hx, by simpa using h2⟩
  · rw [h1] at hl
    refine ⟨-1, p105 (k := l.length + 1) ?_ rfl (.refl _), ?_⟩
    · unfold f105
      rw [hs.len, List.length_map, lp_eq hl.1]
      rfl
    · symm
      show _ = false
      rw [List.any_eq_false]
      intro x hx
      obtain ⟨j, hj, rfl⟩ := List.getElem_of_mem hx
      simpa using h2 j _ (List.getElem?_eq_getElem hj)

theorem s89 {v0 v1 : Value} {h : H} {l : List Kl} (hs : SlR h 56 3 v0 (l.map Kl.cells)) {p : Kl → Bool} (hp : ∀ x ∈ l, callV rn v1 #[x.val] h = some (.bool (p x), h)) :
    rn 89 #[v0, v1] h = some (.bool (l.any p), h) := by
  obtain ⟨r, e, hr⟩ := s105 hs hp
  refine p89 (k := 0) ?_ rfl (.refl _)
  unfold f89
  rw [calls_eq e, asI_int, hr]

/-- A call of a log of n people. -/
def okC (n : Int) (c : Kl) : Bool := decide (0 ≤ c.a ∧ c.a < n) && decide (0 ≤ c.b ∧ c.b < n) && !(c.a == c.b) && !decide (c.t < 1) && !decide (30 < c.t)

/-- May the call at place i follow those ahead of it? -/
def rowOk (n : Int) (l : List Kl) (i : Nat) : Bool :=
  match l[i]? with
  | none => true
  | some c => okC n c && !(decide (0 < i) && ((l[i - 1]?).any fun d => decide (c.t < d.t))) && !(l.take i).any (clash c)

def validP (n : Int) (l : List Kl) : Bool := !decide (n < 1) && !decide (7 < n) && !decide (24 < (l.length : Int)) && (List.range l.length).all (rowOk n l)

theorem under29 : Try.prog.underlying 29 = some (.slice 56) := by kernel_rfl

theorem s71 {n : Int} {sl : Value} {l : List Kl} {h : H} (hs : SlR h 56 3 sl (l.map Kl.cells)) : rn 71 #[.agg #[iv n, sl]] h = some (.bool (validP n l), h) := by
  have hlen := hs.lt62
  rw [List.length_map] at hlen
  have x1 : Ext h (h.new (.row [iv n, sl] 31 true)) := .new _ _
  have hb1 : (h.new (.row [iv n, sl] 31 true)).blk h.nx = some (.row [iv n, sl] 31 true) := blk_new_self _ _
  have hn1 : h.nx < (h.new (.row [iv n, sl] 31 true)).nx := Nat.lt_succ_self _
  have hs1 := hs.ext x1
  have hl : ∃ h', Ext (h.new (.row [iv n, sl] 31 true)) h' ∧ _ := lp_list (F := f71_l1 rn (l.length + 1) h sl l.length) (k := l.length + 1) (l := l) (h1 := h.new (.row [iv n, sl] 31 true)) (fun i (_ : Unit) => [.bool false, iv i])
    (fun i _ s => if rowOk n l i = true then .inl s else .inr i) (fun _ _ => True) (fun _ => .ret) (fun i => [.bool false, iv i]) 0 (fun _ => [.bool false, iv l.length]) (ws := [.bool false, iv 0]) (s0 := ()) rfl trivial (by omega) (by simp)
    (fun _ h2 _ _ => by simp [f71_l1, gv, out])
    (by
      intro i c _ h2 hc _ x2
      have hi := (List.getElem?_eq_some_iff.1 hc).1
      have hb2 := (x2.blk _ hn1).trans hb1
      have hn2 := Nat.lt_of_lt_of_le hn1 x2.nx
      have hs2 := hs1.ext x2
      have x3 := (Ext.refl h2).fresh 56 [iv 0, iv 0, iv 0] c.cells
      have hb3 := (x3.blk _ hn2).trans hb2
      have hcb := blk_fresh h2 56 [iv 0, iv 0, iv 0] c.cells
      have hn3 : h2.nx < (h2.fresh 56 [iv 0, iv 0, iv 0] c.cells).nx := Nat.lt_succ_self _
      have hs3 := hs2.ext x3
      obtain ⟨v', hv', hsli⟩ := hs3.take (i := (i : Int)) under29 sz56 (by omega) (by simp; omega)
      rw [Int.toNat_natCast, ← List.map_take] at hv'
      have h89 := s89 (v1 := .func (.func 99) #[] #[pt h2.nx 0]) (p := clash c) hv' (fun x _ => s99 hn3 hcb)
      refine ⟨fun _ _ => trivial, h2.fresh 56 [iv 0, iv 0, iv 0] c.cells, x3, ?_⟩
      unfold f71_l1
      rw [show gv [.bool false, iv i] 1 = iv i from rfl, show gv [.bool false, iv i] 0 = .bool false from rfl, asI_int, lt_t (by omega), ifB_true, asK_int, hs2.ldA ag56 sz56 (by omega) (x := c.cells) (by simp [hc])]
      rw [al_st (zs := [iv 0, iv 0, iv 0]) (xs := c.cells) sz56 rfl rfl]
      generalize h2.fresh 56 [iv 0, iv 0, iv 0] c.cells = h3 at *
      simp only [Kl.cells] at hcb
      have hprev : ∀ (K : Value → Option (Ex × List Value × H)), 0 < i → (AM.six sl (sub .i64 (i : Int) 1) 3 fun b2 b3 => (h3.cell b2 (b3 + 2)).bind K) = K (iv ((l[i - 1]?).getD c).t) := by
        intro K h0
        have h1 : i - 1 < l.length := by omega
        rw [sub64 (by omega) (by omega)]
        rw [hs3.cF (by omega) (x := (l[i-1]).cells) (by rw [show ((i : Int) - 1).toNat = i - 1 by omega]; simp [h1]) (y := iv (l[i-1]).t) rfl]
        simp [h1]
      have hcall : ∀ (K : Value → H → Option (Ex × List Value × H)), calls rn h3 89 [v', Value.func (Fn.func 99) #[] #[pt h2.nx 0]] K = K (.bool ((l.take i).any (clash c))) h3 := fun K => calls_eq h89
      by_cases h0 : 0 < i
      · simp [cell_of hb3, rd_of hb3, cell_of hcb, rd_of hcb, out, hsli, hcall, hprev, h0, hc, rnd]
        rw [add64 (by omega) (by omega)]
        have : l[i-1]? = some l[i-1] := List.getElem?_eq_getElem (by omega)
        grind [rowOk, okC]
      · simp [cell_of hb3, rd_of hb3, cell_of hcb, rd_of hcb, out, hsli, hcall, h0, hc, rnd]
        rw [add64 (by omega) (by omega)]
        grind [rowOk, okC])
  obtain ⟨h', x', hl⟩ := hl
  have hall : (∃ r, itL (σ := Unit) (ρ := Nat) (fun i (_ : Kl) s => if rowOk n l i = true then .inl s else .inr i) l 0 () = .inr r) ∧ (List.range l.length).all (rowOk n l) = false ∨
      itL (σ := Unit) (ρ := Nat) (fun i (_ : Kl) s => if rowOk n l i = true then .inl s else .inr i) l 0 () = .inl () ∧ (List.range l.length).all (rowOk n l) = true := by
    rcases itL_all (ok := fun i _ => rowOk n l i) (g := fun i _ => i) (s0 := ()) l 0 with ⟨h1, j, x, hx, h2⟩ | ⟨h1, h2⟩
    · exact .inl ⟨h1, by rw [List.all_eq_false]; exact ⟨j, List.mem_range.2 (List.getElem?_eq_some_iff.1 hx).1, by simpa using h2⟩⟩
    · refine .inr ⟨h1, ?_⟩
      rw [List.all_eq_true]
      intro j hj
      simpa using h2 j _ (List.getElem?_eq_getElem (List.mem_range.1 hj))
  have hF : ∃ h1, Ext h h1 ∧ f71 rn (l.length + 1) (.agg #[iv n, sl]) h = some (.bool (validP n l), h1) := by
    rcases hall with ⟨⟨r, h1⟩, h2⟩ | ⟨h1, h2⟩ <;> rw [h1] at hl
    · by_cases c : n < 1 ∨ 7 < n ∨ 24 < (l.length : Int)
      · refine ⟨_, x1, ?_⟩
        simp [f71, cell_of hb1, hs.len, validP]
        grind
      · refine ⟨h', x1.trans x', ?_⟩
        simp [f71, cell_of hb1, hs.len, validP, h2, lp_eq hl, gv]
        grind
    · by_cases c : n < 1 ∨ 7 < n ∨ 24 < (l.length : Int)
      · refine ⟨_, x1, ?_⟩
        simp [f71, cell_of hb1, hs.len, validP]
        grind
      · refine ⟨h', x1.trans x', ?_⟩
        simp [f71, cell_of hb1, hs.len, validP, h2, lp_eq hl.1, gv]
        grind
  obtain ⟨h1, e1, e2⟩ := hF
  exact p71 e2 rfl e1

end Go.AM

end

section

/- The log that the program is handed; copies of slices; slices that are equal. -/
namespace Go.AM
open Go.Proofs
variable {k : Nat} {R : Type}
attribute [local simp] nx_eq nx_new nx_set blk_new blk_set asI_int asK_int asB_bool asP_ptr al_eq bx_eq len_slice onE_exit onE_ret onR_ret Value.cells d3 d29 d31 d56 d24 d59 d22 cell_new cell_set rd_new rd_set off eq lt le ifB gv out eqF1 eqF2 eqF3 eqF4 eqF5 eqF6 eqF7 eqF8
theorem app29 : okApp Try.prog 29 56 3 = true := by kernel_rfl

theorem app25 : okApp Try.prog 25 3 1 = true := by kernel_rfl

theorem kbld31 (n : Int) (K : Value → Option R) : bld Try.prog 31 [(0, .int .i64 n)] K = K (.agg #[.int .i64 n, .slice none 0 0]) := bld_some (by kernel_rfl)

theorem kbld56 (a b t : Int) (K : Value → Option R) : bld Try.prog 56 [(0, .int .i64 a), (1, .int .i64 b), (2, .int .i64 t)] K = K (.agg #[.int .i64 a, .int .i64 b, .int .i64 t]) := bld_some (by kernel_rfl)

theorem bls29 (c : Kl) (h : H) : buildSlice Try.prog 29 1 [(0, .agg #[.int .i64 c.a, .int .i64 c.b, .int .i64 c.t])] h = some (.slice (some ⟨h.nx, 0, none⟩) 1 1, h.new (.row c.cells 56 true)) := by kernel_rfl

theorem bls25 (z : Int) (h : H) : buildSlice Try.prog 25 1 [(0, .int .i64 z)] h = some (.slice (some ⟨h.nx, 0, none⟩) 1 1, h.new (.row [iv z] 3 true)) := by kernel_rfl

attribute [local simp] kbld31 kbld56
theorem s18 {n : Int} {sl : Value} {l : List Kl} {h : H} (hs : SlR h 59 3 sl (l.map Kl.cells)) :
    ∃ sl' h', rn 18 #[.agg #[iv n, sl]] h = some (.agg #[iv n, sl'], h') ∧ Ext h h' ∧ SlR h' 56 3 sl' ((l.take 26).map Kl.cells) := by
  have hlen := hs.lt62
  rw [List.length_map] at hlen
  -- the heap ahead of the loop
  let h1 := h.new (.row [iv n, sl] 24 true)
  let h2 := h1.new (.row [.int .i64 0, .slice none 0 0] 31 true)
  let h4 := h2.fresh 31 [.int .i64 0, .slice none 0 0] [.int .i64 n, .slice none 0 0]
  have n1 : h1.nx = h.nx + 1 := rfl
  have n2 : h2.nx = h.nx + 2 := rfl
  have n4 : h4.nx = h.nx + 3 := rfl
  have x4 : Ext h h4 := (((Ext.refl h).new' _).new' _).fresh _ _ _
  have b0 : h4.blk h.nx = some (.row [iv n, sl] 24 true) := by simp [h4, h2, h1, H.fresh]
  have b1 : h4.blk (h.nx + 1) = some (.row [.int .i64 0, .slice none 0 0] 31 true) := by simp [h4, h2, h1, H.fresh]
  have b2 : h4.blk (h.nx + 2) = some (.row [.int .i64 n, .slice none 0 0] 31 true) := by simp [h4, h2, h1, H.fresh]
  obtain ⟨ws', h', hl, hx, hgn, hg1, sv, hg2, hap, rfl⟩ := lp_for (F := f18_l1 rn (l.length + 1) h2 sl l.length) (k := l.length + 1) (l := l) (fun _ _ (_ : Unit) => ())
    (fun i _ ws g => Ext h g ∧ h.nx + 3 ≤ g.nx ∧ g.blk (h.nx + 1) = some (.row [.int .i64 0, .slice none 0 0] 31 true) ∧
      ∃ sv, g.blk (h.nx + 2) = some (.row [iv n, sv] 31 true) ∧ AqR h.nx g 56 3 sv ((l.take (min i 26)).map Kl.cells) ∧ ws = [iv i]) 0 (ws := [iv 0]) (h := h4) (s0 := ())
    ⟨x4, by omega, b1, _, b2, .nil, rfl⟩ (by omega)
    (by
      rintro _ ws g ⟨hx, hgn, hg1, sv, hg2, hap, rfl⟩
      simp [f18_l1])
    (by
      rintro i c _ ws g hc ⟨hx, hgn, hg1, sv, hg2, hap, rfl⟩
      have hi := (List.getElem?_eq_some_iff.1 hc).1
      have y7 := (Ext.refl g).fresh 59 [iv 0, iv 0, iv 0] c.cells
      have hcb := blk_fresh g 59 [iv 0, iv 0, iv 0] c.cells
      have n7 : (g.fresh 59 [iv 0, iv 0, iv 0] c.cells).nx = g.nx + 1 := rfl
      unfold f18_l1
      rw [show gv [iv i] 0 = iv i from rfl, asI_int, lt_t (by omega), ifB_true, asK_int, (hs.ext hx).ldA ag59 sz59 (by omega) (x := c.cells) (by simp [hc])]
      rw [al_st (zs := [iv 0, iv 0, iv 0]) (xs := c.cells) sz59 rfl rfl]
      generalize g.fresh 59 [iv 0, iv 0, iv 0] c.cells = h7 at *
      have g1 := (y7.blk (h.nx + 1) (by omega)).trans hg1
      have g2 := (y7.blk (h.nx + 2) (by omega)).trans hg2
      have a7 := hap.ext y7
      simp only [Kl.cells] at hcb
      by_cases h26 : i < 26
      · obtain ⟨v', h9, e9, a9, n9, k9, b9, hb9, hb9'⟩ := a7.push app29 app29 (bls29 c) rfl rfl (by simp; omega) (by omega)
        have kb : ∀ b, b < h7.nx → h7.blk b ≠ some (.row ((l.take (min i 26)).map Kl.cells).flatten 56 true) → h9.blk b = h7.blk b := fun b hb hne => k9 b hb fun e => hne (a7.blkOf e).2.2
        have g1' := kb (h.nx + 1) (by omega) (by rw [g1]; simp)
        have g2' := kb (h.nx + 2) (by omega) (by rw [g2]; simp)
        rw [g1] at g1'
        rw [g2] at g2'
        have x9 : Ext h h9 := ⟨by have := hx.nx; omega, fun b hb => by
          rw [k9 b (by have := hx.nx; omega) (fun e => by have := (a7.blkOf e).1; omega)]
          exact (hx.trans y7).blk b hb⟩
        have hst : wrc 1 h9 (h.nx + 2) 1 v' = some (h9.set (h.nx + 2) (.row [iv n, v'] 31 true)) := by rw [wrc_one g2' a9.cells.1 a9.cells.2 (by simp)]; rfl
        refine ⟨[iv ((i : Int) + 1)], h9.set (h.nx + 2) (.row [iv n, v'] 31 true), ?_, x9.set (by omega) _, by rw [nx_set]; omega, ?_, v', blk_set_self _ _ _, ?_, rfl⟩
        · simp [cell_of hcb, n2, cell_of g2, h26, show (i : Int) < 26 by omega, e9, w29, hst]
          rw [add64 (by omega) (by omega)]
        · rw [blk_set_ne _ _ _ (by omega)]; exact g1'
        · have : (l.take (min (i + 1) 26)).map Kl.cells = (l.take (min i 26)).map Kl.cells ++ [c.cells] := by
            rw [show min (i + 1) 26 = i + 1 by omega, show min i 26 = i by omega, List.take_add_one, hc]
            simp
          rw [this]
          refine a9.keep (by rw [nx_set]; omega) fun b hb => blk_set_ne _ _ _ ?_
          rw [hb9] at hb; cases hb; omega
      · refine ⟨[iv ((i : Int) + 1)], h7, ?_, hx.trans y7, by omega, g1, sv, g2, ?_, rfl⟩
        · simp [show ¬ (i : Int) < 26 by omega]
          rw [add64 (by omega) (by omega)]
        · rw [show min (i + 1) 26 = min i 26 by omega]
          exact a7)
  have hfin : f18 rn (l.length + 1) (.agg #[iv n, sl]) h = some (.agg #[iv n, sv], h'.set (h.nx + 1) (.row [iv n, sv] 31 true)) := by
    have hst : wrc 2 h' (h.nx + 1) 0 (.agg #[iv n, sv]) = some (h'.set (h.nx + 1) (.row [iv n, sv] 31 true)) := by
      simp only [wrc, hg1]
      rw [if_pos ⟨rfl, by simp, by simp [Value.cells, hap.cells.2]; rfl⟩]
      rfl
    unfold f18
    rw [bx_eq, al_eq]
    rw [show nx (h.new (.row (Value.agg #[iv n, sl]).cells.toList 24 true)) = h.nx + 1 from rfl, d3]
    rw [show ((h.new (.row (Value.agg #[iv n, sl]).cells.toList 24 true)).new (.row [.int .i64 0, .slice none 0 0] 31 true)).cell (nx h) 0 = some (iv n) by simp]
    rw [Option.bind_some, asI_int, kbld31, al_st (zs := [.int .i64 0, .slice none 0 0]) (xs := [.int .i64 n, .slice none 0 0]) sz31 rfl rfl]
    rw [show (H.fresh ((h.new (.row (Value.agg #[iv n, sl]).cells.toList 24 true)).new (.row [.int .i64 0, .slice none 0 0] 31 true)) 31 [.int .i64 0, .slice none 0 0] [.int .i64 n, .slice none 0 0]) = h4 from rfl,
      show ((h.new (.row (Value.agg #[iv n, sl]).cells.toList 24 true)).new (.row [.int .i64 0, .slice none 0 0] 31 true)) = h2 from rfl, d22, nx_eq, cell_of b0]
    rw [show [iv n, sl][off 0 1]? = some sl from rfl, Option.bind_some, hs.len, List.length_map, lp_eq hl]
    simp [n2, rd_of hg2, w31, hst]
  refine ⟨sv, _, x18 hfin (by obtain ⟨x, y, z, hz⟩ := hap.isSl; rw [hz]; rfl), hx.set (by omega) _, ?_⟩
  rw [show min l.length 26 = min l.length 26 from rfl] at hap
  have : l.take (min l.length 26) = l.take 26 := by
    rcases Nat.le_total l.length 26 with h5 | h5
    · rw [show min l.length 26 = l.length by omega, List.take_of_length_le (by omega), List.take_of_length_le (by omega)]
    · rw [show min l.length 26 = 26 by omega]
  rw [this] at hap
  refine (hap.keep (by rw [nx_set]; omega) fun b hb => blk_set_ne _ _ _ ?_).slR
  intro e
  have := (hap.blkOf hb).2.2
  rw [e, hg1] at this
  simp at this

end Go.AM

end

section

/- Copies of slices; slices that are equal; the valid logs as the document tells them. -/
namespace Go.AM
open Go.Proofs
variable {k : Nat} {R : Type}
attribute [local simp] nx_eq nx_new nx_set blk_new blk_set asI_int asK_int asB_bool asP_ptr al_eq bx_eq len_slice onE_exit onE_ret onR_ret Value.cells d3 d29 d31 d56 d24 d59 d22 cell_new cell_set rd_new rd_set off eq lt le ifB gv out eqF1 eqF2 eqF3 eqF4 eqF5 eqF6 eqF7 eqF8
attribute [local simp] k73 k74 k72 k42 lt_ne lt_ne1
abbrev cellsI (l : List Int) : List (List Value) := l.map fun z => [iv z]

/-- Are two slices of numbers equal? -/
theorem s26 {v0 v1 : Value} {a b : List Int} {h : H} (ha : SlR h 3 1 v0 (cellsI a)) (hb : SlR h 3 1 v1 (cellsI b)) : rn 26 #[v0, v1] h = some (.bool (decide (a = b)), h) := by
  have hl := ha.lt62
  rw [List.length_map] at hl
  refine p26 (k := a.length + 1) (h1 := h) ?_ rfl (.refl _)
  by_cases hlen : a.length = b.length
  · have hl := lp_same (F := f26_l1 rn (a.length + 1) v0 v1 a.length) (k := a.length + 1) (l := a) (h := h) (fun i (_ : Unit) => [.bool false, iv i])
      (fun i x s => if decide (b[i]? = some x) = true then .inl s else .inr i) (fun _ _ => True) (fun _ => .ret) (fun i => [.bool false, iv i]) 0 (fun _ => [.bool false, iv a.length]) (ws := [.bool false, iv 0]) (s0 := ()) rfl trivial (by omega) (by simp)
      (fun _ _ => by simp [f26_l1])
      (by
        intro i x _ hx _
        have hi := (List.getElem?_eq_some_iff.1 hx).1
        refine ⟨fun _ _ => trivial, ?_⟩
        have hbi : b[i]? = some b[i] := List.getElem?_eq_getElem (by omega)
        have g1 : ∀ (K : Value → Option (Ex × List Value × H)), (six v0 (i : Int) 1 fun b o => (h.cell b o).bind K) = K (iv x) := fun K => ha.c0 (by omega) (x := [iv x]) (by simp [hx]) rfl K
        have g2 : ∀ (K : Value → Option (Ex × List Value × H)), (six v1 (i : Int) 1 fun b o => (h.cell b o).bind K) = K (iv b[i]) := fun K => hb.c0 (by omega) (x := [iv b[i]]) (by simp [hbi]) rfl K
        simp [f26_l1, show i < a.length by omega, g1, g2, hbi, rnd]
        rw [add64 (by omega) (by omega)]
        by_cases hxb : x = b[i]
        · simp [hxb]
        · simp [hxb, Ne.symm hxb])
    have hiff : a = b ↔ ∀ (j : Nat) (x : Int), a[j]? = some x → b[j]? = some x := by
      constructor
      · rintro rfl j x h; exact h
      · intro hh
        apply List.ext_getElem hlen
        intro j h1 h2
        have := hh j a[j] (List.getElem?_eq_getElem h1)
        rw [List.getElem?_eq_getElem h2] at this
        exact (Option.some.inj this).symm
    unfold f26
    simp only [ha.len, hb.len, List.length_map]
    rw [eq_t (by omega)]
    simp
    rcases itL_all (ok := fun i x => decide (b[i]? = some x)) (g := fun i _ => i) (s0 := ()) a 0 with ⟨⟨r, h1⟩, j, x, hx, h2⟩ | ⟨h1, h2⟩
    · rw [h1] at hl
      rw [lp_eq hl]
      simp
      rw [hiff]
      intro hh
      have := hh j x hx
      simp [this] at h2
    · rw [h1] at hl
      rw [lp_eq hl.1]
      simp
      rw [hiff]
      intro j x hx
      simpa using h2 j x hx
  · unfold f26
    simp only [ha.len, hb.len, List.length_map]
    rw [eq_f (by omega)]
    simp
    intro hab
    exact hlen (by rw [hab])

/-- Does a call ahead of c stand against it? -/
def against (c d : Kl) : Bool := decide (c.t < d.t) || clash c d

def rowR (n : Int) (l : List Kl) (i : Nat) (c : Kl) : Bool := okC n c && !(l.take i).any (against c)

def validR (n : Int) (l : List Kl) : Bool := !decide (n < 1) && !decide (7 < n) && !decide (24 < (l.length : Int)) && (List.range l.length).all fun i => (l[i]?).all (rowR n l i)

end Go.AM

end

section

/- The valid logs: what is known of them. -/
namespace Go.AM
open Go.Proofs
variable {k : Nat} {R : Type}
attribute [local simp] nx_eq nx_new nx_set blk_new blk_set asI_int asK_int asB_bool asP_ptr al_eq bx_eq len_slice onE_exit onE_ret onR_ret Value.cells d3 d29 d31 d56 d24 d59 d22 cell_new cell_set rd_new rd_set off eq lt le ifB gv out eqF1 eqF2 eqF3 eqF4 eqF5 eqF6 eqF7 eqF8
attribute [local simp] k73 k74 k72 k42 lt_ne lt_ne1
theorem valid_eq (n : Int) (l : List Kl) : validR n l = validP n l := by
  have key : (List.range l.length).all (fun i => (l[i]?).all (rowR n l i)) = (List.range l.length).all (rowOk n l) := by
    rw [Bool.eq_iff_iff, List.all_eq_true, List.all_eq_true]
    constructor
    · intro h i hi
      have hi' := List.mem_range.1 hi
      have := h i hi
      have hli : l[i]? = some l[i] := List.getElem?_eq_getElem hi'
      simp only [hli, Option.all_some] at this
      unfold rowR at this
      unfold rowOk
      rw [hli]
      simp only [Bool.and_eq_true, Bool.not_eq_true', List.any_eq_false] at this ⊢
      refine ⟨⟨this.1, ?_⟩, fun x hx hc => this.2 x hx (by simp [against, hc])⟩
      by_cases h0 : 0 < i
      · have hl1 : l[i - 1]? = some (l[i - 1]'(by omega)) := List.getElem?_eq_getElem (by omega)
        rw [hl1]
        have hm : l[i - 1]'(by omega) ∈ l.take i := List.mem_take_iff_getElem.2 ⟨i - 1, by omega, rfl⟩
        have h2 := this.2 _ hm
        simp only [against, Bool.or_eq_true, not_or, decide_eq_true_eq] at h2
        simp [h2.1]
      · simp [h0]
    · intro h i hi
      have hi' := List.mem_range.1 hi
      have hsort : ∀ j, j < l.length → ∀ i', i' < j → (l.getD i' ⟨0, 0, 0⟩).t ≤ (l.getD j ⟨0, 0, 0⟩).t := by
        intro j
        induction j with
        | zero => intro _ i' hi'; omega
        | succ j ih =>
          intro hj i' hi'
          have h1 := h (j + 1) (List.mem_range.2 hj)
          unfold rowOk at h1
          rw [List.getElem?_eq_getElem hj] at h1
          simp only [Bool.and_eq_true, Bool.not_eq_true'] at h1
          have h2 := h1.1.2
          rw [show j + 1 - 1 = j from rfl, List.getElem?_eq_getElem (show j < l.length by omega)] at h2
          simp only [Option.any_some, Nat.zero_lt_succ, decide_true, Bool.true_and, decide_eq_false_iff_not, Int.not_lt] at h2
          have e1 : l.getD j ⟨0, 0, 0⟩ = l[j] := by rw [List.getD_eq_getElem?_getD, List.getElem?_eq_getElem (show j < l.length by omega)]; rfl
          have e2 : l.getD (j + 1) ⟨0, 0, 0⟩ = l[j + 1] := by rw [List.getD_eq_getElem?_getD, List.getElem?_eq_getElem hj]; rfl
          rcases Nat.lt_or_ge i' j with h3 | h3
          · have := ih (by omega) i' h3
            rw [e1] at this
            rw [e2]
            omega
          · obtain rfl : i' = j := by omega
            rw [e1, e2]
            exact h2
      have := h i hi
      have hli : l[i]? = some l[i] := List.getElem?_eq_getElem hi'
      unfold rowOk at this
      simp only [hli, Option.all_some]
      unfold rowR
      rw [hli] at this
      simp only [Bool.and_eq_true, Bool.not_eq_true', List.any_eq_false] at this ⊢
      refine ⟨this.1.1, fun x hx hc => ?_⟩
      simp only [against, Bool.or_eq_true, decide_eq_true_eq] at hc
      rcases hc with hc | hc
      · obtain ⟨j, hj, rfl⟩ := List.mem_take_iff_getElem.1 hx
        have := hsort i hi' j (by omega)
        rw [List.getD_eq_getElem?_getD, List.getD_eq_getElem?_getD, hli, List.getElem?_eq_getElem (show j < l.length by omega)] at this
        simp only [Option.getD_some] at this
        omega
      · exact this.2 x hx hc
  unfold validR validP
  rw [key]

theorem okC_iff {n : Int} {c : Kl} : okC n c = true ↔ (0 ≤ c.a ∧ c.a < n) ∧ (0 ≤ c.b ∧ c.b < n) ∧ c.a ≠ c.b ∧ 1 ≤ c.t ∧ c.t ≤ 30 := by
  simp only [okC, Bool.and_eq_true, decide_eq_true_eq, Bool.not_eq_true', beq_eq_false_iff_ne, decide_eq_false_iff_not, Int.not_lt, ne_eq]
  constructor
  · rintro ⟨⟨⟨⟨h1, h2⟩, h3⟩, h4⟩, h5⟩; exact ⟨h1, h2, h3, h4, h5⟩
  · rintro ⟨h1, h2, h3, h4, h5⟩; exact ⟨⟨⟨⟨h1, h2⟩, h3⟩, h4⟩, h5⟩

theorem validP_ok {n : Int} {l : List Kl} (h : validP n l = true) : 1 ≤ n ∧ n ≤ 7 ∧ l.length ≤ 24 ∧ ∀ (i : Nat) (c : Kl), l[i]? = some c → okC n c = true := by
  simp only [validP, Bool.and_eq_true, Bool.not_eq_true', decide_eq_false_iff_not, Int.not_lt, List.all_eq_true, List.mem_range] at h
  obtain ⟨⟨⟨h1, h2⟩, h3⟩, h4⟩ := h
  refine ⟨h1, h2, by omega, fun i c hc => ?_⟩
  have hi : i < l.length := (List.getElem?_eq_some_iff.1 hc).1
  have := h4 i hi
  unfold rowOk at this
  rw [hc] at this
  simp only [Bool.and_eq_true] at this
  exact this.1.1

theorem validP_sorted {n : Int} {l : List Kl} (h : validP n l = true) {i j : Nat} {c d : Kl} (hij : i < j) (hd : l[i]? = some d) (hc : l[j]? = some c) : d.t ≤ c.t ∧ clash c d = false := by
  rw [← valid_eq] at h
  simp only [validR, Bool.and_eq_true, List.all_eq_true, List.mem_range] at h
  have hj : j < l.length := (List.getElem?_eq_some_iff.1 hc).1
  have := h.2 j hj
  simp only [hc, Option.all_some] at this
  unfold rowR at this
  simp only [Bool.and_eq_true, Bool.not_eq_true', List.any_eq_false] at this
  obtain ⟨hi, e⟩ := List.getElem?_eq_some_iff.1 hd
  have hm : d ∈ l.take j := List.mem_take_iff_getElem.2 ⟨i, by omega, e⟩
  have h2 := this.2 d hm
  simp only [against, Bool.or_eq_true, not_or, decide_eq_true_eq, Int.not_lt, Bool.not_eq_true] at h2
  exact h2

theorem validP_take {n : Int} {l : List Kl} : validP n (l.take 26) = validP n l := by
  by_cases hl : l.length ≤ 26
  · rw [List.take_of_length_le hl]
  · have h1 : validP n l = false := by simp [validP, show 24 < (l.length : Int) by omega]
    have h2 : validP n (l.take 26) = false := by
      simp [validP, List.length_take, show 24 < min 26 l.length by omega]
      intro _ _ h
      omega
    rw [h1, h2]

end Go.AM

end

section

/- News. -/
namespace Go.AM
open Go.Proofs
variable {k : Nat} {R : Type}
attribute [local simp] nx_eq nx_new nx_set blk_new blk_set asI_int asK_int asB_bool asP_ptr al_eq bx_eq len_slice onE_exit onE_ret onR_ret Value.cells d3 d29 d31 d56 d24 d59 d22 w3 cell_new cell_set rd_new rd_set off eq lt le ifB gv out eqF1 eqF2 eqF3 eqF4 eqF5 eqF6 eqF7 eqF8
attribute [local simp] k73 k74 k72 k42
/-- The set of one person. -/
def bit (p : Nat) : Int := shl .i64 1 p

/-- What everybody has at first. -/
def ownP (n : Nat) : List Int := (List.range n).map bit

/-- A call is made. -/
def hearP (news : List Int) (c : Kl) : List Int :=
  let both := AM.or .i64 (news.getD c.a.toNat 0) (news.getD c.b.toNat 0)
  (news.set c.a.toNat both).set c.b.toNat both

/-- Does somebody hear something? -/
def freshP (news : List Int) (c : Kl) : Bool :=
  let both := AM.or .i64 (news.getD c.a.toNat 0) (news.getD c.b.toNat 0)
  !(news.getD c.a.toNat 0 == both) || !(news.getD c.b.toNat 0 == both)

theorem hearP_len (news : List Int) (c : Kl) : (hearP news c).length = news.length := by simp [hearP]

theorem s77 {n : Int} {sl : Value} {h : H} (hn : 0 ≤ n) (hm : n < 1000) : ∃ v h', rn 77 #[.agg #[iv n, sl]] h = some (v, h') ∧ Ext h h' ∧ AqR h.nx h' 3 1 v (cellsI (ownP n.toNat)) := by
  obtain ⟨m, rfl⟩ := Int.eq_ofNat_of_zero_le hn
  have x1 : Ext h (h.new (.row [iv m, sl] 31 true)) := .new _ _
  obtain ⟨ws', h', hl, hx, sv, hap, rfl⟩ := lp_for (F := f77_l1 rn (m + 1) m) (k := m + 1) (l := List.range m) (fun _ _ (_ : Unit) => ())
    (fun i _ ws g => Ext h g ∧ ∃ sv, AqR h.nx g 3 1 sv (cellsI (ownP i)) ∧ ws = [sv, iv i]) 0 (ws := [.slice none 0 0, iv 0]) (h := h.new (.row [iv m, sl] 31 true)) (s0 := ())
    ⟨x1, _, .nil, rfl⟩ (by simp)
    (by
      rintro _ ws g ⟨hx, sv, hap, rfl⟩
      simp [f77_l1])
    (by
      rintro i c _ ws g hc ⟨hx, sv, hap, rfl⟩
      have hi : i < m := by simpa using (List.getElem?_eq_some_iff.1 hc).1
      obtain ⟨v', h9, e9, a9, n9, k9, b9, hb9, hb9'⟩ := hap.push app25 app25 (bls25 (bit i)) rfl rfl (by simp [ownP]; omega) hx.nx
      refine ⟨[v', iv ((i : Int) + 1)], h9, ?_, ⟨by have := hx.nx; omega, fun b hb => ?_⟩, v', ?_, rfl⟩
      · simp only [f77_l1, gv, List.getD_cons_succ, List.getD_cons_zero]
        rw [asI_int, lt_t (by omega), ifB_true, asK_int, nn_ge (by omega)]
        simp only [bit] at e9
        rw [e9, asI_int, add64 (by omega) (by omega)]
        rfl
      · rw [k9 b (by have := hx.nx; omega) (fun e => by have := (hap.blkOf e).1; omega)]
        exact hx.blk b hb
      · rw [show cellsI (ownP (i + 1)) = cellsI (ownP i) ++ [[iv (bit i)]] by simp [ownP, List.range_succ]]
        exact a9)
  rw [List.length_range] at hl hap
  refine ⟨sv, h', x77 (k := m + 1) ?_ ?_, hx, ?_⟩
  · simp [f77, lp_eq hl]
  · obtain ⟨x, y, z, rfl⟩ := hap.isSl; rfl
  · simpa using hap

theorem s78 {h : H} {b : Nat} {v : Value} {news : List Int} {c : Kl} (hv : IA h b v news) (ha : 0 ≤ c.a ∧ c.a < news.length) (hb : 0 ≤ c.b ∧ c.b < news.length) :
    ∃ h', rn 78 #[v, c.val] h = some (.bool (freshP news c), h') ∧ h.nx ≤ h'.nx ∧ IA h' b v (hearP news c) ∧ ∀ i, i < h.nx → i ≠ b → h'.blk i = h.blk i := by
  have x1 := Ext.new h (.row c.cells 56 true)
  have hv1 := hv.ext x1
  have hbn := hv.lt
  have hA : news[c.a.toNat]? = some (news.getD c.a.toNat 0) := by simp [show c.a.toNat < news.length by omega]
  have hB : news[c.b.toNat]? = some (news.getD c.b.toNat 0) := by simp [show c.b.toNat < news.length by omega]
  generalize hAv : news.getD c.a.toNat 0 = A at *
  generalize hBv : news.getD c.b.toNat 0 = B at *
  have gA : ∀ (K : Value → Option (Value × H)), (six v c.a 1 fun b o => ((h.new (.row c.cells 56 true)).cell b o).bind K) = K (iv A) := fun K => hv1.get ha.1 hA K
  have gB : ∀ (K : Value → Option (Value × H)), (six v c.b 1 fun b o => ((h.new (.row c.cells 56 true)).cell b o).bind K) = K (iv B) := fun K => hv1.get hb.1 hB K
  have pA : ∀ (K : Nat → Nat → Option (Value × H)), six v c.a 1 K = K b c.a.toNat := fun K => hv1.put ha.1 (by omega) K
  have pB : ∀ (K : Nat → Nat → Option (Value × H)), six v c.b 1 K = K b c.b.toNat := fun K => hv1.put hb.1 (by omega) K
  have w1 := hv1.wrc (i := c.a.toNat) (by omega) (AM.or .i64 A B)
  have hv2 := hv1.set c.a.toNat (AM.or .i64 A B)
  have w2 := hv2.wrc (i := c.b.toNat) (by rw [List.length_set]; omega) (AM.or .i64 A B)
  have hv3 := hv2.set c.b.toNat (AM.or .i64 A B)
  have hck : fre h.nx (h.nx + 1) (0 + 1) 1 b c.a.toNat 1 = true := by
    simp only [fre, Bool.and_eq_true, decide_eq_true_eq]; omega
  have hcell : ∀ o, h.cell b o = (news.map iv)[o]? := fun o => cell_of hv.row
  have hF : f78 rn 0 v c.val h = some (.bool (freshP news c), (((h.new (.row c.cells 56 true)).set b (.row ((news.set c.a.toNat (AM.or .i64 A B)).map iv) 3 true)).set b (.row (((news.set c.a.toNat (AM.or .i64 A B)).set c.b.toNat (AM.or .i64 A B)).map iv) 3 true))) := by
    simp only [Kl.cells, List.map_set] at *
    simp [f78, pA, pB, hcell, hA, hB, w1, w2, hck, ck, freshP, hAv, hBv, Kl.cells, lt_ne hbn]
    generalize AM.or .i64 A B = C
    by_cases h1 : A = C <;> by_cases h2 : B = C <;> simp [h1, h2]
  have hn3 : h.nx ≤ (((h.new (.row c.cells 56 true)).set b (.row ((news.set c.a.toNat (AM.or .i64 A B)).map iv) 3 true)).set b (.row (((news.set c.a.toNat (AM.or .i64 A B)).set c.b.toNat (AM.or .i64 A B)).map iv) 3 true)).nx := Nat.le_succ _
  obtain ⟨q1, _, q2⟩ := trunc_blk (P := Try.prog) (v := .bool (freshP news c)) hn3
  refine ⟨_, t78 hF, q1, ?_, fun i hi hib => ?_⟩
  · have : hearP news c = (news.set c.a.toNat (AM.or .i64 A B)).set c.b.toNat (AM.or .i64 A B) := by unfold hearP; simp only [hAv, hBv]
    rw [this]
    exact ⟨hv3.val, Nat.lt_of_lt_of_le hbn q1, (q2 b hbn).trans hv3.row⟩
  · rw [q2 i hi, blk_set_ne _ _ _ hib, blk_set_ne _ _ _ hib, blk_new_ne _ _ (by omega)]

end Go.AM

end

section

/- News and Idle, as the program tells them. -/
namespace Go.AM
open Go.Proofs
variable {k : Nat} {R : Type}
attribute [local simp] nx_eq nx_new nx_set blk_new blk_set asI_int asK_int asB_bool asP_ptr al_eq bx_eq len_slice onE_exit onE_ret onR_ret Value.cells d3 d29 d31 d56 d24 d59 d22 w3 cell_new cell_set rd_new rd_set off eq lt le ifB gv out eqF1 eqF2 eqF3 eqF4 eqF5 eqF6 eqF7 eqF8
def newsP (n : Nat) (l : List Kl) : List Int := l.foldl hearP (ownP n)

theorem newsP_len (n : Nat) (l : List Kl) : (newsP n l).length = n := by
  have : ∀ (l : List Kl) (x : List Int), (l.foldl hearP x).length = x.length := by
    intro l
    induction l with
    | nil => intro x; rfl
    | cons c l ih => intro x; rw [List.foldl_cons, ih, hearP_len]
  rw [newsP, this]
  simp [ownP]

theorem ok_range {n : Int} {l : List Kl} (hv : validP n l = true) {i : Nat} {c : Kl} (hc : l[i]? = some c) : (0 ≤ c.a ∧ c.a < n) ∧ (0 ≤ c.b ∧ c.b < n) := by
  have := okC_iff.1 ((validP_ok hv).2.2.2 i c hc)
  exact ⟨this.1, this.2.1⟩

/-- What a call reads of its log. -/
theorem k71 {n : Int} {sl : Value} {l : List Kl} {h : H} (hs : SlR h 56 3 sl (l.map Kl.cells)) (K : Value → H → Option R) : calls rn h 71 [.agg #[iv n, sl]] K = K (.bool (validP n l)) h := calls_eq (s71 hs)

theorem s37_bad {n : Int} {sl : Value} {l : List Kl} {h : H} (hs : SlR h 56 3 sl (l.map Kl.cells)) (hv : validP n l = false) : ∃ h', rn 37 #[.agg #[iv n, sl]] h = some (.tuple #[.slice none 0 0, iv 2], h') ∧ Ext h h' := by
  have x1 : Ext h (h.new (.row [iv n, sl] 31 true)) := .new _ _
  refine ⟨h.new (.row [iv n, sl] 31 true), x37 (k := 0) ?_ rfl, x1⟩
  simp [f37, k71 (hs.ext x1), hv]

theorem s39_bad {n : Int} {sl : Value} {l : List Kl} {h : H} (hs : SlR h 56 3 sl (l.map Kl.cells)) (hv : validP n l = false) : ∃ h', rn 39 #[.agg #[iv n, sl]] h = some (.tuple #[.slice none 0 0, iv 2], h') ∧ Ext h h' := by
  have x1 : Ext h (h.new (.row [iv n, sl] 31 true)) := .new _ _
  refine ⟨h.new (.row [iv n, sl] 31 true), x39 (k := 0) ?_ rfl, x1⟩
  simp [f39, k71 (hs.ext x1), hv]

theorem s37 {n : Int} {sl : Value} {l : List Kl} {h : H} (hs : SlR h 56 3 sl (l.map Kl.cells)) (hv : validP n l = true) :
    ∃ v h', rn 37 #[.agg #[iv n, sl]] h = some (.tuple #[v, iv 0], h') ∧ Ext h h' ∧ SlR h' 3 1 v (cellsI (newsP n.toNat l)) := by
  obtain ⟨hn1, hn7, hl24, hok⟩ := validP_ok hv
  have x1 : Ext h (h.new (.row [iv n, sl] 31 true)) := .new _ _
  have hs1 := hs.ext x1
  obtain ⟨v4, h3, e77, x3, a3⟩ := s77 (n := n) (sl := sl) (h := h.new (.row [iv n, sl] 31 true)) (by omega) (by omega)
  obtain ⟨b, hlo, _, hia⟩ := a3.ia (by simp [ownP]; omega)
  have x03 := x1.trans x3
  have hb3 : h3.blk h.nx = some (.row [iv n, sl] 31 true) := (x3.blk _ (Nat.lt_succ_self _)).trans (blk_new_self _ _)
  have hbn : h.nx < b := by rw [nx_new] at hlo; omega
  obtain ⟨ws', h', hl, hx, hiaN, hlen, rfl⟩ := lp_for (F := f37_l1 rn (l.length + 1) v4 sl l.length) (k := l.length + 1) (l := l) (fun _ c (s : List Int) => hearP s c)
    (fun i s ws g => Ext h g ∧ IA g b v4 s ∧ s.length = n.toNat ∧ ws = [iv i]) 0 (ws := [iv 0]) (h := h3) (s0 := ownP n.toNat)
    ⟨x03, hia, by simp [ownP], rfl⟩ (by omega)
    (by
      rintro s ws g ⟨hx, hi, hlen, rfl⟩
      simp [f37_l1])
    (by
      rintro i c s ws g hc ⟨hx, hi, hlen, rfl⟩
      have hil := (List.getElem?_eq_some_iff.1 hc).1
      obtain ⟨ha, hb⟩ := ok_range hv hc
      have y7 := (Ext.refl g).fresh 56 [iv 0, iv 0, iv 0] c.cells
      have hcb := blk_fresh g 56 [iv 0, iv 0, iv 0] c.cells
      have n7 : (g.fresh 56 [iv 0, iv 0, iv 0] c.cells).nx = g.nx + 1 := rfl
      obtain ⟨h8, e8, n8, i8, f8⟩ := s78 (c := c) (hi.ext y7) (by rw [hlen]; omega) (by rw [hlen]; omega)
      have hbl := hi.lt
      refine ⟨[iv ((i : Int) + 1)], h8, ?_, ⟨by have := hx.nx; omega, fun q hq => ?_⟩, i8, by rw [hearP_len]; exact hlen, rfl⟩
      · unfold f37_l1
        rw [show gv [iv i] 0 = iv i from rfl, asI_int, lt_t (by omega), ifB_true, asK_int, (hs.ext hx).ldA ag56 sz56 (by omega) (x := c.cells) (by simp [hc])]
        rw [al_st (zs := [iv 0, iv 0, iv 0]) (xs := c.cells) sz56 rfl rfl, nx_eq, d56, rd_all (n := 3) hcb rfl]
        rw [Option.bind_some, calls_eq (show rn 78 [v4, Value.agg c.cells.toArray].toArray _ = _ from e8), asB_bool, asI_int, add64 (by omega) (by omega)]
        rfl
      · rw [f8 q (by have := hx.nx; omega) (by omega), y7.blk q (by have := hx.nx; omega), hx.blk q hq])
  rw [foldI_foldl] at hiaN
  refine ⟨v4, h', x37 (k := l.length + 1) ?_ (by obtain ⟨c, hc, _⟩ := hiaN.val; rw [hc]; rfl), hx, hiaN.slR⟩
  have c77 := fun (K : Value → H → Option (Value × H)) => calls_eq (K := K) (xs := [_]) e77
  simp [f37, k71 hs1, hv, c77, cell_of hb3, hs.len, lp_eq hl]

/-- The calls in which nobody hears anything. -/
def idleG (i : Nat) (c : Kl) (s : List Int × List Int) : List Int × List Int := (hearP s.1 c, if freshP s.1 c = true then s.2 else s.2 ++ [(i : Int)])

def idleP (n : Nat) (l : List Kl) : List Int := (foldI idleG l 0 (ownP n, [])).2

theorem s39 {n : Int} {sl : Value} {l : List Kl} {h : H} (hs : SlR h 56 3 sl (l.map Kl.cells)) (hv : validP n l = true) :
    ∃ v h', rn 39 #[.agg #[iv n, sl]] h = some (.tuple #[v, iv 0], h') ∧ Ext h h' ∧ SlR h' 3 1 v (cellsI (idleP n.toNat l)) := by
  obtain ⟨hn1, hn7, hl24, hok⟩ := validP_ok hv
  have x1 : Ext h (h.new (.row [iv n, sl] 31 true)) := .new _ _
  have hs1 := hs.ext x1
  obtain ⟨v4, h3, e77, x3, a3⟩ := s77 (n := n) (sl := sl) (h := h.new (.row [iv n, sl] 31 true)) (by omega) (by omega)
  obtain ⟨b, hlo, _, hia⟩ := a3.ia (by simp [ownP]; omega)
  have x03 := x1.trans x3
  have hb3 : h3.blk h.nx = some (.row [iv n, sl] 31 true) := (x3.blk _ (Nat.lt_succ_self _)).trans (blk_new_self _ _)
  have hbn : h.nx < b := by rw [nx_new] at hlo; omega
  obtain ⟨ws', h', hl, hx, hiaN, hlen, ho, sv, hap, hne, rfl⟩ := lp_for (F := f39_l1 rn (l.length + 1) v4 sl l.length) (k := l.length + 1) (l := l) idleG
    (fun i s ws g => Ext h g ∧ IA g b v4 s.1 ∧ s.1.length = n.toNat ∧ s.2.length ≤ i ∧ ∃ sv, AqR h.nx g 3 1 sv (cellsI s.2) ∧ blkOf sv ≠ some b ∧ ws = [sv, iv i]) 0 (ws := [.slice none 0 0, iv 0]) (h := h3) (s0 := (ownP n.toNat, []))
    ⟨x03, hia, by simp [ownP], Nat.le_refl _, _, .nil, by simp [blkOf], rfl⟩ (by omega)
    (by
      rintro s ws g ⟨hx, hi, hlen, ho, sv, hap, hne, rfl⟩
      simp [f39_l1])
    (by
      rintro i c ⟨s1, s2⟩ ws g hc ⟨hx, hi, hlen, ho, sv, hap, hne, rfl⟩
      simp only at hi hlen ho hap
      have hil := (List.getElem?_eq_some_iff.1 hc).1
      obtain ⟨ha, hb⟩ := ok_range hv hc
      have y7 := (Ext.refl g).fresh 56 [iv 0, iv 0, iv 0] c.cells
      have hcb := blk_fresh g 56 [iv 0, iv 0, iv 0] c.cells
      have n7 : (g.fresh 56 [iv 0, iv 0, iv 0] c.cells).nx = g.nx + 1 := rfl
      obtain ⟨h8, e8, n8, i8, f8⟩ := s78 (c := c) (hi.ext y7) (by rw [hlen]; omega) (by rw [hlen]; omega)
      have hbl := hi.lt
      have x8 : Ext h h8 := ⟨by have := hx.nx; omega, fun q hq => by rw [f8 q (by have := hx.nx; omega) (by omega), y7.blk q (by have := hx.nx; omega), hx.blk q hq]⟩
      have a8 : AqR h.nx h8 3 1 sv (cellsI s2) := hap.keep (by omega) fun q hq => by
        have := (hap.blkOf hq).2.1
        rw [f8 q (by omega) (fun e => hne (e ▸ hq)), y7.blk q this]
      have start : f39_l1 rn (l.length + 1) v4 sl l.length [sv, iv i] g = (if freshP s1 c = true then some (.normal, [sv, iv ((i : Int) + 1)], h8) else
          bls Try.prog h8 25 1 [(0, iv i)] fun v9 h8 => app Try.prog h8 25 25 sv v9 fun v10 h9 => some (.normal, [v10, iv ((i : Int) + 1)], h9)) := by
        unfold f39_l1
        rw [show gv [sv, iv i] 1 = iv i from rfl, show gv [sv, iv i] 0 = sv from rfl, asI_int, lt_t (by omega), ifB_true, asK_int, (hs.ext hx).ldA ag56 sz56 (by omega) (x := c.cells) (by simp [hc])]
        rw [al_st (zs := [iv 0, iv 0, iv 0]) (xs := c.cells) sz56 rfl rfl, nx_eq, d56, rd_all (n := 3) hcb rfl]
        rw [Option.bind_some, calls_eq (show rn 78 [v4, Value.agg c.cells.toArray].toArray _ = _ from e8), asB_bool]
        cases freshP s1 c with
        | true => simp; rw [add64 (by omega) (by omega)]
        | false => simp; rw [add64 (by omega) (by omega)]
      rw [start]
      cases hf : freshP s1 c with
      | true =>
        refine ⟨[sv, iv ((i : Int) + 1)], h8, by simp, x8, by simpa [idleG] using i8, by simp only [idleG]; rw [hearP_len]; exact hlen, by simp [idleG, hf]; omega, sv, by simpa [idleG, hf] using a8, hne, rfl⟩
      | false =>
        obtain ⟨v', h9, e9, a9, n9, k9, b9, hb9, hb9'⟩ := a8.push app25 app25 (bls25 (i : Int)) rfl rfl (by simp; omega) x8.nx
        refine ⟨[v', iv ((i : Int) + 1)], h9, by simp [e9], ⟨by have := x8.nx; omega, fun q hq => ?_⟩, ?_, by simp only [idleG]; rw [hearP_len]; exact hlen, by simp [idleG, hf]; omega, v', ?_, ?_, rfl⟩
        · rw [k9 q (by have := x8.nx; omega) (fun e => by have := (a8.blkOf e).1; omega)]
          exact x8.blk q hq
        · simp only [idleG]
          exact i8.keep n9 (k9 b i8.lt hne)
        · simpa [idleG, hf] using a9
        · rw [hb9]
          intro e
          cases e
          have := i8.lt
          omega)
  refine ⟨sv, h', x39 (k := l.length + 1) ?_ (by obtain ⟨x, y, z, hz⟩ := hap.isSl; rw [hz]; rfl), hx, hap.slR⟩
  have c77 := fun (K : Value → H → Option (Value × H)) => calls_eq (K := K) (xs := [_]) e77
  simp [f39, k71 hs1, hv, c77, cell_of hb3, hs.len, lp_eq hl]

end Go.AM

end

section

/- All that is heard, as the document tells it. -/
namespace Go.AM
open Go.Proofs
variable {k : Nat} {R : Type}
attribute [local simp] nx_eq nx_new nx_set blk_new blk_set asI_int asK_int asB_bool asP_ptr al_eq bx_eq len_slice onE_exit onE_ret onR_ret Value.cells d3 d29 d31 d56 d24 d59 d22 d25 w3 cell_new cell_set rd_new rd_set off eq lt le ifB gv out eqF1 eqF2 eqF3 eqF4 eqF5 eqF6 eqF7 eqF8
theorem SlR.keep {h h' : H} {e : TypeId} {s : Nat} {v : Value} {l : List (List Value)} (a : SlR h e s v l) (hn : h.nx ≤ h'.nx) (hb : ∀ b o n c, v = .slice (some ⟨b, o, none⟩) n c → h'.blk b = h.blk b) : SlR h' e s v l := by
  cases a with
  | nil => exact .nil
  | at_ hb' hr hk hc hl hx => exact .at_ (Nat.lt_of_lt_of_le hb' hn) ((hb _ _ _ _ rfl).trans hr) hk hc hl hx

end Go.AM

end

section

/- News, Spread and gossip, as the document tells them. -/
namespace Go.AM
open Go.Proofs
variable {k : Nat} {R : Type}
attribute [local simp] nx_eq nx_new nx_set blk_new blk_set asI_int asK_int asB_bool asP_ptr al_eq bx_eq len_slice onE_exit onE_ret onR_ret Value.cells d3 d29 d31 d56 d24 d59 d22 d25 w3 cell_new cell_set rd_new rd_set off eq lt le ifB gv out eqF1 eqF2 eqF3 eqF4 eqF5 eqF6 eqF7 eqF8
/-- Do all know all? -/
def allP (n : Nat) (L : List Int) : Bool := L.all fun x => decide (x = sub .i64 (shl .i64 1 n) 1)

end Go.AM

end

section

/- Spread tells what the document tells. -/
namespace Go.AM
open Go.Proofs
/-- Numbers that are sets of people below a bound. -/
def NS (k : Nat) (L : List Int) (M : List Nat) : Prop := L = M.map (fun x : Nat => (x : Int)) ∧ ∀ x ∈ M, x < 2 ^ k

theorem NS.len {k : Nat} {L : List Int} {M : List Nat} (h : NS k L M) : L.length = M.length := by rw [h.1]; simp

theorem NS.get {k : Nat} {L : List Int} {M : List Nat} (h : NS k L M) {i : Nat} (hi : i < M.length) : L.getD i 0 = ((M.getD i 0 : Nat) : Int) ∧ M.getD i 0 < 2 ^ k := by
  rw [h.1]
  have h1 : M[i]? = some M[i] := List.getElem?_eq_getElem hi
  have h2 : M[i] ∈ M := List.getElem_mem hi
  simp only [List.getD_eq_getElem?_getD, List.getElem?_map, h1]
  exact ⟨rfl, h.2 _ h2⟩

theorem ownP_ns {n : Nat} (hn : n ≤ 7) : NS 7 (ownP n) ((List.range n).map fun p => 2 ^ p) := by
  refine ⟨?_, fun x hx => ?_⟩
  · unfold ownP
    rw [List.map_map]
    apply List.map_congr_left
    intro p hp
    have := List.mem_range.1 hp
    exact shl1_nat (by omega)
  · simp only [List.mem_map, List.mem_range] at hx
    obtain ⟨p, hp, rfl⟩ := hx
    exact Nat.pow_lt_pow_right (by omega) (by omega)

/-- A call is made, of sets. -/
def hearN (M : List Nat) (a b : Nat) : List Nat := (M.set a (M.getD a 0 ||| M.getD b 0)).set b (M.getD a 0 ||| M.getD b 0)

theorem hearP_ns {L : List Int} {M : List Nat} {c : Kl} (h : NS 7 L M) (ha : 0 ≤ c.a ∧ c.a < L.length) (hb : 0 ≤ c.b ∧ c.b < L.length) : NS 7 (hearP L c) (hearN M c.a.toNat c.b.toNat) := by
  have hl := h.len
  obtain ⟨a1, a2⟩ := h.get (i := c.a.toNat) (by omega)
  obtain ⟨b1, b2⟩ := h.get (i := c.b.toNat) (by omega)
  have e : AM.or .i64 (L.getD c.a.toNat 0) (L.getD c.b.toNat 0) = ((M.getD c.a.toNat 0 ||| M.getD c.b.toNat 0 : Nat) : Int) := by
    rw [a1, b1]
    exact or_nat (by omega) (by omega)
  have hlt := Nat.or_lt_two_pow a2 b2
  refine ⟨?_, fun x hx => ?_⟩
  · unfold hearP hearN
    simp only [e]
    rw [List.map_set, List.map_set, ← h.1]
  · unfold hearN at hx
    rcases List.mem_or_eq_of_mem_set hx with hx | rfl
    · rcases List.mem_or_eq_of_mem_set hx with hx | rfl
      · exact h.2 x hx
      · exact hlt
    · exact hlt

theorem hearN_get (M : List Nat) (a b : Nat) (ha : a < M.length) (hb : b < M.length) (s q : Nat) :
    ((hearN M a b)[q]?).any (fun x => x.testBit s) = if q = a ∨ q = b then ((M[a]?).any fun x => x.testBit s) || ((M[b]?).any fun x => x.testBit s) else (M[q]?).any fun x => x.testBit s := by
  unfold hearN
  rw [List.getElem?_set, List.getElem?_set]
  simp only [List.length_set, List.getD_eq_getElem?_getD, List.getElem?_eq_getElem ha, List.getElem?_eq_getElem hb, Option.getD_some]
  by_cases h1 : b = q
  · subst h1; simp [hb]
  · by_cases h2 : a = q
    · subst h2; simp [h1, ha]
    · simp [h1, h2, Ne.symm h1, Ne.symm h2]

end Go.AM

end

section

/- CallsNews, on the abstract machine. -/
namespace Go.AM
open Go.Proofs
variable {k : Nat} {R : Type}
attribute [local simp] nx_eq nx_new nx_set blk_new blk_set asI_int asK_int asB_bool asP_ptr al_eq bx_eq len_slice onE_exit onE_ret onR_ret Value.cells d3 d29 d31 d56 d24 d59 d22 d25 w3 cell_new cell_set rd_new rd_set off eq lt le ifB gv out eqF1 eqF2 eqF3 eqF4 eqF5 eqF6 eqF7 eqF8 ext20 ext21 k42
theorem s22 (h : H) : rn 22 #[] h = some (.bool true, h) := by
  have e : call Try.prog E0 60 22 #[] h = some (.bool true, h) := by kernel_rfl
  exact run_iso rfl e

theorem k22 (h : H) (K : Value → H → Option R) : calls rn h 22 [] K = K (.bool true) h := calls_eq (s22 h)

theorem k26 {v0 v1 : Value} {a b : List Int} {h : H} (ha : SlR h 3 1 v0 (cellsI a)) (hb : SlR h 3 1 v1 (cellsI b)) (K : Value → H → Option R) : calls rn h 26 [v0, v1] K = K (.bool (decide (a = b))) h := calls_eq (s26 ha hb)

end Go.AM

end

section

/- The staged forms of functions 8, 10, 16, 44, 46, 47, 53, 54, 55, 56, 57, 58, 59, 62, 63, 64, 65, 66, 67, 68, 69, 70, 80, 81, 82, 85, 88, 90, 92, 93, 94, 97, 98, 101, 104, 111, 112, 116, and what calls of these answer. -/
namespace Go.AM
open Go.Proofs
noncomputable def f8_l1 (rec : Rec) (_k : Nat) (n0 : Int) (n1 : Int) (h0 : H) (v42 : Value) (n15 : Int) (ws0 : List Value) (h20 : H) : Option (Ex × List Value × H) :=
  asI .i64 (gv ws0 1) fun n16 =>
  ifB (lt n16 n15) (
    asK (gv ws0 1) fun n17 =>
    six v42 n17 1 fun b6 b7 =>
    ld Try.prog h20 25 b6 b7 fun v43 =>
    ld Try.prog h20 24 (nx h0) 0 fun v44 =>
    calls rec h20 18 [v44] fun v45 h21 =>
    calls rec h21 27 [v45, (.int .i64 n0), (.int .i64 n1), v43] fun v46 h22 =>
    ext v46 0 fun v47 =>
    asB v47 fun q7 =>
    ext v46 1 fun v48 =>
    asI .i64 v48 fun n18 =>
    ifB (not q7) (
      out .ret [(.bool false), gv ws0 1] h22) (
      ifB (not (eq n18 0)) (
        out .ret [(.bool false), gv ws0 1] h22) (
        asI .i64 (gv ws0 1) fun n19 =>
        out .normal [gv ws0 0, (.int .i64 (add .i64 n19 1))] h22))) (
    out (.exit 0) [gv ws0 0, gv ws0 1] h20)

noncomputable def f8 (rec : Rec) (k : Nat) (v0 : Value) (n0 : Int) (n1 : Int) (v1 : Value) (h0 : H) : Option (Value × H) :=
  bx h0 24 v0 fun h1 =>
  ld Try.prog h1 24 (nx h0) 0 fun v2 =>
  calls rec h1 18 [v2] fun v3 h2 =>
  calls rec h2 17 [v3, (.int .i64 n0), (.int .i64 n1)] fun v4 h3 =>
  ext v4 0 fun v5 =>
  ext v4 1 fun v6 =>
  asI .i64 v6 fun n2 =>
  ld Try.prog h3 24 (nx h0) 0 fun v7 =>
  calls rec h3 18 [v7] fun v8 h4 =>
  calls rec h4 19 [v8, (.int .i64 n0), (.int .i64 n1)] fun v9 h5 =>
  ext v9 0 fun v10 =>
  ext v9 1 fun v11 =>
  asI .i64 v11 fun n3 =>
  ld Try.prog h5 24 (nx h0) 0 fun v12 =>
  calls rec h5 18 [v12] fun v13 h6 =>
  calls rec h6 20 [v13, (.int .i64 n0), (.int .i64 n1)] fun v14 h7 =>
  ext v14 0 fun v15 =>
  ext v14 1 fun v16 =>
  asI .i64 v16 fun n4 =>
  ld Try.prog h7 24 (nx h0) 0 fun v17 =>
  calls rec h7 18 [v17] fun v18 h8 =>
  calls rec h8 45 [v18, (.int .i64 n0)] fun v19 h9 =>
  ext v19 0 fun v20 =>
  ext v19 1 fun v21 =>
  asI .i64 v21 fun n5 =>
  ld Try.prog h9 24 (nx h0) 0 fun v22 =>
  calls rec h9 18 [v22] fun v23 h10 =>
  calls rec h10 37 [v23] fun v24 h11 =>
  ext v24 0 fun v25 =>
  ext v24 1 fun v26 =>
  asI .i64 v26 fun n6 =>
  ld Try.prog h11 24 (nx h0) 0 fun v27 =>
  calls rec h11 18 [v27] fun v28 h12 =>
  calls rec h12 28 [v1] fun v29 h13 =>
  calls rec h13 27 [v28, (.int .i64 n0), (.int .i64 n1), v29] fun v30 h14 =>
  ext v30 0 fun v31 =>
  asB v31 fun q0 =>
  ext v30 1 fun v32 =>
  asI .i64 v32 fun n7 =>
  ifB (not (eq n7 0)) (
    ifB (eq n2 2) (
      ifB (eq n3 2) (
        ifB (eq n4 2) (
          ifB (eq n7 2) (
            calls rec h14 22 [] fun v33 h15 =>
            asB v33 fun q1 =>
            some ((.bool q1), h15)) (
            some ((.bool false), h14))) (
          some ((.bool false), h14))) (
        some ((.bool false), h14))) (
      some ((.bool false), h14))) (
    len v20 fun n8 =>
    ld Try.prog h14 3 (nx h0) 0 fun v34 =>
    asI .i64 v34 fun n9 =>
    ifB (not (eq n8 n9)) (
      ifB (eq n2 2) (
        ifB (eq n3 2) (
          ifB (eq n4 2) (
            ifB (eq n7 2) (
              calls rec h14 22 [] fun v35 h16 =>
              asB v35 fun q2 =>
              some ((.bool q2), h16)) (
              some ((.bool false), h14))) (
            some ((.bool false), h14))) (
          some ((.bool false), h14))) (
        some ((.bool false), h14))) (
      len v25 fun n10 =>
      ld Try.prog h14 3 (nx h0) 0 fun v36 =>
      asI .i64 v36 fun n11 =>
      ifB (not (eq n10 n11)) (
        ifB (eq n2 2) (
          ifB (eq n3 2) (
            ifB (eq n4 2) (
              ifB (eq n7 2) (
                calls rec h14 22 [] fun v37 h17 =>
                asB v37 fun q3 =>
                some ((.bool q3), h17)) (
                some ((.bool false), h14))) (
              some ((.bool false), h14))) (
            some ((.bool false), h14))) (
          some ((.bool false), h14))) (
        ifB (not (eq n5 0)) (
          some ((.bool false), h14)) (
          ifB (not (eq n6 0)) (
            some ((.bool false), h14)) (
            ifB (not (eq n2 n3)) (
              some ((.bool false), h14)) (
              ifB (not (eq n2 n4)) (
                some ((.bool false), h14)) (
                six v20 n1 1 fun b0 b1 =>
                ld Try.prog h14 3 b0 b1 fun v38 =>
                asI .i64 v38 fun n12 =>
                eqv Try.prog 4 (.bool (eq n2 0)) (.bool (le 0 n12)) fun q4 =>
                ifB (not q4) (
                  some ((.bool false), h14)) (
                  six v20 n1 1 fun b2 b3 =>
                  ld Try.prog h14 3 b2 b3 fun v39 =>
                  asI .i64 v39 fun n13 =>
                  six v25 n1 1 fun b4 b5 =>
                  ld Try.prog h14 3 b4 b5 fun v40 =>
                  asI .i64 v40 fun n14 =>
                  nn n0 (
                    eqv Try.prog 4 (.bool (le 0 n13)) (.bool (eq (and .i64 (shr .i64 n14 n0) 1) 1)) fun q5 =>
                    ifB (not q5) (
                      some ((.bool false), h14)) (
                      ifB (not (eq n2 0)) (
                        ifB (eq n2 4) (
                          ifB (not q0) (
                            calls rec h14 22 [] fun v41 h18 =>
                            asB v41 fun q6 =>
                            some ((.bool q6), h18)) (
                            some ((.bool false), h14))) (
                          some ((.bool false), h14))) (
                        bls Try.prog h14 58 3 [(0, v5), (1, v10), (2, v15)] fun v42 h19 =>
                        len v42 fun n15 =>
                        lp k (f8_l1 rec k n0 n1 h0 v42 n15) [(.bool false), (.int .i64 0)] h19 fun e0 ws1 h23 =>
                        onE e0 0 (
                          al h23 60 [.nilFunc] fun h24 =>
                          st Try.prog h24 60 (nx h23) 0 (.func (.func 46) #[] #[(pt (nx h0) 0)]) fun h25 =>
                          calls rec h25 47 [v5, (pt (nx h23) 0)] fun v49 h26 =>
                          asI .i64 v49 fun n20 =>
                          six v20 n1 1 fun b8 b9 =>
                          ld Try.prog h26 3 b8 b9 fun v50 =>
                          asI .i64 v50 fun n21 =>
                          ck (freq b8 (nx h25) (same h26 h25)) (
                            ifB (not (eq n20 n21)) (
                              some ((.bool false), h26)) (
                              ifB (not q0) (
                                calls rec h26 22 [] fun v51 h27 =>
                                asB v51 fun q8 =>
                                some ((.bool q8), h27)) (
                                calls rec h26 47 [v5, (pt (nx h23) 0)] fun v52 h28 =>
                                asI .i64 v52 fun n22 =>
                                calls rec h28 47 [v1, (pt (nx h23) 0)] fun v53 h29 =>
                                asI .i64 v53 fun n23 =>
                                ifB (le n22 n23) (
                                  len v10 fun n24 =>
                                  len v1 fun n25 =>
                                  ifB (le n24 n25) (
                                    calls rec h29 47 [v15, (pt (nx h23) 0)] fun v54 h30 =>
                                    asI .i64 v54 fun n26 =>
                                    ld Try.prog h30 60 (nx h23) 0 fun v55 =>
                                    ck (freq (nx h23) (nx h29) (same h30 h29)) (
                                      callsV rec h30 v55 [v15, (.int .i64 0)] fun v56 h31 =>
                                      asI .i64 v56 fun n27 =>
                                      calls rec h31 47 [v1, (pt (nx h23) 0)] fun v57 h32 =>
                                      asI .i64 v57 fun n28 =>
                                      ld Try.prog h32 60 (nx h23) 0 fun v58 =>
                                      ck (freq (nx h23) (nx h31) (same h32 h31)) (
                                        ck (freq (nx h23) (nx h30) (same h31 h30)) (
                                          ck (freq (nx h23) (nx h29) (same h30 h29)) (
                                            callsV rec h32 v58 [v1, (.int .i64 0)] fun v59 h33 =>
                                            asI .i64 v59 fun n29 =>
                                            ifB (le (sub .i64 n26 n27) (sub .i64 n28 n29)) (
                                              calls rec h33 22 [] fun v60 h34 =>
                                              asB v60 fun q9 =>
                                              some ((.bool q9), h34)) (
                                              some ((.bool false), h33))))))) (
                                    some ((.bool false), h29))) (
                                  some ((.bool false), h29)))))) (
                          onR e0 (
                            some (gv ws1 0, h23))))))))))))))

theorem e8 (rec : Rec) (k : Nat) (v0 : Value) (n0 : Int) (n1 : Int) (v1 : Value) (h : H) : bodyT Try.prog E0 SC (XC Try.prog rec k) 8 (Value × H) [.opq v0, .int .i64 n0, .int .i64 n1, .opq v1] h (fun v h => some (v, h)) = f8 rec k v0 n0 n1 v1 h := by kernel_rfl

theorem t8 {k : Nat} {v0 : Value} {n0 : Int} {n1 : Int} {v1 : Value} {h h1 : H} {v : Value} (hh : f8 rn k v0 n0 n1 v1 h = some (v, h1)) : rn 8 #[v0, .int .i64 n0, .int .i64 n1, v1] h = some (v, trunc Try.prog h h1 v) :=
  run_of_bodyT (args := [.opq v0, .int .i64 n0, .int .i64 n1, .opq v1]) rfl ((e8 _ _ _ _ _ _ _).trans hh)

theorem x8 {k : Nat} {v0 : Value} {n0 : Int} {n1 : Int} {v1 : Value} {h h1 : H} {v : Value} (hh : f8 rn k v0 n0 n1 v1 h = some (v, h1)) (hp : plainO v = false) : rn 8 #[v0, .int .i64 n0, .int .i64 n1, v1] h = some (v, h1) := by rw [t8 hh, trunc_not hp]

noncomputable def f44 (rec : Rec) (_k : Nat) (v0 : Value) (n0 : Int) (h0 : H) : Option (Value × H) :=
  calls rec h0 80 [v0, (.int .i64 n0)] fun v1 h1 =>
  asI .i64 v1 fun n1 =>
  some ((.bool (le 0 n1)), h1)

theorem e44 (rec : Rec) (k : Nat) (v0 : Value) (n0 : Int) (h : H) : bodyT Try.prog E0 SC (XC Try.prog rec k) 44 (Value × H) [.opq v0, .int .i64 n0] h (fun v h => some (v, h)) = f44 rec k v0 n0 h := by kernel_rfl

theorem t44 {k : Nat} {v0 : Value} {n0 : Int} {h h1 : H} {v : Value} (hh : f44 rn k v0 n0 h = some (v, h1)) : rn 44 #[v0, .int .i64 n0] h = some (v, trunc Try.prog h h1 v) :=
  run_of_bodyT (args := [.opq v0, .int .i64 n0]) rfl ((e44 _ _ _ _ _).trans hh)

theorem p44 {k : Nat} {v0 : Value} {n0 : Int} {h h1 : H} {v : Value} (hh : f44 rn k v0 n0 h = some (v, h1)) (hp : plainO v = true) (x : Ext h h1) : rn 44 #[v0, .int .i64 n0] h = some (v, h) := by rw [t44 hh, trunc_pure hp x]

noncomputable def f80_l1 (_rec : Rec) (_k : Nat) (v0 : Value) (n0 : Int) (n1 : Int) (ws0 : List Value) (h1 : H) : Option (Ex × List Value × H) :=
  asI .i64 (gv ws0 1) fun n2 =>
  ifB (lt n2 n1) (
    asK (gv ws0 1) fun n3 =>
    six v0 n3 1 fun b0 b1 =>
    ld Try.prog h1 3 b0 b1 fun v1 =>
    asI .i64 v1 fun n4 =>
    ifB (eq n0 n4) (
      out .ret [gv ws0 1, gv ws0 1] h1) (
      asI .i64 (gv ws0 1) fun n5 =>
      out .normal [gv ws0 0, (.int .i64 (add .i64 n5 1))] h1)) (
    out (.exit 0) [gv ws0 0, gv ws0 1] h1)

noncomputable def f80 (rec : Rec) (k : Nat) (v0 : Value) (n0 : Int) (h0 : H) : Option (Value × H) :=
  len v0 fun n1 =>
  lp k (f80_l1 rec k v0 n0 n1) [(.int .i64 0), (.int .i64 0)] h0 fun e0 ws1 h2 =>
  onE e0 0 (
    some ((.int .i64 (-1)), h2)) (
    onR e0 (
      some (gv ws1 0, h2)))

theorem e80 (rec : Rec) (k : Nat) (v0 : Value) (n0 : Int) (h : H) : bodyT Try.prog E0 SC (XC Try.prog rec k) 80 (Value × H) [.opq v0, .int .i64 n0] h (fun v h => some (v, h)) = f80 rec k v0 n0 h := by kernel_rfl

theorem t80 {k : Nat} {v0 : Value} {n0 : Int} {h h1 : H} {v : Value} (hh : f80 rn k v0 n0 h = some (v, h1)) : rn 80 #[v0, .int .i64 n0] h = some (v, trunc Try.prog h h1 v) :=
  run_of_bodyT (args := [.opq v0, .int .i64 n0]) rfl ((e80 _ _ _ _ _).trans hh)

theorem p80 {k : Nat} {v0 : Value} {n0 : Int} {h h1 : H} {v : Value} (hh : f80 rn k v0 n0 h = some (v, h1)) (hp : plainO v = true) (x : Ext h h1) : rn 80 #[v0, .int .i64 n0] h = some (v, h) := by rw [t80 hh, trunc_pure hp x]

noncomputable def f111_l1 (rec : Rec) (_k : Nat) (n0 : Int) (n1 : Int) (n2 : Int) (n3 : Int) (v1 : Value) (h0 : H) (v3 : Value) (n4 : Int) (ws0 : List Value) (h3 : H) : Option (Ex × List Value × H) :=
  asI .i64 (gv ws0 1) fun n5 =>
  ifB (lt n5 n4) (
    asK (gv ws0 1) fun n6 =>
    six v3 n6 3 fun b0 b1 =>
    ld Try.prog h3 59 b0 b1 fun v4 =>
    al h3 59 [(.int .i64 0), (.int .i64 0), (.int .i64 0)] fun h4 =>
    st Try.prog h4 59 (nx h3) 0 v4 fun h5 =>
    ld Try.prog h5 3 (nx h3) 0 fun v5 =>
    asI .i64 v5 fun n7 =>
    ld Try.prog h5 3 (nx h3) (off 0 1) fun v6 =>
    asI .i64 v6 fun n8 =>
    ld Try.prog h5 3 (nx h3) (off 0 2) fun v7 =>
    asI .i64 v7 fun n9 =>
    ifB (lt n3 n9) (
      ld Try.prog h5 3 (nx h3) 0 fun v8 =>
      asI .i64 v8 fun n10 =>
      ifB (eq n10 n0) (
        nn (sub .i64 (add .i64 n7 n8) n0) (
          ifB (eq (and .i64 (shr .i64 n2 (sub .i64 (add .i64 n7 n8) n0)) 1) 0) (
            ld Try.prog h5 24 (nx h0) 0 fun v9 =>
            nn (sub .i64 (add .i64 n7 n8) n0) (
              ld Try.prog h5 3 (nx h3) (off 0 2) fun v10 =>
              asI .i64 v10 fun n11 =>
              len v1 fun n12 =>
              len v1 fun n13 =>
              sli Try.prog h5 25 v1 none (some (.int .i64 n12)) (some (.int .i64 n13)) fun v11 =>
              bls Try.prog h5 25 1 [(0, gv ws0 1)] fun v12 h6 =>
              ck (fres v1 (nx h5) (same h6 h5)) (
                ck (freq (nx h3) (nx h5) (same h6 h5)) (
                  ck (freq (nx h0) (nx h5) (same h6 h5)) (
                    app Try.prog h6 25 25 v11 v12 fun v13 h7 =>
                    ck (freq (nx h3) (nx h6) (same h7 h6)) (
                      ck (freq (nx h0) (nx h6) (same h7 h6)) (
                        calls rec h7 111 [v9, (.int .i64 (sub .i64 (add .i64 n7 n8) n0)), (.int .i64 n1), (.int .i64 (or .i64 n2 (shl .i64 1 (sub .i64 (add .i64 n7 n8) n0)))), (.int .i64 n11), v13] fun v14 h8 =>
                        app Try.prog h8 58 58 (gv ws0 0) v14 fun v15 h9 =>
                        asI .i64 (gv ws0 1) fun n14 =>
                        out .normal [v15, (.int .i64 (add .i64 n14 1))] h9))))))) (
            asI .i64 (gv ws0 1) fun n15 =>
            out .normal [gv ws0 0, (.int .i64 (add .i64 n15 1))] h5))) (
        ld Try.prog h5 3 (nx h3) (off 0 1) fun v16 =>
        asI .i64 v16 fun n16 =>
        ifB (eq n16 n0) (
          nn (sub .i64 (add .i64 n7 n8) n0) (
            ifB (eq (and .i64 (shr .i64 n2 (sub .i64 (add .i64 n7 n8) n0)) 1) 0) (
              ld Try.prog h5 24 (nx h0) 0 fun v17 =>
              nn (sub .i64 (add .i64 n7 n8) n0) (
                ld Try.prog h5 3 (nx h3) (off 0 2) fun v18 =>
                asI .i64 v18 fun n17 =>
                len v1 fun n18 =>
                len v1 fun n19 =>
                sli Try.prog h5 25 v1 none (some (.int .i64 n18)) (some (.int .i64 n19)) fun v19 =>
                bls Try.prog h5 25 1 [(0, gv ws0 1)] fun v20 h10 =>
                ck (fres v1 (nx h5) (same h10 h5)) (
                  ck (freq (nx h3) (nx h5) (same h10 h5)) (
                    ck (freq (nx h0) (nx h5) (same h10 h5)) (
                      app Try.prog h10 25 25 v19 v20 fun v21 h11 =>
                      ck (freq (nx h3) (nx h10) (same h11 h10)) (
                        ck (freq (nx h0) (nx h10) (same h11 h10)) (
                          calls rec h11 111 [v17, (.int .i64 (sub .i64 (add .i64 n7 n8) n0)), (.int .i64 n1), (.int .i64 (or .i64 n2 (shl .i64 1 (sub .i64 (add .i64 n7 n8) n0)))), (.int .i64 n17), v21] fun v22 h12 =>
                          app Try.prog h12 58 58 (gv ws0 0) v22 fun v23 h13 =>
                          asI .i64 (gv ws0 1) fun n20 =>
                          out .normal [v23, (.int .i64 (add .i64 n20 1))] h13))))))) (
              asI .i64 (gv ws0 1) fun n21 =>
              out .normal [gv ws0 0, (.int .i64 (add .i64 n21 1))] h5))) (
          asI .i64 (gv ws0 1) fun n22 =>
          out .normal [gv ws0 0, (.int .i64 (add .i64 n22 1))] h5))) (
      asI .i64 (gv ws0 1) fun n23 =>
      out .normal [gv ws0 0, (.int .i64 (add .i64 n23 1))] h5)) (
    out (.exit 0) [gv ws0 0, gv ws0 1] h3)

noncomputable def f111 (rec : Rec) (k : Nat) (v0 : Value) (n0 : Int) (n1 : Int) (n2 : Int) (n3 : Int) (v1 : Value) (h0 : H) : Option (Value × H) :=
  bx h0 24 v0 fun h1 =>
  ifB (eq n0 n1) (
    bls Try.prog h1 58 1 [(0, v1)] fun v2 h2 =>
    some (v2, h2)) (
    ld Try.prog h1 22 (nx h0) (off 0 1) fun v3 =>
    len v3 fun n4 =>
    lp k (f111_l1 rec k n0 n1 n2 n3 v1 h0 v3 n4) [(.slice none 0 0), (.int .i64 0)] h1 fun e0 ws1 h14 =>
    onE e0 0 (
      some (gv ws1 0, h14)) (
      none))

theorem e111 (rec : Rec) (k : Nat) (v0 : Value) (n0 : Int) (n1 : Int) (n2 : Int) (n3 : Int) (v1 : Value) (h : H) : bodyT Try.prog E0 SC (XC Try.prog rec k) 111 (Value × H) [.opq v0, .int .i64 n0, .int .i64 n1, .int .i64 n2, .int .i64 n3, .opq v1] h (fun v h => some (v, h)) = f111 rec k v0 n0 n1 n2 n3 v1 h := by kernel_rfl

theorem t111 {k : Nat} {v0 : Value} {n0 : Int} {n1 : Int} {n2 : Int} {n3 : Int} {v1 : Value} {h h1 : H} {v : Value} (hh : f111 rn k v0 n0 n1 n2 n3 v1 h = some (v, h1)) : rn 111 #[v0, .int .i64 n0, .int .i64 n1, .int .i64 n2, .int .i64 n3, v1] h = some (v, trunc Try.prog h h1 v) :=
  run_of_bodyT (args := [.opq v0, .int .i64 n0, .int .i64 n1, .int .i64 n2, .int .i64 n3, .opq v1]) rfl ((e111 _ _ _ _ _ _ _ _ _).trans hh)

theorem x111 {k : Nat} {v0 : Value} {n0 : Int} {n1 : Int} {n2 : Int} {n3 : Int} {v1 : Value} {h h1 : H} {v : Value} (hh : f111 rn k v0 n0 n1 n2 n3 v1 h = some (v, h1)) (hp : plainO v = false) : rn 111 #[v0, .int .i64 n0, .int .i64 n1, .int .i64 n2, .int .i64 n3, v1] h = some (v, h1) := by rw [t111 hh, trunc_not hp]

end Go.AM

end

section

/- PLAIN: the log backward. -/
namespace Go.AM
/-! ### Valid logs -/
/-- No two calls at one time share a person. -/
def apartK (c d : Kl) : Prop := c.t ≤ d.t ∧ (c.t = d.t → c.a ≠ d.a ∧ c.a ≠ d.b ∧ c.b ≠ d.a ∧ c.b ≠ d.b)

structure VP (n : Int) (l : List Kl) : Prop where
  n1 : 1 ≤ n
  n7 : n ≤ 7
  len : l.length ≤ 24
  ok : ∀ c ∈ l, okC n c = true
  two : l.Pairwise apartK

theorem clash_f {c d : Kl} : clash c d = false ↔ (d.t = c.t → d.a ≠ c.a ∧ d.a ≠ c.b ∧ d.b ≠ c.a ∧ d.b ≠ c.b) := by
  unfold clash Kl.has
  simp
  constructor
  · intro h e
    have := h e
    grind
  · intro h e
    have := h e
    grind

theorem vp_iff {n : Int} {l : List Kl} : validP n l = true ↔ VP n l := by
  constructor
  · intro h
    obtain ⟨h1, h2, h3, h4⟩ := validP_ok h
    refine ⟨h1, h2, by omega, fun c hc => ?_, ?_⟩
    · obtain ⟨i, hi⟩ := List.getElem?_of_mem hc
      have := h4 i c hi
      first | exact this | exact this.1
    · rw [List.pairwise_iff_getElem]
      intro i j hi hj hij
      obtain ⟨q1, q2⟩ := validP_sorted h hij (List.getElem?_eq_getElem hi) (List.getElem?_eq_getElem hj)
      exact ⟨q1, fun e => (clash_f.1 q2) e⟩
  · rintro ⟨h1, h2, h3, h4, h5⟩
    unfold validP
    simp only [Bool.and_eq_true, Bool.not_eq_true', decide_eq_false_iff_not, Int.not_lt, List.all_eq_true, List.mem_range]
    refine ⟨⟨⟨h1, h2⟩, by omega⟩, fun i hi => ?_⟩
    unfold rowOk
    rw [List.getElem?_eq_getElem hi]
    simp only [Bool.and_eq_true, Bool.not_eq_true']
    refine ⟨⟨h4 _ (List.getElem_mem hi), ?_⟩, ?_⟩
    · by_cases h0 : 0 < i
      · have h6 : i - 1 < l.length := by omega
        have := (List.pairwise_iff_getElem.1 h5 (i - 1) i h6 hi (by omega)).1
        simp [h6]
        omega
      · simp [h0]
    · rw [List.any_eq_false]
      intro d hd
      obtain ⟨j, hj⟩ := List.getElem?_of_mem hd
      have hji : j < i := by have := (List.getElem?_eq_some_iff.1 hj).1; rw [List.length_take] at this; omega
      rw [List.getElem?_take_of_lt hji] at hj
      obtain ⟨hj1, rfl⟩ := List.getElem?_eq_some_iff.1 hj
      have := (List.pairwise_iff_getElem.1 h5 j i hj1 hi hji).2
      rw [Bool.not_eq_true, clash_f]
      exact this

end Go.AM

end

section

/- Gossip, on the abstract machine. -/
namespace Go.AM
open Go.Proofs
variable {k : Nat} {R : Type}
attribute [local simp] nx_eq nx_new nx_set blk_new blk_set asI_int asK_int asB_bool asP_ptr al_eq bx_eq len_slice onE_exit onE_ret onR_ret Value.cells d3 d29 d31 d56 d24 d59 d22 d25 w3 cell_new cell_set rd_new rd_set off eq lt le ifB gv out eqF1 eqF2 eqF3 eqF4 eqF5 eqF6 eqF7 eqF8 ext20 ext21 k42 kbld31 kbld56 k22
/-- One call more, at the next time. -/
def addC (L : List Kl) (a b : Int) : List Kl := L ++ [⟨a, b, (L.length : Int) + 1⟩]

/-- What gossip holds while it is made. -/
structure GS (h0 : H) (lo : Nat) (g : H) (tb lb : Nat) (n : Int) (L : List Kl) : Prop where
  fr : Fr lo h0 g
  tbl : lo ≤ tb ∧ tb < g.nx
  lbl : lo ≤ lb ∧ lb < g.nx
  ne : tb ≠ lb
  tb_ : g.blk tb = some (.row [iv L.length] 3 true)
  sl : ∃ sv, g.blk lb = some (.row [iv n, sv] 31 true) ∧ AqR lo g 56 3 sv (L.map Kl.cells)

theorem s100 {h0 g : H} {lo tb lb : Nat} {n a b : Int} {L : List Kl} (gs : GS h0 lo g tb lb n L) (hL : L.length < 1000) (hlo : lo ≤ g.nx) :
    ∃ g', rn 100 #[iv a, iv b, pt tb 0, pt lb 0] g = some (undef, g') ∧ GS h0 lo g' tb lb n (addC L a b) ∧ g.nx ≤ g'.nx ∧ (∀ q, q < g.nx → q ≠ tb → q ≠ lb → (∀ c, g.blk q ≠ some (.row c 56 true)) → g'.blk q = g.blk q) := by
  obtain ⟨fr, tbl, lbl, ne, htb, sv, hlb, hap⟩ := gs
  have ht : wrc 1 g tb 0 (iv ((L.length : Int) + 1)) = some (g.set tb (.row [iv ((L.length : Int) + 1)] 3 true)) := by
    rw [wrc_one htb rfl rfl (by simp)]; rfl
  have a1 : AqR lo (g.set tb (.row [iv ((L.length : Int) + 1)] 3 true)) 56 3 sv (L.map Kl.cells) := hap.keep (Nat.le_refl _) fun q hq => blk_set_ne _ _ _ (by
    intro e; subst e
    have := (hap.blkOf hq).2.2
    rw [htb] at this
    simp at this)
  obtain ⟨v', h9, e9, a9, n9, k9, b9, hb9, hb9'⟩ := a1.push app29 app29 (bls29 ⟨a, b, (L.length : Int) + 1⟩) rfl rfl (by simp; omega) hlo
  have svt : blkOf sv ≠ some tb := fun e => by have := (hap.blkOf e).2.2; rw [htb] at this; simp at this
  have svl : blkOf sv ≠ some lb := fun e => by have := (hap.blkOf e).2.2; rw [hlb] at this; simp at this
  have hlb9 : h9.blk lb = some (.row [iv n, sv] 31 true) := (k9 lb lbl.2 svl).trans ((blk_set_ne _ _ _ (Ne.symm ne)).trans hlb)
  have htb9 : h9.blk tb = some (.row [iv ((L.length : Int) + 1)] 3 true) := (k9 tb tbl.2 svt).trans (blk_set_self _ _ _)
  have hw : wrc 1 h9 lb 1 v' = some (h9.set lb (.row [iv n, v'] 31 true)) := by rw [wrc_one hlb9 a9.cells.1 a9.cells.2 (by simp)]; rfl
  have n9' : g.nx ≤ h9.nx := n9
  refine ⟨h9.set lb (.row [iv n, v'] 31 true), x100 (k := 0) ?_ rfl, ⟨⟨?_, fun q hq => ?_⟩, ⟨tbl.1, ?_⟩, ⟨lbl.1, ?_⟩, ne, ?_, v', blk_set_self _ _ _, ?_⟩, n9', fun q hq h1 h2 h3 => ?_⟩
  · have hcl : ∀ o, g.cell tb o = [iv (L.length : Int)][o]? := fun o => cell_of htb
    have hcs : ∀ o, g.cell lb o = [iv n, sv][o]? := fun o => cell_of hlb
    have hadd : add .i64 (L.length : Int) 1 = (L.length : Int) + 1 := add64 (by omega) (by omega)
    simp [f100, hcl, hcs, hadd, ht, Ne.symm ne, ne, e9, w29, hw]
  · have := fr.nx; rw [nx_set]; omega
  · rw [blk_set_ne _ _ _ (by omega), k9 q (by rw [nx_set]; omega) (fun e => by have := (hap.blkOf e).1; omega), blk_set_ne _ _ _ (by omega)]
    exact fr.blk q hq
  · rw [nx_set]; omega
  · rw [nx_set]; omega
  · rw [blk_set_ne _ _ _ ne]
    simpa [addC] using htb9
  · have : (addC L a b).map Kl.cells = L.map Kl.cells ++ [[iv a, iv b, iv ((L.length : Int) + 1)]] := by simp [addC, Kl.cells]
    rw [this]
    exact a9.keep (by rw [nx_set]; exact Nat.le_refl _) fun q hq => blk_set_ne _ _ _ (by rw [hb9] at hq; cases hq; rw [nx_set] at hb9'; omega)
  · rw [blk_set_ne _ _ _ h2, k9 q hq (fun e => h3 _ (hap.blkOf e).2.2), blk_set_ne _ _ _ h1]

/-- Calls in a row, from the first person. -/
def chainP (m : Nat) : List Kl := (List.range m).foldl (fun L (i : Nat) => addC L ((i : Int) + 1 - 1) ((i : Int) + 1)) []

def starP (L : List Kl) (m : Nat) : List Kl := (List.range m).foldl (fun L (i : Nat) => addC L 0 ((i : Int) + 4)) L

def gossipP (n : Nat) : List Kl :=
  if n < 4 then (if n = 3 then addC (chainP (n - 1)) 0 1 else chainP (n - 1))
  else starP (addC (addC (addC (addC (starP [] (n - 4)) 0 1) 2 3) 0 2) 1 3) (n - 4)

theorem addC_len (L : List Kl) (a b : Int) : (addC L a b).length = L.length + 1 := by simp [addC]

theorem chain_len (m : Nat) : (chainP m).length = m := by
  induction m with
  | zero => rfl
  | succ m ih => unfold chainP at *; rw [List.range_succ, List.foldl_append]; simp only [List.foldl_cons, List.foldl_nil]; rw [addC_len, ih]

theorem star_len (L : List Kl) (m : Nat) : (starP L m).length = L.length + m := by
  induction m with
  | zero => rfl
  | succ m ih => unfold starP at *; rw [List.range_succ, List.foldl_append]; simp only [List.foldl_cons, List.foldl_nil]; rw [addC_len, ih]; omega

theorem s76 {n : Nat} (hn1 : 1 ≤ n) (hn : n ≤ 7) (h : H) : ∃ sv h', rn 76 #[iv n] h = some (.agg #[iv n, sv], h') ∧ Ext h h' ∧ AqR h.nx h' 56 3 sv ((gossipP n).map Kl.cells) := by
  let z31 : List Value := [.int .i64 0, .slice none 0 0]
  let h1 := h.new (.row z31 31 true)
  let h3 := h1.fresh 31 z31 [.int .i64 n, .slice none 0 0]
  let h5 := h3.fresh 3 [iv 0] [iv 0]
  have n5 : h5.nx = h.nx + 3 := rfl
  have x5 : Ext h h5 := (((Ext.refl h).new' _).fresh _ _ _).fresh _ _ _
  have g0 : h5.blk h.nx = some (.row z31 31 true) := by simp [h5, h3, h1, H.fresh]
  have g1 : h5.blk (h.nx + 1) = some (.row [.int .i64 n, .slice none 0 0] 31 true) := by simp [h5, h3, h1, H.fresh]
  have g2 : h5.blk (h.nx + 2) = some (.row [iv 0] 3 true) := by simp [h5, h3, h1, H.fresh]
  have gs5 : GS h h.nx h5 (h.nx + 2) (h.nx + 1) n [] := ⟨⟨x5.nx, x5.blk⟩, ⟨by omega, by omega⟩, ⟨by omega, by omega⟩, by omega, g2, _, g1, .nil⟩
  -- what is known all along
  let Inv : List Kl → H → Prop := fun L g => GS h h.nx g (h.nx + 2) (h.nx + 1) n L ∧ g.blk h.nx = some (.row z31 31 true) ∧ h.nx + 3 ≤ g.nx
  have i5 : Inv [] h5 := ⟨gs5, g0, by omega⟩
  have call : ∀ (L : List Kl) (g : H) (a b : Int), Inv L g → L.length < 1000 → ∃ g', rn 100 #[iv a, iv b, pt (h.nx + 2) 0, pt (h.nx + 1) 0] g = some (undef, g') ∧ Inv (addC L a b) g' := by
    intro L g a b ⟨gs, gz, gn⟩ hL
    obtain ⟨g', e, gs', hn', f'⟩ := s100 (a := a) (b := b) gs hL (by omega)
    exact ⟨g', e, gs', (f' h.nx (by omega) (by omega) (by omega) (by intro c e; rw [gz] at e; simp at e)).trans gz, by omega⟩
  have fin : ∀ (L : List Kl) (g : H), Inv L g → ∃ sv h', Ext h h' ∧ AqR h.nx h' 56 3 sv (L.map Kl.cells) ∧ ((g.rd (h.nx + 1) 0 2).bind fun l => (wrc 2 g h.nx 0 (.agg l.toArray)).bind fun h10 => (h10.rd h.nx 0 2).bind fun l => some (Value.agg l.toArray, h10)) = some (.agg #[iv n, sv], h') := by
    intro L g ⟨gs, gz, gn⟩
    obtain ⟨fr, tbl, lbl, ne, htb, sv, hlb, hap⟩ := gs
    have hst : wrc 2 g h.nx 0 (.agg #[iv n, sv]) = some (g.set h.nx (.row [iv n, sv] 31 true)) := by
      simp only [wrc, gz]
      rw [if_pos ⟨rfl, by simp [z31], by simp [Value.cells, hap.cells.2]; rfl⟩]
      rfl
    refine ⟨sv, g.set h.nx (.row [iv n, sv] 31 true), ⟨by rw [nx_set]; exact fr.nx, fun q hq => by rw [blk_set_ne _ _ _ (by omega)]; exact fr.blk q hq⟩, hap.keep (Nat.le_refl _) fun q hq => blk_set_ne _ _ _ (by intro e; subst e; have := (hap.blkOf hq).2.2; rw [gz] at this; simp at this), ?_⟩
    rw [rd_all (n := 2) hlb rfl, Option.bind_some]
    rw [show ([iv (n : Int), sv].toArray) = #[iv (n : Int), sv] from rfl, hst, Option.bind_some, rd_all (n := 2) (blk_set_self _ _ _) rfl]
    rfl
  have hF : ∃ sv h' k, f76 rn k n h = some (.agg #[iv n, sv], h') ∧ Ext h h' ∧ AqR h.nx h' 56 3 sv ((gossipP n).map Kl.cells) := by
    have loop : ∀ (F : List Value → H → Option (Ex × List Value × H)) (oj : Nat) (st : Int) (m : Nat) (ab : Nat → List Kl → List Kl) (L0 : List Kl) (g0 : H), m ≤ 10 → L0.length ≤ 20 → Inv L0 g0 → (∀ i L, (ab i L).length = L.length + 1) →
        (∀ (i : Nat) (L : List Kl) (g : H), i < m → Inv L g → L.length < 1000 → ∃ g', F [iv (st + i)] g = some (.normal, [iv (st + i + 1)], g') ∧ Inv (ab i L) g') → (∀ g, F [iv (st + m)] g = some (.exit oj, [iv (st + m)], g)) →
        ∃ ws' h', lpGo F 100 [iv st] g0 = some (.exit oj, ws', h') ∧ Inv ((List.range m).foldl (fun L i => ab i L) L0) h' := by
      intro F oj st m ab L0 g0 hm hL0 hi0 hlen hstep hfin
      obtain ⟨ws', h', e, hi, _⟩ := lp_for (F := F) (k := 100) (l := List.range m) (fun _ x => ab x) (fun i L ws g => Inv L g ∧ L.length = L0.length + i ∧ ws = [iv (st + i)]) oj (ws := [iv st]) (h := g0) (s0 := L0)
        ⟨hi0, rfl, by simp⟩ (by simp; omega)
        (by
          rintro L ws g ⟨hi, hl, rfl⟩
          rw [List.length_range]
          exact hfin g)
        (by
          rintro i c L ws g hc ⟨hi, hl, rfl⟩
          have him : i < m := by simpa using (List.getElem?_eq_some_iff.1 hc).1
          obtain rfl : c = i := by
            rw [List.getElem?_range him] at hc
            exact (Option.some.inj hc).symm
          obtain ⟨g', e, hi'⟩ := hstep c L g him hi (by omega)
          exact ⟨_, g', e, hi', by rw [hlen]; omega, by rw [show st + ((c + 1 : Nat) : Int) = st + c + 1 by omega]⟩)
      rw [foldI_foldl] at hi
      exact ⟨ws', h', e, hi⟩
    have hh1 : h1.nx = h.nx + 1 := rfl
    have hh3 : h3.nx = h.nx + 2 := rfl
    have kc : ∀ {L : List Kl} {g : H} {a b : Int} {g' : H}, rn 100 #[iv a, iv b, pt (h.nx + 2) 0, pt (h.nx + 1) 0] g = some (undef, g') → ∀ {R : Type} (K : Value → H → Option R), calls rn g 100 [.int .i64 a, .int .i64 b, pt (h.nx + 2) 0, pt (h.nx + 1) 0] K = K undef g' := fun e _ K => calls_eq e
    by_cases h4 : n < 4
    · obtain ⟨ws1, g1, e1, i1⟩ := loop (f76_l1 rn 100 n h1 h3) 0 1 (n - 1) (fun i L => addC L ((i : Int) + 1 - 1) ((i : Int) + 1)) [] h5 (by omega) (by simp) i5 (fun _ _ => addC_len _ _ _)
        (fun i L g him hi hL => by
          obtain ⟨g', e, hi'⟩ := call L g ((i : Int) + 1 - 1) ((i : Int) + 1) hi hL
          refine ⟨g', ?_, hi'⟩
          have hs : sub .i64 (1 + (i : Int)) 1 = (i : Int) + 1 - 1 := by rw [sub64 (by omega) (by omega)]; omega
          have ha : add .i64 (1 + (i : Int)) 1 = 1 + (i : Int) + 1 := add64 (by omega) (by omega)
          rw [show (i : Int) + 1 = 1 + (i : Int) by omega] at e hs
          simp only [f76_l1, gv, List.getD_cons_zero, asI_int, lt_t (show 1 + (i : Int) < n by omega), ifB, if_true, hs, nx_eq, hh1, hh3, kc (L := L) e, ha, out])
        (fun g => by simp [f76_l1, show ¬ (1 + ((n - 1 : Nat) : Int) < n) by omega])
      rw [show (List.range (n - 1)).foldl (fun L (i : Nat) => addC L ((i : Int) + 1 - 1) ((i : Int) + 1)) [] = chainP (n - 1) from rfl] at i1
      have head : f76 rn 100 n h = (if n = 3 then (calls rn g1 100 [.int .i64 0, .int .i64 1, pt (h.nx + 2) 0, pt (h.nx + 1) 0] fun v2 h9 => (h9.rd (h.nx + 1) 0 2).bind fun l => (wrc 2 h9 h.nx 0 (.agg l.toArray)).bind fun h10 => (h10.rd h.nx 0 2).bind fun l => some (Value.agg l.toArray, h10)) else
          ((g1.rd (h.nx + 1) 0 2).bind fun l => (wrc 2 g1 h.nx 0 (.agg l.toArray)).bind fun h10 => (h10.rd h.nx 0 2).bind fun l => some (Value.agg l.toArray, h10))) := by
        unfold f76
        rw [al_eq, kbld31, al_st (zs := z31) (xs := [.int .i64 n, .slice none 0 0]) sz31 rfl rfl, al_st1 (v := iv 0) sz3 rfl rfl]
        rw [lt_t (show (n : Int) < 4 by omega), ifB_true, show H.fresh (H.fresh (h.new (.row [.int .i64 0, .slice none 0 0] 31 true)) 31 z31 [.int .i64 n, .slice none 0 0]) 3 [iv 0] [iv 0] = h5 from rfl]
        refine (lp_eq e1).trans ?_
        rw [onE_exit, if_pos rfl]
        simp only [nx_eq, hh1, hh3, d31, w31, ifB]
        by_cases h3' : n = 3
        · rw [if_pos h3', eq_t (by omega), if_pos rfl]; rfl
        · rw [if_neg h3', eq_f (by omega)]; simp only [Bool.false_eq_true, if_false]; rfl
      by_cases h3' : n = 3
      · obtain ⟨g2, e2, i2⟩ := call _ g1 0 1 i1 (by rw [chain_len]; omega)
        obtain ⟨sv, h', x, a, e3⟩ := fin _ _ i2
        refine ⟨sv, h', 100, ?_, x, by simpa [gossipP, h4, h3'] using a⟩
        rw [head, if_pos h3', kc (L := []) e2]
        exact e3
      · obtain ⟨sv, h', x, a, e3⟩ := fin _ _ i1
        refine ⟨sv, h', 100, ?_, x, by simpa [gossipP, h4, h3'] using a⟩
        rw [head, if_neg h3']
        exact e3
    · have star : ∀ (F : List Value → H → Option (Ex × List Value × H)) (oj : Nat) (L0 : List Kl) (g0 : H), L0.length ≤ 20 → Inv L0 g0 →
          (∀ ws g, F ws g = asI .i64 (gv ws 0) fun n4 => ifB (lt n4 n) (calls rn g 100 [(.int .i64 0), gv ws 0, (pt (nx h3) 0), (pt (nx h1) 0)] fun v7 h13 => asI .i64 (gv ws 0) fun n5 => out .normal [(.int .i64 (add .i64 n5 1))] h13) (out (.exit oj) [gv ws 0] g)) →
          ∃ ws' h', lpGo F 100 [iv 4] g0 = some (.exit oj, ws', h') ∧ Inv (starP L0 (n - 4)) h' := by
        intro F oj L0 g0 hL hi hF
        obtain ⟨ws1, g1, e1, i1⟩ := loop F oj 4 (n - 4) (fun i L => addC L 0 ((i : Int) + 4)) L0 g0 (by omega) hL hi (fun _ _ => addC_len _ _ _)
          (fun i L g him hi hL => by
            obtain ⟨g', e, hi'⟩ := call L g 0 ((i : Int) + 4) hi hL
            refine ⟨g', ?_, hi'⟩
            rw [show (i : Int) + 4 = 4 + (i : Int) by omega] at e
            have ha : add .i64 (4 + (i : Int)) 1 = 4 + (i : Int) + 1 := add64 (by omega) (by omega)
            rw [hF]
            simp only [gv, List.getD_cons_zero, asI_int, lt_t (show 4 + (i : Int) < n by omega), ifB, if_true, nx_eq, hh1, hh3, kc (L := L) e, ha, out])
          (fun g => by rw [hF]; simp [show ¬ (4 + ((n - 4 : Nat) : Int) < n) by omega])
        exact ⟨ws1, g1, e1, i1⟩
      obtain ⟨ws1, g1, e1, i1⟩ := star (f76_l2 rn 100 n h1 h3) 2 [] h5 (by simp) i5 (fun _ _ => rfl)
      have l1 : (starP [] (n - 4)).length = n - 4 := by rw [star_len]; simp
      obtain ⟨g2, e2, i2⟩ := call _ g1 0 1 i1 (by omega)
      obtain ⟨g3, e3, i3⟩ := call _ g2 2 3 i2 (by rw [addC_len]; omega)
      obtain ⟨g4, e4, i4⟩ := call _ g3 0 2 i3 (by rw [addC_len, addC_len]; omega)
      obtain ⟨g5, e5, i5'⟩ := call _ g4 1 3 i4 (by rw [addC_len, addC_len, addC_len]; omega)
      obtain ⟨ws6, g6, e6, i6⟩ := star (f76_l3 rn 100 n h1 h3) 4 _ g5 (by rw [addC_len, addC_len, addC_len, addC_len]; omega) i5' (fun _ _ => rfl)
      obtain ⟨sv, h', x, a, e7⟩ := fin _ _ i6
      refine ⟨sv, h', 100, ?_, x, by simpa [gossipP, h4] using a⟩
      unfold f76
      rw [al_eq, kbld31, al_st (zs := z31) (xs := [.int .i64 n, .slice none 0 0]) sz31 rfl rfl, al_st1 (v := iv 0) sz3 rfl rfl]
      rw [lt_f (show ¬ (n : Int) < 4 by omega), ifB_false, show H.fresh (H.fresh (h.new (.row [.int .i64 0, .slice none 0 0] 31 true)) 31 z31 [.int .i64 n, .slice none 0 0]) 3 [iv 0] [iv 0] = h5 from rfl]
      refine (lp_eq e1).trans ?_
      rw [onE_exit, if_pos rfl]
      refine (kc (L := []) e2 _).trans ?_
      refine (kc (L := []) e3 _).trans ?_
      refine (kc (L := []) e4 _).trans ?_
      refine (kc (L := []) e5 _).trans ?_
      refine (lp_eq e6).trans ?_
      rw [onE_exit, if_pos rfl]
      simp only [d31, w31]
      exact e7
  obtain ⟨sv, h', k, e, x, a⟩ := hF
  exact ⟨sv, h', x76 e (by obtain ⟨x, y, z, hz⟩ := a.isSl; rw [hz]; rfl), x, a⟩

end Go.AM

end

section

/- CallsGossips, on the abstract machine. -/
namespace Go.AM
open Go.Proofs
variable {k : Nat} {R : Type}
attribute [local simp] nx_eq nx_new nx_set blk_new blk_set asI_int asK_int asB_bool asP_ptr al_eq bx_eq len_slice onE_exit onE_ret onR_ret Value.cells d3 d29 d31 d56 d24 d59 d22 d25 w3 cell_new cell_set rd_new rd_set off eq lt le ifB gv out eqF1 eqF2 eqF3 eqF4 eqF5 eqF6 eqF7 eqF8 ext20 ext21 k42 k22
theorem kbld24 (n : Int) (K : Value → Option R) : bld Try.prog 24 [(0, .int .i64 n)] K = K (.agg #[.int .i64 n, .slice none 0 0]) := bld_some (by kernel_rfl)

theorem kbld59 (a b t : Int) (K : Value → Option R) : bld Try.prog 59 [(0, .int .i64 a), (1, .int .i64 b), (2, .int .i64 t)] K = K (.agg #[.int .i64 a, .int .i64 b, .int .i64 t]) := bld_some (by kernel_rfl)

attribute [local simp] kbld24 kbld59
theorem kfld31 (a v : Value) (K : Value → Option R) : fld Try.prog 31 (.agg #[a, v]) 1 K = K v := by
  have e : field Try.prog 31 (.agg #[a, v]) 1 = some v := by kernel_rfl
  unfold fld
  rw [e]
  rfl

theorem s31_bad {n : Int} (hn : n < 1 ∨ 7 < n) (h : H) : rn 31 #[iv n] h = some (.tuple #[iv 0, iv 2], h) := by
  refine p31 (k := 0) (h1 := h) ?_ rfl (.refl _)
  simp [f31]
  grind

theorem s31 {n : Nat} (hn1 : 1 ≤ n) (hn : n ≤ 7) (h : H) : rn 31 #[iv n] h = some (.tuple #[iv (gossipP n).length, iv 0], h) := by
  obtain ⟨sv, h4, e, x4, a⟩ := s76 hn1 hn h
  have hc := fun (K : Value → H → Option (Value × H)) => calls_eq (K := K) (xs := [_]) e
  refine p31 (k := 0) (h1 := h4) ?_ rfl x4
  have h1 : (n = 0) = False := eq_false (by omega)
  have h2 : (7 < n) = False := eq_false (by omega)
  simp [f31, hc, kfld31, a.slR.len, h1, h2, show ¬ (n : Int) < 1 by omega, show ¬ (7 : Int) < n by omega]

end Go.AM

end

section

/- PLAIN: the bound, for the news of a log; calls that tell nothing. -/
namespace Go.AM
def prs (l : List Kl) : List (Nat × Nat) := l.map fun c => (c.a.toNat, c.b.toNat)

theorem run_bits {n : Int} (hn : 0 ≤ n ∧ n ≤ 7) : ∀ (l : List Kl) (L : List Int) (M : List Nat) (K : Kn), (∀ c ∈ l, okC n c = true) → NS 7 L M → (M.length : Int) = n → (∀ p q : Nat, (p : Int) < n → ((M[p]?).any fun x => x.testBit q) = K p q) →
    ∃ M', NS 7 (l.foldl hearP L) M' ∧ (M'.length : Int) = n ∧ ∀ p q : Nat, (p : Int) < n → ((M'[p]?).any fun x => x.testBit q) = gRun K (prs l) p q
  | [], _, M, _, _, h, hl, hK => ⟨M, h, hl, hK⟩
  | c :: l, L, M, K, hok, h, hl, hK => by
    obtain ⟨ha, hb, _⟩ := okC_iff.1 (hok c List.mem_cons_self)
    have hlen := h.len
    refine run_bits hn l _ _ (gStep K (c.a.toNat, c.b.toNat)) (fun d hd => hok d (List.mem_cons_of_mem _ hd)) (hearP_ns h (by omega) (by omega)) (by simp [hearN]; exact hl) fun p q hp => ?_
    rw [hearN_get M _ _ (by omega) (by omega), hK _ q (by omega), hK _ q (by omega), hK p q hp]
    rfl

theorem need_gossip : ∀ n : Fin 8, 1 ≤ n.1 → (gossipP n.1).length = gNeed n.1 := by decide +kernel

/-- A log after which all know all has as many calls as are needed. -/
theorem all_need {n : Int} {l : List Kl} (v : VP n l) (hall : allP n.toNat (newsP n.toNat l) = true) : gNeed n.toNat ≤ l.length := by
  have hn1 := v.n1
  have hn7 := v.n7
  obtain ⟨m, rfl⟩ := Int.eq_ofNat_of_zero_le (show 0 ≤ n by omega)
  obtain ⟨M, hM, hMl, hK⟩ := run_bits (n := (m : Int)) (by omega) l _ _ gOwn v.ok (ownP_ns (n := m) (by omega)) (by simp) fun p q hp => by
    have hpm : p < m := by omega
    simp only [List.getElem?_map, List.getElem?_range hpm, Option.map_some, Option.any_some, testBit_pow, gOwn]
    rfl
  have h2 := gossip_bound m (by omega) (List.range m) (prs l) List.nodup_range List.length_range
    (fun c hc => by
      unfold prs at hc
      obtain ⟨d, hd, rfl⟩ := List.mem_map.1 hc
      obtain ⟨ha, hb, hab, _⟩ := okC_iff.1 (v.ok d hd)
      simp only [List.mem_range]
      omega)
    (fun y hy q hq => by
      have hy' := List.mem_range.1 hy
      have hq' := List.mem_range.1 hq
      rw [← hK y q (by omega)]
      have hyM : y < M.length := by omega
      rw [List.getElem?_eq_getElem hyM, Option.any_some]
      have hmem : ((M[y] : Nat) : Int) ∈ newsP m l := by
        show _ ∈ l.foldl hearP (ownP m)
        rw [hM.1]
        exact List.mem_map.2 ⟨M[y], List.getElem_mem hyM, rfl⟩
      unfold allP at hall
      rw [List.all_eq_true] at hall
      have h1 := of_decide_eq_true (hall _ hmem)
      have hpw : 2 ^ m ≤ 2 ^ 7 := Nat.pow_le_pow_right (by omega) (by omega)
      have hpp : 0 < 2 ^ m := Nat.pow_pos (by omega)
      rw [Int.toNat_natCast, shl1_nat (by omega), sub64 (by omega) (by omega)] at h1
      have h3 : M[y] = 2 ^ m - 1 := by omega
      rw [h3, Nat.testBit_two_pow_sub_one]
      simpa using hq')
  rw [Int.toNat_natCast]
  have : (prs l).length = l.length := by unfold prs; simp
  omega

/-! ### Calls that tell something -/
def keptK (A : List Int) : List Kl → List Kl
  | [] => []
  | c :: l => if freshP A c = true then c :: keptK (hearP A c) l else keptK (hearP A c) l

theorem set_getD (A : List Int) (i : Nat) : A.set i (A.getD i 0) = A := by
  by_cases h : i < A.length
  · have : A.getD i 0 = A[i] := by simp [h]
    rw [this]
    exact List.set_getElem_self h
  · exact List.set_eq_of_length_le (by omega)

theorem hear_idle {A : List Int} {c : Kl} (h : freshP A c = false) : hearP A c = A := by
  unfold freshP at h
  simp only [Bool.or_eq_false_iff, Bool.not_eq_false', beq_iff_eq] at h
  unfold hearP
  simp only
  rw [← h.1, set_getD, h.1, ← h.2, set_getD]

theorem kept_news : ∀ (l : List Kl) (A : List Int), (keptK A l).foldl hearP A = l.foldl hearP A
  | [], _ => rfl
  | c :: l, A => by
    unfold keptK
    split
    · rw [List.foldl_cons, List.foldl_cons]; exact kept_news l _
    · rename_i h
      rw [hear_idle (by simpa using h), List.foldl_cons, hear_idle (by simpa using h)]
      exact kept_news l _

theorem kept_idle : ∀ (l : List Kl) (A : List Int) (i : Nat) (out : List Int), (foldI idleG (keptK A l) i (A, out)).2 = out
  | [], _, _, _ => rfl
  | c :: l, A, i, out => by
    unfold keptK
    split
    · rename_i h
      simp only [foldI, idleG, h, if_true]
      exact kept_idle l _ _ _
    · rename_i h
      rw [hear_idle (by simpa using h)]
      exact kept_idle l _ _ _

theorem kept_sub : ∀ (l : List Kl) (A : List Int), (keptK A l).Sublist l
  | [], _ => .slnil
  | c :: l, A => by
    unfold keptK
    split
    · exact (kept_sub l _).cons_cons _
    · exact (kept_sub l _).cons _

theorem kept_snoc : ∀ (l : List Kl) (A : List Int) (c : Kl), keptK A (l ++ [c]) = keptK A l ++ (if freshP (l.foldl hearP A) c = true then [c] else [])
  | [], A, c => by
    cases h : freshP A c <;> simp [keptK, h]
  | d :: l, A, c => by
    rw [List.cons_append]
    unfold keptK
    rw [kept_snoc l, List.foldl_cons]
    split <;> rfl

theorem VP.kept {n : Int} {l : List Kl} (v : VP n l) (A : List Int) : VP n (keptK A l) :=
  ⟨v.n1, v.n7, Nat.le_trans (kept_sub l A).length_le v.len, fun c hc => v.ok c ((kept_sub l A).subset hc), v.two.sublist (kept_sub l A)⟩

theorem idle_old : ∀ (l : List Kl) (A : List Int) (i : Nat) (out : List Int) (x : Int), x < i → (x ∈ (foldI idleG l i (A, out)).2 ↔ x ∈ out)
  | [], _, _, _, _, _ => Iff.rfl
  | c :: l, A, i, out, x, h => by
    simp only [foldI, idleG]
    rw [idle_old l _ (i + 1) _ x (by omega)]
    split
    · exact Iff.rfl
    · simp; intro e; omega

theorem idle_has : ∀ (l : List Kl) (A : List Int) (i : Nat) (out : List Int), (∀ x ∈ out, x < (i : Int)) → ∀ (j : Nat) (c : Kl), l[j]? = some c → (((i + j : Nat) : Int) ∈ (foldI idleG l i (A, out)).2 ↔ freshP ((l.take j).foldl hearP A) c = false)
  | [], _, _, _, _, j, c, h => by simp at h
  | d :: l, A, i, out, ho, 0, c, h => by
    obtain rfl : d = c := by simpa using h
    simp only [foldI, idleG]
    rw [idle_old l _ (i + 1) _ _ (by omega)]
    have hi : ((i + 0 : Nat) : Int) ∉ out := fun hm => by have := ho _ hm; omega
    simp only [List.take_zero, List.foldl_nil]
    by_cases hf : freshP A d = true
    · rw [if_pos hf, hf]; simp at hi; simp [hi]
    · rw [if_neg hf]; simp [hf]
  | d :: l, A, i, out, ho, j + 1, c, h => by
    simp only [foldI, idleG]
    have := idle_has l (hearP A d) (i + 1) (if freshP A d = true then out else out ++ [(i : Int)]) (fun x hx => by
      split at hx
      · have := ho x hx; omega
      · rcases List.mem_append.1 hx with hx | hx
        · have := ho x hx; omega
        · rw [List.mem_singleton.1 hx]; omega) j c (by simpa using h)
    rw [show i + (j + 1) = i + 1 + j by omega, this, List.take_succ_cons, List.foldl_cons]

end Go.AM

end

section

/- The staged forms of functions 7, and what calls of these answer. -/
namespace Go.AM
open Go.Proofs
noncomputable def f7_l1 (_rec : Rec) (_k : Nat) (h0 : H) (v4 : Value) (n7 : Int) (ws0 : List Value) (h8 : H) : Option (Ex × List Value × H) :=
  asI .i64 (gv ws0 1) fun n8 =>
  ifB (lt n8 n7) (
    asK (gv ws0 1) fun n9 =>
    six v4 n9 1 fun b0 b1 =>
    ld Try.prog h8 3 b0 b1 fun v17 =>
    asI .i64 v17 fun n10 =>
    asB (gv ws0 0) fun q1 =>
    ifB q1 (
      ld Try.prog h8 3 (nx h0) 0 fun v18 =>
      asI .i64 v18 fun n11 =>
      nn n11 (
        asI .i64 (gv ws0 1) fun n12 =>
        out .normal [(.bool (eq n10 (sub .i64 (shl .i64 1 n11) 1))), (.int .i64 (add .i64 n12 1))] h8)) (
      asI .i64 (gv ws0 1) fun n13 =>
      out .normal [(.bool false), (.int .i64 (add .i64 n13 1))] h8)) (
    out (.exit 0) [gv ws0 0, gv ws0 1] h8)

noncomputable def f7_l2 (rec : Rec) (_k : Nat) (v9 : Value) (h9 : H) (v24 : Value) (n16 : Int) (ws2 : List Value) (h13 : H) : Option (Ex × List Value × H) :=
  asI .i64 (gv ws2 0) fun n17 =>
  ifB (lt n17 n16) (
    asK (gv ws2 0) fun n18 =>
    six v24 n18 3 fun b2 b3 =>
    ld Try.prog h13 56 b2 b3 fun v25 =>
    al h13 56 [(.int .i64 0), (.int .i64 0), (.int .i64 0)] fun h14 =>
    st Try.prog h14 56 (nx h13) 0 v25 fun h15 =>
    calls rec h15 44 [v9, gv ws2 0] fun v26 h16 =>
    asB v26 fun q3 =>
    ifB (not q3) (
      ld Try.prog h16 29 (nx h9) (off 0 1) fun v27 =>
      ld Try.prog h16 56 (nx h13) 0 fun v28 =>
      bls Try.prog h16 29 1 [(0, v28)] fun v29 h17 =>
      app Try.prog h17 29 29 v27 v29 fun v30 h18 =>
      st Try.prog h18 29 (nx h9) (off 0 1) v30 fun h19 =>
      asI .i64 (gv ws2 0) fun n19 =>
      out .normal [(.int .i64 (add .i64 n19 1))] h19) (
      asI .i64 (gv ws2 0) fun n20 =>
      out .normal [(.int .i64 (add .i64 n20 1))] h16)) (
    out (.exit 2) [gv ws2 0] h13)

noncomputable def f7_l3 (rec : Rec) (_k : Nat) (v9 : Value) (h9 : H) (v47 : Value) (n26 : Int) (ws4 : List Value) (h29 : H) : Option (Ex × List Value × H) :=
  asI .i64 (gv ws4 0) fun n27 =>
  ifB (lt n27 n26) (
    asK (gv ws4 0) fun n28 =>
    six v47 n28 3 fun b4 b5 =>
    ld Try.prog h29 56 b4 b5 fun v48 =>
    al h29 56 [(.int .i64 0), (.int .i64 0), (.int .i64 0)] fun h30 =>
    st Try.prog h30 56 (nx h29) 0 v48 fun h31 =>
    calls rec h31 44 [v9, gv ws4 0] fun v49 h32 =>
    asB v49 fun q8 =>
    ifB (not q8) (
      ld Try.prog h32 29 (nx h9) (off 0 1) fun v50 =>
      ld Try.prog h32 56 (nx h29) 0 fun v51 =>
      bls Try.prog h32 29 1 [(0, v51)] fun v52 h33 =>
      app Try.prog h33 29 29 v50 v52 fun v53 h34 =>
      st Try.prog h34 29 (nx h9) (off 0 1) v53 fun h35 =>
      asI .i64 (gv ws4 0) fun n29 =>
      out .normal [(.int .i64 (add .i64 n29 1))] h35) (
      asI .i64 (gv ws4 0) fun n30 =>
      out .normal [(.int .i64 (add .i64 n30 1))] h32)) (
    out (.exit 2) [gv ws4 0] h29)

noncomputable def f7 (rec : Rec) (k : Nat) (v0 : Value) (h0 : H) : Option (Value × H) :=
  bx h0 24 v0 fun h1 =>
  ld Try.prog h1 24 (nx h0) 0 fun v1 =>
  calls rec h1 18 [v1] fun v2 h2 =>
  calls rec h2 37 [v2] fun v3 h3 =>
  ext v3 0 fun v4 =>
  ext v3 1 fun v5 =>
  asI .i64 v5 fun n0 =>
  ld Try.prog h3 24 (nx h0) 0 fun v6 =>
  calls rec h3 18 [v6] fun v7 h4 =>
  calls rec h4 39 [v7] fun v8 h5 =>
  ext v8 0 fun v9 =>
  ext v8 1 fun v10 =>
  asI .i64 v10 fun n1 =>
  ld Try.prog h5 3 (nx h0) 0 fun v11 =>
  asI .i64 v11 fun n2 =>
  calls rec h5 31 [(.int .i64 n2)] fun v12 h6 =>
  ext v12 0 fun v13 =>
  asI .i64 v13 fun n3 =>
  ext v12 1 fun v14 =>
  asI .i64 v14 fun n4 =>
  ifB (not (eq n0 0)) (
    ifB (eq n0 2) (
      ifB (eq n1 2) (
        calls rec h6 22 [] fun v15 h7 =>
        asB v15 fun q0 =>
        some ((.bool q0), h7)) (
        some ((.bool false), h6))) (
      some ((.bool false), h6))) (
    ifB (not (eq n1 0)) (
      some ((.bool false), h6)) (
      ifB (not (eq n4 0)) (
        some ((.bool false), h6)) (
        len v4 fun n5 =>
        ld Try.prog h6 3 (nx h0) 0 fun v16 =>
        asI .i64 v16 fun n6 =>
        ifB (not (eq n5 n6)) (
          some ((.bool false), h6)) (
          len v4 fun n7 =>
          lp k (f7_l1 rec k h0 v4 n7) [(.bool true), (.int .i64 0)] h6 fun e0 ws1 h9 =>
          onE e0 0 (
            asB (gv ws1 0) fun q2 =>
            ifB q2 (
              ld Try.prog h9 22 (nx h0) (off 0 1) fun v19 =>
              len v19 fun n14 =>
              ifB (lt n14 n3) (
                some ((.bool false), h9)) (
                ld Try.prog h9 3 (nx h0) 0 fun v20 =>
                asI .i64 v20 fun n15 =>
                bld Try.prog 31 [(0, (.int .i64 n15))] fun v21 =>
                al h9 31 [(.int .i64 0), (.slice none 0 0)] fun h10 =>
                st Try.prog h10 31 (nx h9) 0 v21 fun h11 =>
                ld Try.prog h11 24 (nx h0) 0 fun v22 =>
                calls rec h11 18 [v22] fun v23 h12 =>
                fld Try.prog 31 v23 1 fun v24 =>
                len v24 fun n16 =>
                lp k (f7_l2 rec k v9 h9 v24 n16) [(.int .i64 0)] h12 fun e1 _ h20 =>
                onE e1 2 (
                  ld Try.prog h20 31 (nx h9) 0 fun v31 =>
                  calls rec h20 37 [v31] fun v32 h21 =>
                  ext v32 0 fun v33 =>
                  ext v32 1 fun v34 =>
                  asI .i64 v34 fun n21 =>
                  ld Try.prog h21 31 (nx h9) 0 fun v35 =>
                  calls rec h21 39 [v35] fun v36 h22 =>
                  ext v36 0 fun v37 =>
                  ext v36 1 fun v38 =>
                  asI .i64 v38 fun n22 =>
                  ifB (eq n21 0) (
                    ifB (eq n22 0) (
                      calls rec h22 26 [v4, v33] fun v39 h23 =>
                      asB v39 fun q4 =>
                      ifB q4 (
                        len v37 fun n23 =>
                        ifB (eq n23 0) (
                          asB (gv ws1 0) fun q5 =>
                          ifB (not q5) (
                            calls rec h23 22 [] fun v40 h24 =>
                            asB v40 fun q6 =>
                            some ((.bool q6), h24)) (
                            ld Try.prog h23 29 (nx h9) (off 0 1) fun v41 =>
                            len v41 fun n24 =>
                            ifB (le n3 n24) (
                              calls rec h23 22 [] fun v42 h25 =>
                              asB v42 fun q7 =>
                              some ((.bool q7), h25)) (
                              some ((.bool false), h23)))) (
                          some ((.bool false), h23))) (
                        some ((.bool false), h23))) (
                      some ((.bool false), h22))) (
                    some ((.bool false), h22))) (
                  none))) (
              ld Try.prog h9 3 (nx h0) 0 fun v43 =>
              asI .i64 v43 fun n25 =>
              bld Try.prog 31 [(0, (.int .i64 n25))] fun v44 =>
              al h9 31 [(.int .i64 0), (.slice none 0 0)] fun h26 =>
              st Try.prog h26 31 (nx h9) 0 v44 fun h27 =>
              ld Try.prog h27 24 (nx h0) 0 fun v45 =>
              calls rec h27 18 [v45] fun v46 h28 =>
              fld Try.prog 31 v46 1 fun v47 =>
              len v47 fun n26 =>
              lp k (f7_l3 rec k v9 h9 v47 n26) [(.int .i64 0)] h28 fun e2 _ h36 =>
              onE e2 2 (
                ld Try.prog h36 31 (nx h9) 0 fun v54 =>
                calls rec h36 37 [v54] fun v55 h37 =>
                ext v55 0 fun v56 =>
                ext v55 1 fun v57 =>
                asI .i64 v57 fun n31 =>
                ld Try.prog h37 31 (nx h9) 0 fun v58 =>
                calls rec h37 39 [v58] fun v59 h38 =>
                ext v59 0 fun v60 =>
                ext v59 1 fun v61 =>
                asI .i64 v61 fun n32 =>
                ifB (eq n31 0) (
                  ifB (eq n32 0) (
                    calls rec h38 26 [v4, v56] fun v62 h39 =>
                    asB v62 fun q9 =>
                    ifB q9 (
                      len v60 fun n33 =>
                      ifB (eq n33 0) (
                        asB (gv ws1 0) fun q10 =>
                        ifB (not q10) (
                          calls rec h39 22 [] fun v63 h40 =>
                          asB v63 fun q11 =>
                          some ((.bool q11), h40)) (
                          ld Try.prog h39 29 (nx h9) (off 0 1) fun v64 =>
                          len v64 fun n34 =>
                          ifB (le n3 n34) (
                            calls rec h39 22 [] fun v65 h41 =>
                            asB v65 fun q12 =>
                            some ((.bool q12), h41)) (
                            some ((.bool false), h39)))) (
                        some ((.bool false), h39))) (
                      some ((.bool false), h39))) (
                    some ((.bool false), h38))) (
                  some ((.bool false), h38))) (
                none))) (
            none)))))

theorem e7 (rec : Rec) (k : Nat) (v0 : Value) (h : H) : bodyT Try.prog E0 SC (XC Try.prog rec k) 7 (Value × H) [.opq v0] h (fun v h => some (v, h)) = f7 rec k v0 h := by kernel_rfl

theorem t7 {k : Nat} {v0 : Value} {h h1 : H} {v : Value} (hh : f7 rn k v0 h = some (v, h1)) : rn 7 #[v0] h = some (v, trunc Try.prog h h1 v) :=
  run_of_bodyT (args := [.opq v0]) rfl ((e7 _ _ _ _).trans hh)

end Go.AM

end

section

/- CallsEnough, on the abstract machine. -/
namespace Go.AM
open Go.Proofs
variable {k : Nat} {R : Type}
theorem s80 {v : Value} {x : Int} {l : List Int} {h : H} (hs : SlR h 3 1 v (cellsI l)) : ∃ r, rn 80 #[v, iv x] h = some (iv r, h) ∧ le 0 r = decide (x ∈ l) := by
  have hlen := hs.lt62
  rw [List.length_map] at hlen
  have hn0 : ∀ {T : Type} (K : Int → Option T), len v K = K (l.length : Int) := fun K => by rw [hs.len]; simp
  have hl := lp_same (F := f80_l1 rn (l.length + 1) v x l.length) (k := l.length + 1) (l := l) (h := h) (fun i (_ : Unit) => [iv 0, iv i])
    (fun i y s => if (!decide (x = y)) = true then .inl s else .inr i) (fun _ _ => True) (fun _ => .ret) (fun i => [iv i, iv i]) 0 (fun _ => [iv 0, iv l.length]) (ws := [iv 0, iv 0]) (s0 := ()) rfl trivial (by omega) (by simp)
    (fun _ _ => by
      unfold f80_l1
      rw [show gv [iv 0, iv (l.length : Int)] 1 = iv (l.length : Int) from rfl, asI_int, lt_f (by omega), ifB_false]
      rfl)
    (by
      intro i c _ hc _
      have hi := (List.getElem?_eq_some_iff.1 hc).1
      refine ⟨fun _ _ => trivial, ?_⟩
      unfold f80_l1
      rw [show gv [iv 0, iv i] 1 = iv i from rfl, asI_int, lt_t (by omega), ifB_true, asK_int]
      simp only [d3]
      rw [hs.c0 (by omega) (x := [iv c]) (by simp [hc]) rfl, asI_int, asI_int, add64 (by omega) (by omega)]
      by_cases hpc : x = c
      · rw [eq_t hpc, ifB_true]; simp [hpc, out, rnd, gv]
      · rw [eq_f hpc, ifB_false]; simp [hpc, out, rnd, gv])
  rcases itL_all (ok := fun _ y => !decide (x = y)) (g := fun i _ => i) (s0 := ()) l 0 with ⟨⟨r, h1⟩, j, y, hy, h2⟩ | ⟨h1, h2⟩
  · rw [h1] at hl
    refine ⟨r, p80 (k := l.length + 1) ?_ rfl (.refl _), ?_⟩
    · unfold f80
      rw [hn0, lp_eq hl]
      rfl
    · rw [le_t (by omega)]
      symm
      have : x = y := by simpa using h2
      rw [decide_eq_true_eq, this]
      exact List.mem_of_getElem? hy
  · rw [h1] at hl
    refine ⟨-1, p80 (k := l.length + 1) ?_ rfl (.refl _), ?_⟩
    · unfold f80
      rw [hn0, lp_eq hl.1]
      rfl
    · symm
      show _ = false
      rw [decide_eq_false_iff_not]
      intro hx
      obtain ⟨j, hj, rfl⟩ := List.getElem_of_mem hx
      have := h2 j _ (List.getElem?_eq_getElem hj)
      simp at this

theorem s44 {v : Value} {x : Int} {l : List Int} {h : H} (hs : SlR h 3 1 v (cellsI l)) : rn 44 #[v, iv x] h = some (.bool (decide (x ∈ l)), h) := by
  obtain ⟨r, e, hr⟩ := s80 (x := x) hs
  refine p44 (k := 0) ?_ rfl (.refl _)
  unfold f44
  rw [calls_eq (xs := [_, _]) e, asI_int, hr]

theorem l7_same : f7_l3 = f7_l2 := by kernel_rfl

/-- All have all news. -/
theorem l71 {h0 g : H} {m : Nat} {sl v : Value} {N : List Int} (hb : g.blk h0.nx = some (.row [iv m, sl] 24 true)) (hs : SlR g 3 1 v (cellsI N)) (hN : N.length < 30) :
    ∃ w, lpGo (f7_l1 rn 40 h0 v N.length) 40 [.bool true, iv 0] g = some (.exit 0, w, g) ∧ gv w 0 = .bool (allP m N) := by
  obtain ⟨e, w, g', hl, rfl, rfl, hw⟩ := lp_range (F := f7_l1 rn 40 h0 v N.length) (k := 40) (n := N.length)
    (fun i ws h => ws = [.bool (allP m (N.take i)), iv (i : Int)] ∧ h = g) (fun e ws h => e = .exit 0 ∧ h = g ∧ gv ws 0 = .bool (allP m N))
    (by
      rintro i ws h hi ⟨rfl, rfl⟩
      obtain ⟨x, hx⟩ : ∃ x, N[i]? = some x := ⟨_, List.getElem?_eq_getElem hi⟩
      have hadd : add .i64 (i : Int) 1 = ((i + 1 : Nat) : Int) := by rw [add64 (by omega) (by omega)]; omega
      have hall : allP m (N.take (i + 1)) = (allP m (N.take i) && eq x (sub .i64 (shl .i64 1 m) 1)) := by
        unfold allP
        rw [List.take_add_one, hx, List.all_append]
        simp [eq, Bool.beq_eq_decide_eq]
      refine ⟨.normal, [.bool (allP m (N.take (i + 1))), iv ((i + 1 : Nat) : Int)], h, ?_, .inl ⟨rfl, rfl, rfl⟩⟩
      unfold f7_l1
      rw [show ∀ q : Bool, gv [.bool q, iv (i : Int)] 1 = iv (i : Int) from fun _ => rfl, show ∀ q : Bool, gv [.bool q, iv (i : Int)] 0 = .bool q from fun _ => rfl, asI_int, lt_t (by omega), ifB_true, asK_int]
      simp only [d3]
      rw [hs.c0 (by omega) (x := [iv x]) (by simp [hx]) rfl, asI_int, asB_bool, asI_int, nx_eq, cell_of hb, List.getElem?_cons_zero, Option.bind_some, asI_int, nn_ge (by omega), hadd, hall]
      cases allP m (N.take i)
      · rfl
      · rw [ifB_true, asI_int, hadd]; rfl)
    (by
      rintro ws h ⟨rfl, rfl⟩
      refine ⟨.exit 0, [.bool (allP m (N.take N.length)), iv (N.length : Int)], h, ?_, by simp, rfl, rfl, by rw [List.take_length]; rfl⟩
      unfold f7_l1
      rw [show ∀ q : Bool, gv [.bool q, iv (N.length : Int)] 1 = iv (N.length : Int) from fun _ => rfl, asI_int, lt_f (by omega), ifB_false]
      rfl)
    (ws := [.bool true, iv 0]) (h := g) (by omega) ⟨by simp [allP], rfl⟩
  exact ⟨w, hl, hw⟩

theorem SlR.keepT {h h' : H} {e : TypeId} {s : Nat} {v : Value} {l : List (List Value)} (a : SlR h e s v l) (hn : h.nx ≤ h'.nx) (hb : ∀ b cs o, b < h.nx → h.blk b = some (.row cs e o) → h'.blk b = h.blk b) : SlR h' e s v l := by
  cases a with
  | nil => exact .nil
  | at_ h1 h2 h3 h4 h5 h6 => exact .at_ (Nat.lt_of_lt_of_le h1 hn) ((hb _ _ _ h1 h2).trans h2) h3 h4 h5 h6

/-- The calls that are kept. -/
theorem l72 {h9 h12 : H} {n : Int} {v9 sl : Value} {l : List Kl} {m : Nat} (hlt : h9.nx < h12.nx) (hb : h12.blk h9.nx = some (.row [iv n, .slice none 0 0] 31 true)) (hi : SlR h12 3 1 v9 (cellsI (idleP m l))) (hs : SlR h12 56 3 sl (l.map Kl.cells)) (hl24 : l.length ≤ 24) :
    ∃ w g sv, lpGo (f7_l2 rn 40 v9 h9 sl l.length) 40 [iv 0] h12 = some (.exit 2, w, g) ∧ h12.nx ≤ g.nx ∧ (∀ b, b < h12.nx → b ≠ h9.nx → g.blk b = h12.blk b) ∧ g.blk h9.nx = some (.row [iv n, sv] 31 true) ∧ SlR g 56 3 sv ((keptK (ownP m) l).map Kl.cells) := by
  obtain ⟨ws', g', hl, hn, hk, hb', sv, hsv, hap, rfl⟩ := lp_for (F := f7_l2 rn 40 v9 h9 sl l.length) (k := 40) (l := l) (fun _ _ (_ : Unit) => ())
    (fun i _ ws g => h12.nx ≤ g.nx ∧ (∀ b, b < h12.nx → b ≠ h9.nx → g.blk b = h12.blk b) ∧ True ∧ ∃ sv, g.blk h9.nx = some (.row [iv n, sv] 31 true) ∧ AqR h12.nx g 56 3 sv ((keptK (ownP m) (l.take i)).map Kl.cells) ∧ ws = [iv i]) 2 (ws := [iv 0]) (h := h12) (s0 := ())
    ⟨Nat.le_refl _, fun _ _ _ => rfl, trivial, _, hb, .nil, rfl⟩ (by omega)
    (by
      rintro _ ws g ⟨_, _, _, sv, _, _, rfl⟩
      unfold f7_l2
      rw [show gv [iv (l.length : Int)] 0 = iv (l.length : Int) from rfl, asI_int, lt_f (by omega), ifB_false]
      rfl)
    (by
      rintro i c _ ws g hc ⟨hn, hk, _, sv, hg2, hap, rfl⟩
      have hil := (List.getElem?_eq_some_iff.1 hc).1
      have kt : ∀ (e : TypeId), e ≠ 31 → ∀ b cs o, b < h12.nx → h12.blk b = some (.row cs e o) → g.blk b = h12.blk b := fun e he b cs o hbl hr => hk b hbl fun e' => by
        rw [e', hb] at hr
        simp at hr
        exact he hr.2.1.symm
      have hs' := hs.keepT hn (kt 56 (by decide))
      have hi' := hi.keepT hn (kt 3 (by decide))
      have y7 := (Ext.refl g).fresh 56 [iv 0, iv 0, iv 0] c.cells
      have hcb := blk_fresh g 56 [iv 0, iv 0, iv 0] c.cells
      have n7 : (g.fresh 56 [iv 0, iv 0, iv 0] c.cells).nx = g.nx + 1 := rfl
      have hadd : add .i64 (i : Int) 1 = (i : Int) + 1 := add64 (by omega) (by omega)
      have hmem : (((i : Nat) : Int) ∈ idleP m l ↔ freshP ((l.take i).foldl hearP (ownP m)) c = false) := by
        have := idle_has l (ownP m) 0 [] (by simp) i c hc
        rw [Nat.zero_add] at this
        exact this
      have hsnoc : keptK (ownP m) (l.take (i + 1)) = keptK (ownP m) (l.take i) ++ (if freshP ((l.take i).foldl hearP (ownP m)) c = true then [c] else []) := by
        rw [List.take_add_one, hc]
        exact kept_snoc _ _ _
      unfold f7_l2
      rw [show gv [iv i] 0 = iv i from rfl, asI_int, lt_t (by omega), ifB_true, asK_int, hs'.ldA ag56 sz56 (by omega) (x := c.cells) (by simp [hc])]
      rw [al_st (zs := [iv 0, iv 0, iv 0]) (xs := c.cells) sz56 rfl rfl, calls_eq (xs := [_, _]) (s44 (hi'.ext y7)), asB_bool]
      have hlt9 : h9.nx < g.nx := by omega
      have g2 := (y7.blk h9.nx (by omega)).trans hg2
      have a7 := hap.ext y7
      generalize g.fresh 56 [iv 0, iv 0, iv 0] c.cells = h7 at *
      have k7 : ∀ b, b < h12.nx → b ≠ h9.nx → h7.blk b = h12.blk b := fun b hbl hne => (y7.blk b (by omega)).trans (hk b hbl hne)
      by_cases hf : freshP ((l.take i).foldl hearP (ownP m)) c = true
      · have hnm : ¬ ((i : Nat) : Int) ∈ idleP m l := fun hm => by rw [hmem.1 hm] at hf; cases hf
        rw [decide_eq_false hnm, Bool.not_false, ifB_true]
        rw [hf, if_pos rfl] at hsnoc
        have hkl : (keptK (ownP m) (l.take i)).length ≤ 24 := by
          have := (kept_sub (l.take i) (ownP m)).length_le
          rw [List.length_take] at this
          omega
        obtain ⟨v', h8, e9, a9, n9, k9, b9, hb9, hb9'⟩ := a7.push app29 app29 (bls29 c) rfl rfl (by rw [List.length_map]; omega) (by omega)
        have nosv : ∀ b, b < h12.nx → AM.blkOf sv ≠ some b := fun b hbl e => by have := (a7.blkOf e).1; omega
        have g2' := (k9 h9.nx (by omega) (nosv _ hlt)).trans g2
        have hst : wrc 1 h8 h9.nx 1 v' = some (h8.set h9.nx (.row [iv n, v'] 31 true)) := by rw [wrc_one g2' a9.cells.1 a9.cells.2 (by simp)]; rfl
        refine ⟨[iv ((i : Int) + 1)], h8.set h9.nx (.row [iv n, v'] 31 true), ?_, by rw [nx_set]; omega, fun b hbl hne => ?_, trivial, v', blk_set_self _ _ _, ?_, rfl⟩
        · rw [d29, nx_eq, nx_eq, cell_of g2, show ([iv n, sv] : List Value)[off 0 1]? = some sv from rfl, Option.bind_some, d56, rd_all (n := 3) hcb rfl, Option.bind_some, show c.cells.toArray = #[.int .i64 c.a, .int .i64 c.b, .int .i64 c.t] from rfl, e9, w29, show off 0 1 = 1 from rfl, hst, Option.bind_some, asI_int, hadd]
          rfl
        · rw [blk_set_ne _ _ _ hne, k9 b (by omega) (nosv b hbl)]
          exact k7 b hbl hne
        · rw [hsnoc, List.map_append]
          refine AqR.keep (h := h8) (by simpa using a9) (by rw [nx_set]; omega) fun b hb => blk_set_ne _ _ _ ?_
          rw [hb9] at hb; cases hb; omega
      · have hm : ((i : Nat) : Int) ∈ idleP m l := hmem.2 (by simpa using hf)
        rw [decide_eq_true hm, Bool.not_true, ifB_false]
        rw [if_neg hf, List.append_nil] at hsnoc
        refine ⟨[iv ((i : Int) + 1)], h7, ?_, by omega, k7, trivial, sv, g2, by rw [hsnoc]; exact a7, rfl⟩
        rw [asI_int, hadd]
        rfl)
  rw [List.take_length] at hap
  exact ⟨_, g', sv, hl, hn, hk, hsv, hap.slR⟩

theorem s7 {n : Int} {sl : Value} {l : List Kl} {h : H} (hs : SlR h 59 3 sl (l.map Kl.cells)) : ∃ h', rn 7 #[.agg #[iv n, sl]] h = some (.bool true, h') := by
  have x1 : Ext h (h.new (.row [iv n, sl] 24 true)) := .new _ _
  have b1 : (h.new (.row [iv n, sl] 24 true)).blk h.nx = some (.row [iv n, sl] 24 true) := blk_new_self _ _
  have n1 : h.nx < (h.new (.row [iv n, sl] 24 true)).nx := Nat.lt_succ_self _
  have start : ∃ h1, f7 rn 40 (.agg #[iv n, sl]) h = some (.bool true, h1) := by
    unfold f7
    rw [bx_eq, nx_eq, show (Value.agg #[iv n, sl]).cells.toList = [iv n, sl] from rfl]
    generalize h.new (.row [iv n, sl] 24 true) = h1 at *
    have ld1 : ∀ (g : H), Ext h1 g → ∀ (K : Value → Option (Value × H)), ld Try.prog g 24 h.nx 0 K = K (.agg #[iv n, sl]) := fun g x K => by
      rw [d24, rd_all (n := 2) ((x.blk _ n1).trans b1) rfl]; rfl
    have ldn : ∀ (g : H), Ext h1 g → ∀ (K : Value → Option (Value × H)), ld Try.prog g 3 h.nx 0 K = K (iv n) := fun g x K => by
      rw [d3, cell_of ((x.blk _ n1).trans b1)]; rfl
    have ldc : ∀ (g : H), Ext h1 g → ∀ (K : Value → Option (Value × H)), ld Try.prog g 22 h.nx (off 0 1) K = K sl := fun g x K => by
      rw [d22, cell_of ((x.blk _ n1).trans b1)]; rfl
    obtain ⟨la, h2, e2, x2, s2⟩ := s18 (n := n) (hs.ext x1)
    rw [ld1 _ (.refl _), calls_eq (xs := [_]) e2]
    cases hv : validP n l with
    | false =>
      have hv' : validP n (l.take 26) = false := by rw [validP_take]; exact hv
      obtain ⟨h3, e3, x3⟩ := s37_bad s2 hv'
      rw [calls_eq (xs := [_]) e3, ext20, ext21, asI_int]
      have x13 := x2.trans x3
      rw [ld1 _ x13]
      obtain ⟨lb, h4, e4, x4, s4⟩ := s18 (n := n) (hs.ext (x1.trans x13))
      rw [calls_eq (xs := [_]) e4]
      obtain ⟨h5, e5, x5⟩ := s39_bad s4 hv'
      have x15 := (x13.trans x4).trans x5
      rw [calls_eq (xs := [_]) e5, ext20, ext21, asI_int, ldn _ x15, asI_int]
      have f31 : ∃ z e : Int, rn 31 #[iv n] h5 = some (.tuple #[iv z, iv e], h5) := by
        by_cases hn : n < 1 ∨ 7 < n
        · exact ⟨_, _, s31_bad hn h5⟩
        · obtain ⟨m, rfl⟩ := Int.eq_ofNat_of_zero_le (show 0 ≤ n by omega)
          exact ⟨_, _, s31 (by omega) (by omega) h5⟩
      obtain ⟨z, e, e31⟩ := f31
      rw [calls_eq (xs := [_]) e31, ext20, asI_int, ext21, asI_int, eq_f (by omega), Bool.not_false, ifB_true, eq_t rfl, ifB_true, ifB_true, k22]
      exact ⟨_, by rw [asB_bool]⟩
    | true =>
      have v := vp_iff.1 hv
      have hn1 := v.n1
      have hn7 := v.n7
      have hl24 := v.len
      have hl : l.take 26 = l := List.take_of_length_le (by omega)
      rw [hl] at s2
      obtain ⟨m, rfl⟩ := Int.eq_ofNat_of_zero_le (show 0 ≤ n by omega)
      obtain ⟨va, h3, e3, x3, sa⟩ := s37 s2 hv
      rw [calls_eq (xs := [_]) e3, ext20, ext21, asI_int]
      have x13 := x2.trans x3
      rw [ld1 _ x13]
      obtain ⟨lb, h4, e4, x4, s4⟩ := s18 (n := (m : Int)) (hs.ext (x1.trans x13))
      rw [hl] at s4
      rw [calls_eq (xs := [_]) e4]
      obtain ⟨vi, h5, e5, x5, si⟩ := s39 s4 hv
      have x15 := (x13.trans x4).trans x5
      rw [calls_eq (xs := [_]) e5, ext20, ext21, asI_int, ldn _ x15, asI_int]
      have e31 := s31 (n := m) (by omega) (by omega) h5
      have hgn : ((gossipP m).length : Int) = (gNeed m : Int) := by
        have := need_gossip ⟨m, by omega⟩ (by simp; omega)
        exact congrArg _ this
      rw [calls_eq (xs := [_]) e31, ext20, asI_int, ext21, asI_int, eq_t rfl, Bool.not_true, ifB_false, ifB_false, ifB_false, hgn]
      have sa5 := sa.ext (x4.trans x5)
      have lva : ∀ {T : Type} (K : Int → Option T), len va K = K (m : Int) := fun K => by rw [sa5.len]; simp [newsP_len]
      have hNl : (newsP (m : Int).toNat l).length = m := by rw [newsP_len]; omega
      obtain ⟨w, hlp, hw0⟩ := l71 (h0 := h) (m := m) (N := newsP (m : Int).toNat l) ((x15.blk _ n1).trans b1) sa5 (by omega)
      rw [hNl] at hlp
      rw [lva, ldn _ x15, asI_int, eq_t rfl, Bool.not_true, ifB_false, lva, lp_eq hlp, onE_exit, if_pos rfl, hw0, asB_bool]
      -- the log without its idle calls
      have y9 : Ext h5 (h5.fresh 31 [.int .i64 0, .slice none 0 0] [iv m, .slice none 0 0]) := (Ext.refl _).fresh _ _ _
      have b9 := blk_fresh h5 31 [.int .i64 0, .slice none 0 0] [iv m, .slice none 0 0]
      have n9 : (h5.fresh 31 [.int .i64 0, .slice none 0 0] [iv m, .slice none 0 0]).nx = h5.nx + 1 := rfl
      have tail : ∀ (q : Bool), q = allP m (newsP (m : Int).toNat l) → ∃ h', (ld Try.prog h5 3 h.nx 0 fun v43 =>
              asI .i64 v43 fun n25 =>
              bld Try.prog 31 [(0, (.int .i64 n25))] fun v44 =>
              al h5 31 [(.int .i64 0), (.slice none 0 0)] fun h26 =>
              st Try.prog h26 31 (nx h5) 0 v44 fun h27 =>
              ld Try.prog h27 24 h.nx 0 fun v45 =>
              calls rn h27 18 [v45] fun v46 h28 =>
              fld Try.prog 31 v46 1 fun v47 =>
              len v47 fun n26 =>
              lp 40 (f7_l2 rn 40 vi h5 v47 n26) [(.int .i64 0)] h28 fun e2 ws5 h36 =>
              onE e2 2 (
                ld Try.prog h36 31 (nx h5) 0 fun v54 =>
                calls rn h36 37 [v54] fun v55 h37 =>
                ext v55 0 fun v56 =>
                ext v55 1 fun v57 =>
                asI .i64 v57 fun n31 =>
                ld Try.prog h37 31 (nx h5) 0 fun v58 =>
                calls rn h37 39 [v58] fun v59 h38 =>
                ext v59 0 fun v60 =>
                ext v59 1 fun v61 =>
                asI .i64 v61 fun n32 =>
                ifB (eq n31 0) (
                  ifB (eq n32 0) (
                    calls rn h38 26 [va, v56] fun v62 h39 =>
                    asB v62 fun q9 =>
                    ifB q9 (
                      len v60 fun n33 =>
                      ifB (eq n33 0) (
                        asB (.bool q) fun q10 =>
                        ifB (not q10) (
                          calls rn h39 22 [] fun v63 h40 =>
                          asB v63 fun q11 =>
                          some ((.bool q11), h40)) (
                          ld Try.prog h39 29 (nx h5) (off 0 1) fun v64 =>
                          len v64 fun n34 =>
                          ifB (le (gNeed m : Int) n34) (
                            calls rn h39 22 [] fun v65 h41 =>
                            asB v65 fun q12 =>
                            some ((.bool q12), h41)) (
                            some ((.bool false), h39)))) (
                        some ((.bool false), h39))) (
                      some ((.bool false), h39))) (
                    some ((.bool false), h38))) (
                  some ((.bool false), h38))) (
                none) : Option (Value × H)) = some (.bool true, h') := by
        intro q hq
        rw [ldn _ x15, asI_int, kbld31, al_st (zs := [.int .i64 0, .slice none 0 0]) (xs := [iv m, .slice none 0 0]) sz31 rfl rfl]
        generalize h5.fresh 31 [.int .i64 0, .slice none 0 0] [iv m, .slice none 0 0] = h11 at *
        have x111 := x15.trans y9
        obtain ⟨lc, h12, e12, x12, s12⟩ := s18 (n := (m : Int)) (hs.ext (x1.trans x111))
        rw [hl] at s12
        have lln : ∀ {T : Type} (K : Int → Option T), len lc K = K (l.length : Int) := fun K => by rw [s12.len]; simp
        have hlt : h5.nx < h12.nx := Nat.lt_of_lt_of_le (by omega) x12.nx
        have b12 := (x12.blk h5.nx (by omega)).trans b9
        have yy : Ext h5 h12 := y9.trans x12
        obtain ⟨w2, g, sv, hl2, hgn2, hgk, hg2, hsg⟩ := l72 (m := (m : Int).toNat) hlt b12 (si.ext yy) s12 hl24
        rw [ld1 _ x111, calls_eq (xs := [_]) e12, kfld31, lln, lp_eq hl2, onE_exit, if_pos rfl]
        have ldg : ∀ (g' : H), Ext g g' → ∀ (K : Value → Option (Value × H)), ld Try.prog g' 31 (nx h5) 0 K = K (.agg #[iv m, sv]) := fun g' x K => by
          rw [d31, nx_eq, rd_all (n := 2) ((x.blk _ (by omega)).trans hg2) rfl]; rfl
        have vk := v.kept (ownP (m : Int).toNat)
        have hvk := vp_iff.2 vk
        obtain ⟨vb, h21, e21, x21, sb⟩ := s37 hsg hvk
        obtain ⟨vj, h22, e22, x22, sj⟩ := s39 (hsg.ext x21) hvk
        rw [ldg _ (.refl _), calls_eq (xs := [_]) e21, ext20, ext21, asI_int, ldg _ x21, calls_eq (xs := [_]) e22, ext20, ext21, asI_int, eq_t rfl, ifB_true, ifB_true]
        have hnews : newsP (m : Int).toNat (keptK (ownP (m : Int).toNat) l) = newsP (m : Int).toNat l := kept_news _ _
        have hidle : idleP (m : Int).toNat (keptK (ownP (m : Int).toNat) l) = [] := kept_idle _ _ _ _
        rw [hnews] at sb
        rw [hidle] at sj
        have kt : ∀ b cs o, b < h12.nx → h12.blk b = some (.row cs 3 o) → g.blk b = h12.blk b := fun b cs o hbl hr => hgk b hbl fun e' => by
          rw [e', b12] at hr
          simp at hr
        have sag := ((sa5.ext yy).keepT hgn2 kt).ext (x21.trans x22)
        have lvj : ∀ {T : Type} (K : Int → Option T), len vj K = K 0 := fun K => by rw [sj.len]; rfl
        rw [k26 sag (sb.ext x22), decide_eq_true rfl, asB_bool, ifB_true, lvj, eq_t rfl, ifB_true, asB_bool]
        cases q with
        | false => exact ⟨_, by rw [Bool.not_false, ifB_true, k22, asB_bool]⟩
        | true =>
          have hneed := all_need vk (by rw [hnews]; exact hq.symm)
          rw [Int.toNat_natCast] at hneed
          have hg22 := ((x21.trans x22).blk h5.nx (by omega)).trans hg2
          have lsv : ∀ {T : Type} (K : Int → Option T), len sv K = K ((keptK (ownP (m : Int).toNat) l).length : Int) := fun K => by rw [hsg.len]; simp
          rw [Bool.not_true, ifB_false, d29, nx_eq, cell_of hg22, show ([iv (m : Int), sv] : List Value)[off 0 1]? = some sv from rfl, Option.bind_some, lsv, show le (gNeed m : Int) ((keptK (ownP (m : Int).toNat) l).length : Int) = true by rw [Int.toNat_natCast]; simp [le]; exact hneed, ifB_true, k22]
          exact ⟨_, by rw [asB_bool]⟩
      cases hq : allP m (newsP (m : Int).toNat l) with
      | false =>
        rw [ifB_false, l7_same]
        exact tail false hq.symm
      | true =>
        have hneed := all_need v hq
        rw [Int.toNat_natCast] at hneed
        have lsl : ∀ {T : Type} (K : Int → Option T), len sl K = K (l.length : Int) := fun K => by rw [hs.len]; simp
        rw [ifB_true, ldc _ x15, lsl, lt_f (by omega), ifB_false]
        exact tail true hq.symm
  obtain ⟨h1, e⟩ := start
  exact ⟨_, t7 e⟩

end Go.AM

end

section

/- The logs that a statement is handed, in the abstract heap. -/
namespace Go.AM
open Go.Proofs Go.ChangeShapes
variable {HH : Type} {enc : TypeId × Value → HH} {w : World} {base : Nat} {held : Bool}
noncomputable def fields59 : Array Field := match Try.prog.underlying 59 with
  | some (.struct fs) => fs
  | _ => #[]

theorem under59 : Try.prog.underlying 59 = some (.struct fields59) := by kernel_rfl

theorem fields59_types : fields59.toList.map (fun f => (f.type, f.offset)) = [(3, 0), (3, 1), (3, 2)] := by kernel_rfl

theorem cellsOf3 : Try.prog.cellsOf 3 = 1 := by kernel_rfl

theorem cellsOf59 : Try.prog.cellsOf 59 = 3 := by kernel_rfl

theorem flat59 (n : Nat) (cs : List Value) (x : DataW HH × List MemPlace) (h : DataW.trod enc Try.prog w base (fun _ => true) held n 59 cs = some x) : ∃ c : Kl, cs = c.cells := by
  obtain ⟨a, b, t, e⟩ := trod_three under59 fields59_types (show Try.prog.underlying 3 = some (.int .i64) from by kernel_rfl) cellsOf3 cellsOf59 h
  exact ⟨⟨a, b, t⟩, e⟩

/-- Rows that are cells of calls are the cells of a list of calls. -/
theorem calls_of : ∀ (l : List (List Value)), (∀ x ∈ l, ∃ c : Kl, x = c.cells) → ∃ l' : List Kl, l = l'.map Kl.cells := by
  intro l
  induction l with
  | nil => intro _; exact ⟨[], rfl⟩
  | cons x l ih =>
    intro h
    obtain ⟨c, hc⟩ := h x (by simp)
    obtain ⟨l', hl⟩ := ih (fun y hy => h y (List.mem_cons_of_mem _ hy))
    exact ⟨c :: l', by rw [hc, hl]; rfl⟩

noncomputable def fields24 : Array Field := match Try.prog.underlying 24 with
  | some (.struct fs) => fs
  | _ => #[]

noncomputable def field24 (i : Nat) : Field := fields24[i]!

theorem under24s : Try.prog.underlying 24 = some (.struct fields24) := by kernel_rfl

theorem fields24_eq : fields24 = #[field24 0, field24 1] := by kernel_rfl

theorem field24_0 : ((field24 0).type, (field24 0).offset) = (3, 0) := by kernel_rfl

theorem field24_1 : ((field24 1).type, (field24 1).offset) = (22, 1) := by kernel_rfl

theorem under3 : Try.prog.underlying 3 = some (.int .i64) := by kernel_rfl

theorem under22L : Try.prog.underlying 22 = some (.slice 59) := by kernel_rfl

theorem cellsOf24 : Try.prog.cellsOf 24 = 2 := by kernel_rfl

theorem cellsOf22 : Try.prog.cellsOf 22 = 1 := by kernel_rfl

theorem bytes59 : Try.prog.bytesOf 59 = 24 := by kernel_rfl

theorem types24 : Try.prog.cellTypes Try.prog.depth 24 = some [3, 22] := by kernel_rfl

set_option maxRecDepth 100000 in
/-- A log that came in. -/
theorem open_log {rr : Reach} {b0 : Nat} {v : Value} {d : DataW HH} {ps : List MemPlace} (hv : Value.okWide Try.prog w rr b0 24 v) (hwt : ∀ x ∈ d.weights Try.prog 24, x ≤ reachBytes)
    (hd : DataW.Trod enc Try.prog w base (fun _ => true) held 24 v d ps) {ι : Nat → Emb} {h : H} (r : Rel Try.prog E0 ι h w) (hro : ∀ b k, h.blk b = some k → k.own = false) :
    ∃ (n : Int) (sl sl0 : Value) (ι' : Nat → Emb) (h' : H) (l : List Kl), v = .agg #[iv n, sl] ∧ (Lit.int .i64 n).wf = true ∧ Rel Try.prog E0 ι' h' w ∧ (∀ b k, h'.blk b = some k → k.own = false) ∧ Ext h h' ∧ (∀ b, b < h.nx → ι' b = ι b) ∧
      VR ι' h'.nx sl0 sl ∧ SlR h' 59 3 sl0 (l.map Kl.cells) := by
  obtain ⟨n, a, len, cap, d1, p1, rfl, hn, hw1, hhas, hd1⟩ := open_numslice under24s fields24_eq (Prod.mk.inj field24_0) (Prod.mk.inj field24_1) under3 under22L cellsOf24 cellsOf3 cellsOf22 types24 hv hwt hd
  obtain ⟨ι', h', v0, l, g1, g2, g3, g4, g5, g6, g7⟩ := open_flat r hro under22L sz59 cellsOf59 (by decide) (Q := fun x => ∃ c : Kl, x = c.cells) flat59 (by
    rintro cs ⟨c, rfl⟩
    exact ⟨rfl, fun v hv => by simp [Kl.cells] at hv; rcases hv with rfl | rfl | rfl <;> exact ⟨_, _, rfl⟩⟩) (by rw [bytes59]; exact Nat.succ_pos _) hw1 hhas hd1
  obtain ⟨l', rfl⟩ := calls_of l g7
  exact ⟨n, _, v0, ι', h', l', rfl, hn, g1, g2, g3, g4, g5, g6⟩

end Go.AM

end
