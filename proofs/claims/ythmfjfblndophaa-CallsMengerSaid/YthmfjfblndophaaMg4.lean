/- Parts of the proof, put together: what the functions of the program answer, and plain laws. -/
import Derived.Test.YthmfjfblndophaaAmRun
import Derived.Test.YthmfjfblndophaaMg3

section

/- PLAIN: gossip needs 2n - 4 calls (shown for at most 7 people). -/
namespace Go.AM
/-! ### Who knows what, and who still can tell -/
abbrev Kn := Nat → Nat → Bool

def gStep (K : Kn) (c : Nat × Nat) : Kn := fun p q => if p = c.1 ∨ p = c.2 then K c.1 q || K c.2 q else K p q

def gRun (K : Kn) (l : List (Nat × Nat)) : Kn := l.foldl gStep K

def gOwn : Kn := fun p q => p == q

def gBack (x : Nat) : List (Nat × Nat) → Nat → Bool
  | [], p => p == x
  | c :: l, p => gBack x l p || ((p == c.1 || p == c.2) && (gBack x l c.1 || gBack x l c.2))

theorem gRun_snoc (K : Kn) (l : List (Nat × Nat)) (c : Nat × Nat) : gRun K (l ++ [c]) = gStep (gRun K l) c := by unfold gRun; rw [List.foldl_append]; rfl

theorem gRun_app (K : Kn) (l m : List (Nat × Nat)) : gRun K (l ++ m) = gRun (gRun K l) m := by unfold gRun; rw [List.foldl_append]

theorem gRun_iff (x q : Nat) : ∀ (l : List (Nat × Nat)) (K : Kn), gRun K l x q = true ↔ ∃ p, gBack x l p = true ∧ K p q = true
  | [], K => by
    constructor
    · intro h; exact ⟨x, by simp [gBack], h⟩
    · rintro ⟨p, h1, h2⟩
      have : p = x := by simpa [gBack] using h1
      rw [this] at h2; exact h2
  | c :: l, K => by
    rw [show gRun K (c :: l) = gRun (gStep K c) l from rfl, gRun_iff x q l]
    constructor
    · rintro ⟨p, h1, h2⟩
      by_cases hp : p = c.1 ∨ p = c.2
      · have hb : (gBack x l c.1 || gBack x l c.2) = true := by rcases hp with rfl | rfl <;> simp [h1]
        have h3 : K c.1 q = true ∨ K c.2 q = true := by simpa [gStep, hp] using h2
        rcases h3 with h3 | h3
        · exact ⟨c.1, by unfold gBack; rw [hb]; simp, h3⟩
        · exact ⟨c.2, by unfold gBack; rw [hb]; simp, h3⟩
      · exact ⟨p, by simp [gBack, h1], by simpa [gStep, hp] using h2⟩
    · rintro ⟨p, h1, h2⟩
      simp only [gBack, Bool.or_eq_true, Bool.and_eq_true, beq_iff_eq] at h1
      rcases h1 with h1 | ⟨h1, h3⟩
      · refine ⟨p, h1, ?_⟩
        by_cases hp : p = c.1 ∨ p = c.2
        · simp only [gStep, hp, if_true]
          rcases hp with rfl | rfl <;> simp [h2]
        · simp [gStep, hp, h2]
      · have h4 : (K c.1 q || K c.2 q) = true := by rcases h1 with rfl | rfl <;> simp [h2]
        rcases h3 with h3 | h3
        · exact ⟨c.1, h3, by simpa [gStep] using h4⟩
        · exact ⟨c.2, h3, by simpa [gStep] using h4⟩

/-! ### A person is left out -/
/-- All but x know at least as much, and r what x knows too. -/
def GSub (x r : Nat) (K K' : Kn) : Prop := (∀ y q, y ≠ x → q ≠ x → K y q = true → K' y q = true) ∧ ∀ q, q ≠ x → K x q = true → K' r q = true

/-- Calls among others. -/
def GOk (S : List Nat) (x : Nat) (l : List (Nat × Nat)) : Prop := ∀ c ∈ l, (c.1 ∈ S ∧ c.1 ≠ x) ∧ (c.2 ∈ S ∧ c.2 ≠ x) ∧ c.1 ≠ c.2

def GIn (S : List Nat) (l : List (Nat × Nat)) : Prop := ∀ c ∈ l, c.1 ∈ S ∧ c.2 ∈ S ∧ c.1 ≠ c.2

theorem GOk.app {S : List Nat} {x : Nat} {l m : List (Nat × Nat)} (h : GOk S x l) (h' : GOk S x m) : GOk S x (l ++ m) := fun c hc => (List.mem_append.1 hc).elim (h c) (h' c)

theorem gmono {K : Kn} {c : Nat × Nat} {p q : Nat} (h : K p q = true) : gStep K c p q = true := by
  unfold gStep
  split
  · rename_i hp; rcases hp with rfl | rfl <;> simp [h]
  · exact h

theorem g_switch {x a b : Nat} {K K' : Kn} {c : Nat × Nat} (h : GSub x a K K') (h1 : c.1 ≠ x) (h2 : c.2 ≠ x) (ha : a = c.1 ∨ a = c.2) (hb : b = c.1 ∨ b = c.2) : GSub x b (gStep K c) (gStep K' c) := by
  constructor
  · intro y q hy hq hk
    unfold gStep at hk ⊢
    split at hk
    · rename_i hp
      rw [if_pos hp]
      simp only [Bool.or_eq_true] at hk ⊢
      exact hk.imp (h.1 _ q h1 hq) (h.1 _ q h2 hq)
    · rename_i hp
      rw [if_neg hp]
      exact h.1 y q hy hq hk
  · intro q hq hk
    have hx : ¬ (x = c.1 ∨ x = c.2) := fun e => e.elim (fun e => h1 e.symm) (fun e => h2 e.symm)
    have hk' : K x q = true := by simpa [gStep, hx] using hk
    have := h.2 q hq hk'
    unfold gStep
    rw [if_pos hb]
    rcases ha with rfl | rfl <;> simp [this]

theorem g_step {S : List Nat} {x r : Nat} {K K' : Kn} {c : Nat × Nat} (h : GSub x r K K') (hr : r ≠ x) (hrS : r ∈ S) (h1 : c.1 ∈ S) (h2 : c.2 ∈ S) (h12 : c.1 ≠ c.2) :
    ∃ l', GOk S x l' ∧ l'.length ≤ 1 ∧ GSub x r (gStep K c) (gRun K' l') ∧ ((c = (x, r) ∨ c = (r, x)) → l' = []) := by
  obtain ⟨a, b⟩ := c
  simp only at h1 h2 h12
  by_cases ha : a = x
  · subst ha
    have hb : b ≠ a := fun e => h12 e.symm
    by_cases hbr : b = r
    · subst hbr
      refine ⟨[], fun c hc => by simp at hc, by simp, ⟨fun y q hy hq hk => ?_, fun q hq hk => ?_⟩, fun _ => rfl⟩
      · show K' y q = true
        unfold gStep at hk
        split at hk
        · rename_i hp
          simp only [Bool.or_eq_true] at hk
          rcases hp with hp | hp
          · exact absurd hp hy
          · simp only at hp
            subst hp
            exact hk.elim (h.2 q hq) (h.1 _ q hy hq)
        · exact h.1 y q hy hq hk
      · show K' b q = true
        have hk' : K a q = true ∨ K b q = true := by simpa [gStep] using hk
        exact hk'.elim (h.2 q hq) (h.1 _ q hb hq)
    · refine ⟨[(r, b)], fun c hc => ?_, by simp, ⟨fun y q hy hq hk => ?_, fun q hq hk => ?_⟩, fun e => ?_⟩
      · rw [List.mem_singleton.1 hc]; exact ⟨⟨hrS, hr⟩, ⟨h2, hb⟩, fun e => hbr e.symm⟩
      · show gStep K' (r, b) y q = true
        unfold gStep at hk
        split at hk
        · rename_i hp
          simp only [Bool.or_eq_true] at hk
          rcases hp with hp | hp
          · exact absurd hp hy
          · simp only at hp
            subst hp
            have : K' r q = true ∨ K' y q = true := hk.imp (h.2 q hq) (h.1 _ q hy hq)
            unfold gStep
            rw [if_pos (.inr rfl)]
            simpa using this
        · exact gmono (h.1 y q hy hq hk)
      · show gStep K' (r, b) r q = true
        have hk' : K a q = true ∨ K b q = true := by simpa [gStep] using hk
        have : K' r q = true ∨ K' b q = true := hk'.imp (h.2 q hq) (h.1 _ q hb hq)
        unfold gStep
        rw [if_pos (.inl rfl)]
        simpa using this
      · rcases e with e | e
        · simp at e; exact absurd e hbr
        · simp at e; exact absurd e.1.symm hr
  · by_cases hb : b = x
    · subst hb
      by_cases har : a = r
      · subst har
        refine ⟨[], fun c hc => by simp at hc, by simp, ⟨fun y q hy hq hk => ?_, fun q hq hk => ?_⟩, fun _ => rfl⟩
        · show K' y q = true
          unfold gStep at hk
          split at hk
          · rename_i hp
            simp only [Bool.or_eq_true] at hk
            rcases hp with hp | hp
            · simp only at hp
              subst hp
              exact hk.elim (h.1 _ q hy hq) (h.2 q hq)
            · exact absurd hp hy
          · exact h.1 y q hy hq hk
        · show K' a q = true
          have hk' : K a q = true ∨ K b q = true := by simpa [gStep] using hk
          exact hk'.elim (h.1 _ q ha hq) (h.2 q hq)
      · refine ⟨[(a, r)], fun c hc => ?_, by simp, ⟨fun y q hy hq hk => ?_, fun q hq hk => ?_⟩, fun e => ?_⟩
        · rw [List.mem_singleton.1 hc]; exact ⟨⟨h1, ha⟩, ⟨hrS, hr⟩, har⟩
        · show gStep K' (a, r) y q = true
          unfold gStep at hk
          split at hk
          · rename_i hp
            simp only [Bool.or_eq_true] at hk
            rcases hp with hp | hp
            · simp only at hp
              subst hp
              have : K' y q = true ∨ K' r q = true := hk.imp (h.1 _ q hy hq) (h.2 q hq)
              unfold gStep
              rw [if_pos (.inl rfl)]
              simpa using this
            · exact absurd hp hy
          · exact gmono (h.1 y q hy hq hk)
        · show gStep K' (a, r) r q = true
          have hk' : K a q = true ∨ K b q = true := by simpa [gStep] using hk
          have : K' a q = true ∨ K' r q = true := hk'.imp (h.1 _ q ha hq) (h.2 q hq)
          unfold gStep
          rw [if_pos (.inr rfl)]
          simpa using this
        · rcases e with e | e
          · simp at e; exact absurd e.1 ha
          · simp at e; exact absurd e har
    · refine ⟨[(a, b)], fun c hc => ?_, by simp, ⟨fun y q hy hq hk => ?_, fun q hq hk => ?_⟩, fun e => ?_⟩
      · rw [List.mem_singleton.1 hc]; exact ⟨⟨h1, ha⟩, ⟨h2, hb⟩, h12⟩
      · show gStep K' (a, b) y q = true
        unfold gStep at hk ⊢
        split at hk
        · rename_i hp
          rw [if_pos hp]
          simp only [Bool.or_eq_true] at hk ⊢
          exact hk.imp (h.1 _ q ha hq) (h.1 _ q hb hq)
        · rename_i hp
          rw [if_neg hp]
          exact h.1 y q hy hq hk
      · show gStep K' (a, b) r q = true
        have hx : ¬ (x = a ∨ x = b) := fun e => e.elim (fun e => ha e.symm) (fun e => hb e.symm)
        exact gmono (h.2 q hq (by simpa [gStep, hx] using hk))
      · rcases e with e | e
        · simp at e; exact absurd e.1 ha
        · simp at e; exact absurd e.2 hb

theorem g_const {S : List Nat} {x r : Nat} (hr : r ≠ x) (hrS : r ∈ S) : ∀ (l : List (Nat × Nat)) (K K' : Kn), GIn S l → GSub x r K K' → ∃ l', GOk S x l' ∧ l'.length ≤ l.length ∧ GSub x r (gRun K l) (gRun K' l')
  | [], _, _, _, h => ⟨[], fun _ hc => by simp at hc, by simp, h⟩
  | c :: l, K, K', hin, h => by
    obtain ⟨q1, q2, q3⟩ := hin c List.mem_cons_self
    obtain ⟨l1, o1, n1, s1, _⟩ := g_step h hr hrS q1 q2 q3
    obtain ⟨l2, o2, n2, s2⟩ := g_const hr hrS l _ _ (fun d hd => hin d (List.mem_cons_of_mem _ hd)) s1
    exact ⟨l1 ++ l2, o1.app o2, by simp; omega, by rw [gRun_app]; exact s2⟩

theorem g_fwd {S : List Nat} {x : Nat} (hxS : x ∈ S) : ∀ (m : List (Nat × Nat)) (a : Nat), a ≠ x → a ∈ S → GIn S m.reverse → gRun gOwn m.reverse a x = true →
    ∃ l', GOk S x l' ∧ l'.length + 1 ≤ m.length ∧ GSub x a (gRun gOwn m.reverse) (gRun gOwn l')
  | [], a, ha, _, _, h => absurd (by simpa [gRun, gOwn] using h) ha
  | c :: m, a, ha, haS, hin, h => by
    rw [List.reverse_cons] at hin h ⊢
    rw [gRun_snoc] at h ⊢
    have hin' : GIn S m.reverse := fun d hd => hin d (List.mem_append_left _ hd)
    obtain ⟨q1, q2, q3⟩ := hin c (by simp)
    cases hK : gRun gOwn m.reverse a x with
    | true =>
      obtain ⟨l1, o1, n1, s1⟩ := g_fwd hxS m a ha haS hin' hK
      obtain ⟨l2, o2, n2, s2, _⟩ := g_step s1 ha haS q1 q2 q3
      exact ⟨l1 ++ l2, o1.app o2, by simp; omega, by rw [gRun_app]; exact s2⟩
    | false =>
      -- the other one of the call knows
      have hc : a = c.1 ∨ a = c.2 := by
        by_cases hc : a = c.1 ∨ a = c.2
        · exact hc
        · rw [show gStep (gRun gOwn m.reverse) c a x = gRun gOwn m.reverse a x by simp [gStep, hc], hK] at h; cases h
      obtain ⟨b, hb, hbS, hbK, hcc⟩ : ∃ b, (b = c.1 ∨ b = c.2) ∧ b ∈ S ∧ gRun gOwn m.reverse b x = true ∧ (c = (a, b) ∨ c = (b, a)) := by
        have h' : gRun gOwn m.reverse c.1 x = true ∨ gRun gOwn m.reverse c.2 x = true := by simpa [gStep, hc] using h
        rcases hc with rfl | rfl
        · rw [hK] at h'
          exact ⟨c.2, .inr rfl, q2, h'.resolve_left (by simp), .inl rfl⟩
        · rw [hK] at h'
          exact ⟨c.1, .inl rfl, q1, h'.resolve_right (by simp), .inr rfl⟩
      by_cases hbx : b = x
      · subst hbx
        have h0 : GSub b a gOwn gOwn := ⟨fun _ _ _ _ h => h, fun q hq h => absurd (by simpa [gOwn] using h : b = q) (Ne.symm hq)⟩
        obtain ⟨l1, o1, n1, s1⟩ := g_const ha haS m.reverse _ _ hin' h0
        obtain ⟨l2, o2, n2, s2, e2⟩ := g_step s1 ha haS q1 q2 q3
        have := e2 hcc.symm
        subst this
        exact ⟨l1, o1, by simp at n1; simp; omega, s2⟩
      · obtain ⟨l1, o1, n1, s1⟩ := g_fwd hxS m b hbx hbS hin' hbK
        have hc1 : c.1 ≠ x := by rcases hcc with e | e <;> rw [e] <;> assumption
        have hc2 : c.2 ≠ x := by rcases hcc with e | e <;> rw [e] <;> assumption
        refine ⟨l1 ++ [c], o1.app fun d hd => ?_, by simp; omega, by rw [gRun_snoc]; exact g_switch s1 hc1 hc2 hb hc⟩
        rw [List.mem_singleton.1 hd]; exact ⟨⟨q1, hc1⟩, ⟨q2, hc2⟩, q3⟩

theorem g_bwd {S : List Nat} {x : Nat} : ∀ (l : List (Nat × Nat)) (K K' : Kn) (b : Nat), b ≠ x → b ∈ S → GIn S l → gBack x l b = true → GSub x b K K' →
    ∃ l', GOk S x l' ∧ l'.length + 1 ≤ l.length ∧ ∀ y q, y ≠ x → q ≠ x → gRun K l y q = true → gRun K' l' y q = true
  | [], _, _, b, hb, _, _, h, _ => absurd (by simpa [gBack] using h) hb
  | c :: l, K, K', b, hb, hbS, hin, h, hs => by
    have hin' : GIn S l := fun d hd => hin d (List.mem_cons_of_mem _ hd)
    obtain ⟨q1, q2, q3⟩ := hin c List.mem_cons_self
    cases hB : gBack x l b with
    | true =>
      obtain ⟨l1, o1, n1, s1, _⟩ := g_step hs hb hbS q1 q2 q3
      obtain ⟨l2, o2, n2, s2⟩ := g_bwd l _ _ b hb hbS hin' hB s1
      exact ⟨l1 ++ l2, o1.app o2, by simp; omega, fun y q hy hq hk => by rw [gRun_app]; exact s2 y q hy hq hk⟩
    | false =>
      rw [gBack, hB] at h
      simp only [Bool.false_or, Bool.and_eq_true, Bool.or_eq_true, beq_iff_eq] at h
      obtain ⟨hc, h'⟩ := h
      obtain ⟨d, hd, hdS, hdB, hcc⟩ : ∃ d, (d = c.1 ∨ d = c.2) ∧ d ∈ S ∧ gBack x l d = true ∧ (c = (b, d) ∨ c = (d, b)) := by
        rcases hc with rfl | rfl
        · rw [hB] at h'
          exact ⟨c.2, .inr rfl, q2, h'.resolve_left (by simp), .inl rfl⟩
        · rw [hB] at h'
          exact ⟨c.1, .inl rfl, q1, h'.resolve_right (by simp), .inr rfl⟩
      by_cases hdx : d = x
      · subst hdx
        obtain ⟨l1, o1, n1, s1, e1⟩ := g_step hs hb hbS q1 q2 q3
        have := e1 hcc.symm
        subst this
        obtain ⟨l2, o2, n2, s2⟩ := g_const hb hbS l _ _ hin' s1
        exact ⟨l2, o2, by simp; omega, fun y q hy hq hk => s2.1 y q hy hq hk⟩
      · have hc1 : c.1 ≠ x := by rcases hcc with e | e <;> rw [e] <;> assumption
        have hc2 : c.2 ≠ x := by rcases hcc with e | e <;> rw [e] <;> assumption
        obtain ⟨l2, o2, n2, s2⟩ := g_bwd l _ _ d hdx hdS hin' hdB (g_switch hs hc1 hc2 hc hd)
        refine ⟨c :: l2, fun e he => ?_, by simp; omega, fun y q hy hq hk => s2 y q hy hq hk⟩
        rcases List.mem_cons.1 he with rfl | he
        · exact ⟨⟨q1, hc1⟩, ⟨q2, hc2⟩, q3⟩
        · exact o2 e he

def GAll (S : List Nat) (l : List (Nat × Nat)) : Prop := ∀ y ∈ S, ∀ q ∈ S, gRun gOwn l y q = true

/-- Who hears of himself can be left out, with two calls less. -/
theorem g_less {S : List Nat} {x : Nat} (hxS : x ∈ S) {l1 l2 : List (Nat × Nat)} {c : Nat × Nat} (hin : GIn S (l1 ++ c :: l2)) (hall : GAll S (l1 ++ c :: l2)) (h1 : c.1 ≠ x) (h2 : c.2 ≠ x)
    (hf : gRun gOwn l1 c.1 x = true ∨ gRun gOwn l1 c.2 x = true) (hb : gBack x l2 c.1 = true ∨ gBack x l2 c.2 = true) :
    ∃ l', GOk S x l' ∧ l'.length + 2 ≤ (l1 ++ c :: l2).length ∧ ∀ y ∈ S, ∀ q ∈ S, y ≠ x → q ≠ x → gRun gOwn l' y q = true := by
  obtain ⟨q1, q2, q3⟩ := hin c (by simp)
  have hin1 : GIn S l1 := fun d hd => hin d (List.mem_append_left _ hd)
  have hin2 : GIn S l2 := fun d hd => hin d (List.mem_append_right _ (List.mem_cons_of_mem _ hd))
  obtain ⟨a, ha, hax, haS, haK⟩ : ∃ a, (a = c.1 ∨ a = c.2) ∧ a ≠ x ∧ a ∈ S ∧ gRun gOwn l1 a x = true := by
    rcases hf with h | h
    · exact ⟨c.1, .inl rfl, h1, q1, h⟩
    · exact ⟨c.2, .inr rfl, h2, q2, h⟩
  obtain ⟨b, hb', hbx, hbS, hbB⟩ : ∃ b, (b = c.1 ∨ b = c.2) ∧ b ≠ x ∧ b ∈ S ∧ gBack x l2 b = true := by
    rcases hb with h | h
    · exact ⟨c.1, .inl rfl, h1, q1, h⟩
    · exact ⟨c.2, .inr rfl, h2, q2, h⟩
  obtain ⟨m1, o1, n1, s1⟩ := g_fwd hxS l1.reverse a hax haS (by rw [List.reverse_reverse]; exact hin1) (by rw [List.reverse_reverse]; exact haK)
  rw [List.reverse_reverse, List.length_reverse] at *
  obtain ⟨m2, o2, n2, s2⟩ := g_bwd l2 _ _ b hbx hbS hin2 hbB (g_switch s1 h1 h2 ha hb')
  refine ⟨m1 ++ c :: m2, ?_, by simp; omega, fun y hy q hq hyx hqx => ?_⟩
  · intro d hd
    rcases List.mem_append.1 hd with hd | hd
    · exact o1 d hd
    · rcases List.mem_cons.1 hd with rfl | hd
      · exact ⟨⟨q1, h1⟩, ⟨q2, h2⟩, q3⟩
      · exact o2 d hd
  · have := hall y hy q hq
    rw [gRun_app] at this ⊢
    exact s2 y q hyx hqx this

/-! ### Counting calls -/
def oC (x : Nat) : Kn → List (Nat × Nat) → Nat
  | _, [] => 0
  | K, c :: l => (if K c.1 x = K c.2 x then 0 else 1) + oC x (gStep K c) l

def iC (x : Nat) : List (Nat × Nat) → Nat
  | [] => 0
  | c :: l => (if gBack x l c.1 = gBack x l c.2 then 0 else 1) + iC x l

def vC (x : Nat) (l : List (Nat × Nat)) : Nat := l.countP fun c => c.1 == x || c.2 == x

theorem countP_one {S : List Nat} (hn : S.Nodup) {f g : Nat → Bool} {b : Nat} (hb : b ∈ S) (hf : f b = false) (hg : ∀ p, g p = (f p || p == b)) : S.countP g = S.countP f + 1 := by
  induction S with
  | nil => simp at hb
  | cons s S ih =>
    rw [List.nodup_cons] at hn
    rw [List.countP_cons, List.countP_cons]
    rcases List.mem_cons.1 hb with rfl | hb
    · have : S.countP g = S.countP f := by
        apply List.countP_congr
        intro p hp
        have : p ≠ b := fun e => hn.1 (e ▸ hp)
        rw [hg p]
        simp [this]
      rw [this, hg b, hf]
      simp
    · have hsb : s ≠ b := fun e => hn.1 (e ▸ hb)
      rw [ih hn.2 hb, hg s]
      simp [hsb]
      omega

theorem oC_eq {S : List Nat} (hn : S.Nodup) (x : Nat) : ∀ (l : List (Nat × Nat)) (K : Kn), GIn S l → S.countP (fun p => gRun K l p x) = S.countP (fun p => K p x) + oC x K l
  | [], K, _ => rfl
  | c :: l, K, hin => by
    obtain ⟨q1, q2, q3⟩ := hin c List.mem_cons_self
    rw [show gRun K (c :: l) = gRun (gStep K c) l from rfl, oC_eq hn x l _ fun d hd => hin d (List.mem_cons_of_mem _ hd), oC]
    have : S.countP (fun p => gStep K c p x) = S.countP (fun p => K p x) + (if K c.1 x = K c.2 x then 0 else 1) := by
      cases h1 : K c.1 x <;> cases h2 : K c.2 x
      · rw [if_pos rfl]
        apply List.countP_congr
        intro p _
        unfold gStep
        split
        · rename_i hp; rcases hp with rfl | rfl <;> simp [h1, h2]
        · exact Iff.rfl
      · rw [if_neg (by simp)]
        refine countP_one hn q1 h1 fun p => ?_
        unfold gStep
        by_cases hp1 : p = c.1
        · subst hp1; simp [h2]
        · by_cases hp2 : p = c.2
          · subst hp2; simp [h2]
          · simp [hp1, hp2]
      · rw [if_neg (by simp)]
        refine countP_one hn q2 h2 fun p => ?_
        unfold gStep
        by_cases hp1 : p = c.2
        · subst hp1; simp [h1]
        · by_cases hp2 : p = c.1
          · subst hp2; simp [h1]
          · simp [hp1, hp2]
      · rw [if_pos rfl]
        apply List.countP_congr
        intro p _
        unfold gStep
        split
        · rename_i hp; rcases hp with rfl | rfl <;> simp [h1, h2]
        · exact Iff.rfl
    omega

theorem iC_eq {S : List Nat} (hn : S.Nodup) {x : Nat} (hx : x ∈ S) : ∀ (l : List (Nat × Nat)), GIn S l → S.countP (gBack x l) = 1 + iC x l
  | [], _ => by
    have := countP_one hn (f := fun _ => false) (g := gBack x []) hx rfl fun p => by simp [gBack]
    rw [this]
    simp [iC]
  | c :: l, hin => by
    obtain ⟨q1, q2, q3⟩ := hin c List.mem_cons_self
    have ih := iC_eq hn hx l fun d hd => hin d (List.mem_cons_of_mem _ hd)
    have : S.countP (gBack x (c :: l)) = S.countP (gBack x l) + (if gBack x l c.1 = gBack x l c.2 then 0 else 1) := by
      cases h1 : gBack x l c.1 <;> cases h2 : gBack x l c.2
      · rw [if_pos rfl]
        apply List.countP_congr
        intro p _
        simp [gBack, h1, h2]
      · rw [if_neg (by simp)]
        refine countP_one hn q1 h1 fun p => ?_
        by_cases hp2 : p = c.2
        · subst hp2; simp [gBack, h2]
        · simp only [gBack, h1, h2, Bool.or_true, Bool.and_true, show (p == c.2) = false by simp [hp2], Bool.or_false]
      · rw [if_neg (by simp)]
        refine countP_one hn q2 h2 fun p => ?_
        by_cases hp2 : p = c.1
        · subst hp2; simp [gBack, h1]
        · simp only [gBack, h1, h2, Bool.true_or, Bool.and_true, show (p == c.1) = false by simp [hp2], Bool.false_or]
      · rw [if_pos rfl]
        apply List.countP_congr
        intro p _
        simp only [gBack, h1, h2, Bool.or_true, Bool.and_true, Bool.or_eq_true, beq_iff_eq]
        constructor
        · rintro (h | rfl | rfl) <;> assumption
        · exact .inl
    rw [iC, this, ih]
    omega

theorem oi_le (x : Nat) : ∀ (l : List (Nat × Nat)) (K : Kn), (∀ l1 c l2, l = l1 ++ c :: l2 → c.1 ≠ x → c.2 ≠ x → gRun K l1 c.1 x ≠ gRun K l1 c.2 x → gBack x l2 c.1 = gBack x l2 c.2) → oC x K l + iC x l ≤ l.length + vC x l
  | [], _, _ => by simp [oC, iC]
  | c :: l, K, h => by
    have ih := oi_le x l (gStep K c) fun l1 d l2 e h1 h2 h3 => h (c :: l1) d l2 (by rw [e]; rfl) h1 h2 h3
    have h0 := h [] c l rfl
    unfold vC at *
    rw [oC, iC, List.countP_cons, List.length_cons]
    by_cases hx : c.1 ≠ x ∧ c.2 ≠ x
    · by_cases hk : K c.1 x = K c.2 x
      · rw [if_pos hk]
        split <;> omega
      · have := h0 hx.1 hx.2 hk
        rw [if_neg hk, if_pos this]
        omega
    · have : (c.1 == x || c.2 == x) = true := by
        simp only [Bool.or_eq_true, beq_iff_eq]
        by_cases h1 : c.1 = x
        · exact .inl h1
        · exact .inr (Classical.byContradiction fun h2 => hx ⟨h1, h2⟩)
      rw [if_pos this]
      split <;> split <;> omega

theorem v_sum {S : List Nat} (hn : S.Nodup) : ∀ (l : List (Nat × Nat)), (S.map fun x => vC x l).sum ≤ 2 * l.length
  | [] => by
    have : ∀ S : List Nat, (S.map fun _ => 0).sum = 0 := fun S => by induction S <;> simp_all
    simp [vC, this]
  | c :: l => by
    have ih := v_sum hn l
    have h1 : ∀ T : List Nat, (T.map fun x => vC x (c :: l)).sum = (T.map fun x => vC x l).sum + T.countP fun x => c.1 == x || c.2 == x := by
      intro T
      induction T with
      | nil => rfl
      | cons x T ih =>
        simp only [List.map_cons, List.sum_cons, List.countP_cons]
        rw [ih]
        have : vC x (c :: l) = vC x l + if (c.1 == x || c.2 == x) = true then 1 else 0 := by
          unfold vC
          rw [List.countP_cons]
        rw [this]
        omega
    have one : ∀ a, S.countP (fun x => a == x) ≤ 1 := by
      intro a
      by_cases ha : a ∈ S
      · have := countP_one hn (f := fun _ => false) (g := fun x => a == x) ha rfl fun p => by rw [Bool.false_or]; exact Bool.beq_comm
        rw [this]; simp
      · have : S.countP (fun x => a == x) = 0 := by
          rw [List.countP_eq_zero]
          intro x hx h
          exact ha ((by simpa using h : a = x) ▸ hx)
        omega
    have two : S.countP (fun x => c.1 == x || c.2 == x) ≤ S.countP (fun x => c.1 == x) + S.countP (fun x => c.2 == x) := by
      clear ih h1 one hn
      induction S with
      | nil => simp
      | cons x S ih =>
        simp only [List.countP_cons]
        cases h1 : (c.1 == x) <;> cases h2 : (c.2 == x) <;> simp <;> omega
    rw [h1, List.length_cons]
    have := one c.1
    have := one c.2
    omega

def gNeed (n : Nat) : Nat := if n < 4 then n * (n - 1) / 2 else 2 * n - 4

theorem gossip_bound : ∀ (n : Nat), n ≤ 7 → ∀ (S : List Nat) (l : List (Nat × Nat)), S.Nodup → S.length = n → GIn S l → GAll S l → gNeed n ≤ l.length
  | 0, _, _, _, _, _, _, _ => by simp [gNeed]
  | n + 1, hn7, S, l, hnd, hlen, hin, hall => by
    by_cases hex : ∃ x ∈ S, ∃ l1 c l2, l = l1 ++ c :: l2 ∧ c.1 ≠ x ∧ c.2 ≠ x ∧ (gRun gOwn l1 c.1 x = true ∨ gRun gOwn l1 c.2 x = true) ∧ (gBack x l2 c.1 = true ∨ gBack x l2 c.2 = true)
    · obtain ⟨x, hx, l1, c, l2, rfl, h1, h2, h3, h4⟩ := hex
      obtain ⟨l', o, hl, ha⟩ := g_less hx hin hall h1 h2 h3 h4
      have ih := gossip_bound n (by omega) (S.erase x) l' (hnd.erase x) (by rw [List.length_erase_of_mem hx]; omega)
        (fun d hd => by
          obtain ⟨⟨a1, a2⟩, ⟨b1, b2⟩, ab⟩ := o d hd
          exact ⟨(List.mem_erase_of_ne a2).2 a1, (List.mem_erase_of_ne b2).2 b1, ab⟩)
        (fun y hy q hq => by
          rw [hnd.mem_erase_iff] at hy hq
          exact ha y hy.2 q hq.2 hy.1 hq.1)
      have hstep : gNeed (n + 1) ≤ gNeed n + 2 := by
        have h7 : n = 0 ∨ n = 1 ∨ n = 2 ∨ n = 3 ∨ n = 4 ∨ n = 5 ∨ n = 6 := by omega
        rcases h7 with rfl | rfl | rfl | rfl | rfl | rfl | rfl <;> decide
      omega
    · have hx : ∀ x ∈ S, 2 * n ≤ l.length + vC x l := by
        intro x hx
        have h1 := oC_eq hnd x l gOwn hin
        have h2 := iC_eq hnd hx l hin
        have h3 := oi_le x l gOwn fun l1 c l2 e h1 h2 h3 => by
          cases hb1 : gBack x l2 c.1 <;> cases hb2 : gBack x l2 c.2
          · rfl
          all_goals
            exfalso
            refine hex ⟨x, hx, l1, c, l2, e, h1, h2, ?_, by simp [hb1, hb2]⟩
            cases hk1 : gRun gOwn l1 c.1 x <;> cases hk2 : gRun gOwn l1 c.2 x <;> simp_all
        have h4 : S.countP (fun p => gRun gOwn l p x) = n + 1 := by
          rw [← hlen, List.countP_eq_length]
          intro p hp
          exact hall p hp x hx
        have h5 : S.countP (gBack x l) = n + 1 := by
          rw [← hlen, List.countP_eq_length]
          intro p hp
          obtain ⟨p', hp1, hp2⟩ := (gRun_iff x p l gOwn).1 (hall x hx p hp)
          have : p' = p := by simpa [gOwn] using hp2
          rw [← this]; exact hp1
        have h6 : S.countP (fun p => gOwn p x) = 1 := by
          have := countP_one hnd (f := fun _ => false) (g := fun p => gOwn p x) hx rfl fun p => by simp [gOwn]
          rw [this]; simp
        omega
      have hs : ∀ T : List Nat, (∀ x ∈ T, 2 * n ≤ l.length + vC x l) → T.length * (2 * n) ≤ T.length * l.length + (T.map fun x => vC x l).sum := by
        intro T
        induction T with
        | nil => intro _; simp
        | cons x T ih =>
          intro h
          have h1 := h x List.mem_cons_self
          have h2 := ih fun y hy => h y (List.mem_cons_of_mem _ hy)
          simp only [List.length_cons, List.map_cons, List.sum_cons, Nat.add_mul, Nat.one_mul]
          omega
      have h1 := hs S hx
      have h2 := v_sum hnd l
      rw [hlen] at h1
      have h7 : n = 0 ∨ n = 1 ∨ n = 2 ∨ n = 3 ∨ n = 4 ∨ n = 5 ∨ n = 6 := by omega
      rcases h7 with rfl | rfl | rfl | rfl | rfl | rfl | rfl <;> simp [gNeed] <;> omega

end Go.AM

end

section

/- Gossip, on the abstract machine. -/
namespace Go.AM
open Go.Proofs
variable {k : Nat} {R : Type}
attribute [local simp] nx_eq nx_new nx_set blk_new blk_set asI_int asK_int asB_bool asP_ptr al_eq bx_eq len_slice onE_exit onE_ret onR_ret Value.cells d3 d29 d31 d56 d24 d59 d22 d25 w3 cell_new cell_set rd_new rd_set off eq lt le ifB gv out eqF1 eqF2 eqF3 eqF4 eqF5 eqF6 eqF7 eqF8 ext20 ext21 k42 kbld31 kbld56 k22
/-- One call more, at the next time. -/
def addC (L : List Kl) (a b : Int) : List Kl := L ++ [⟨a, b, (L.length : Int) + 1⟩]

/-- What gossip holds while it is made. -/
structure GS (h0 : H) (lo : Nat) (g : H) (tb lb : Nat) (n : Int) (L : List Kl) : Prop where
  fr : Fr lo h0 g
  tbl : lo ≤ tb ∧ tb < g.nx
  lbl : lo ≤ lb ∧ lb < g.nx
  ne : tb ≠ lb
  tb_ : g.blk tb = some (.row [iv L.length] 3 true)
  sl : ∃ sv, g.blk lb = some (.row [iv n, sv] 31 true) ∧ AqR lo g 56 3 sv (L.map Kl.cells)

theorem s100 {h0 g : H} {lo tb lb : Nat} {n a b : Int} {L : List Kl} (gs : GS h0 lo g tb lb n L) (hL : L.length < 1000) (hlo : lo ≤ g.nx) :
    ∃ g', rn 100 #[iv a, iv b, pt tb 0, pt lb 0] g = some (undef, g') ∧ GS h0 lo g' tb lb n (addC L a b) ∧ g.nx ≤ g'.nx ∧ (∀ q, q < g.nx → q ≠ tb → q ≠ lb → (∀ c, g.blk q ≠ some (.row c 56 true)) → g'.blk q = g.blk q) := by
  obtain ⟨fr, tbl, lbl, ne, htb, sv, hlb, hap⟩ := gs
  have ht : wrc 1 g tb 0 (iv ((L.length : Int) + 1)) = some (g.set tb (.row [iv ((L.length : Int) + 1)] 3 true)) := by
    rw [wrc_one htb rfl rfl (by simp)]; rfl
  have a1 : AqR lo (g.set tb (.row [iv ((L.length : Int) + 1)] 3 true)) 56 3 sv (L.map Kl.cells) := hap.keep (Nat.le_refl _) fun q hq => blk_set_ne _ _ _ (by
    intro e; subst e
    have := (hap.blkOf hq).2.2
    rw [htb] at this
    simp at this)
  obtain ⟨v', h9, e9, a9, n9, k9, b9, hb9, hb9'⟩ := a1.push app29 app29 (bls29 ⟨a, b, (L.length : Int) + 1⟩) rfl rfl (by simp; omega) hlo
  have svt : blkOf sv ≠ some tb := fun e => by have := (hap.blkOf e).2.2; rw [htb] at this; simp at this
  have svl : blkOf sv ≠ some lb := fun e => by have := (hap.blkOf e).2.2; rw [hlb] at this; simp at this
  have hlb9 : h9.blk lb = some (.row [iv n, sv] 31 true) := (k9 lb lbl.2 svl).trans ((blk_set_ne _ _ _ (Ne.symm ne)).trans hlb)
  have htb9 : h9.blk tb = some (.row [iv ((L.length : Int) + 1)] 3 true) := (k9 tb tbl.2 svt).trans (blk_set_self _ _ _)
  have hw : wrc 1 h9 lb 1 v' = some (h9.set lb (.row [iv n, v'] 31 true)) := by rw [wrc_one hlb9 a9.cells.1 a9.cells.2 (by simp)]; rfl
  have n9' : g.nx ≤ h9.nx := n9
  refine ⟨h9.set lb (.row [iv n, v'] 31 true), x100 (k := 0) ?_ rfl, ⟨⟨?_, fun q hq => ?_⟩, ⟨tbl.1, ?_⟩, ⟨lbl.1, ?_⟩, ne, ?_, v', blk_set_self _ _ _, ?_⟩, n9', fun q hq h1 h2 h3 => ?_⟩
  · have hcl : ∀ o, g.cell tb o = [iv (L.length : Int)][o]? := fun o => cell_of htb
    have hcs : ∀ o, g.cell lb o = [iv n, sv][o]? := fun o => cell_of hlb
    have hadd : add .i64 (L.length : Int) 1 = (L.length : Int) + 1 := add64 (by omega) (by omega)
    simp [f100, hcl, hcs, hadd, ht, Ne.symm ne, ne, e9, w29, hw]
  · have := fr.nx; rw [nx_set]; omega
  · rw [blk_set_ne _ _ _ (by omega), k9 q (by rw [nx_set]; omega) (fun e => by have := (hap.blkOf e).1; omega), blk_set_ne _ _ _ (by omega)]
    exact fr.blk q hq
  · rw [nx_set]; omega
  · rw [nx_set]; omega
  · rw [blk_set_ne _ _ _ ne]
    simpa [addC] using htb9
  · have : (addC L a b).map Kl.cells = L.map Kl.cells ++ [[iv a, iv b, iv ((L.length : Int) + 1)]] := by simp [addC, Kl.cells]
    rw [this]
    exact a9.keep (by rw [nx_set]; exact Nat.le_refl _) fun q hq => blk_set_ne _ _ _ (by rw [hb9] at hq; cases hq; rw [nx_set] at hb9'; omega)
  · rw [blk_set_ne _ _ _ h2, k9 q hq (fun e => h3 _ (hap.blkOf e).2.2), blk_set_ne _ _ _ h1]

/-- Calls in a row, from the first person. -/
def chainP (m : Nat) : List Kl := (List.range m).foldl (fun L (i : Nat) => addC L ((i : Int) + 1 - 1) ((i : Int) + 1)) []

def starP (L : List Kl) (m : Nat) : List Kl := (List.range m).foldl (fun L (i : Nat) => addC L 0 ((i : Int) + 4)) L

def gossipP (n : Nat) : List Kl :=
  if n < 4 then (if n = 3 then addC (chainP (n - 1)) 0 1 else chainP (n - 1))
  else starP (addC (addC (addC (addC (starP [] (n - 4)) 0 1) 2 3) 0 2) 1 3) (n - 4)

theorem addC_len (L : List Kl) (a b : Int) : (addC L a b).length = L.length + 1 := by simp [addC]

theorem chain_len (m : Nat) : (chainP m).length = m := by
  induction m with
  | zero => rfl
  | succ m ih => unfold chainP at *; rw [List.range_succ, List.foldl_append]; simp only [List.foldl_cons, List.foldl_nil]; rw [addC_len, ih]

theorem star_len (L : List Kl) (m : Nat) : (starP L m).length = L.length + m := by
  induction m with
  | zero => rfl
  | succ m ih => unfold starP at *; rw [List.range_succ, List.foldl_append]; simp only [List.foldl_cons, List.foldl_nil]; rw [addC_len, ih]; omega

theorem s76 {n : Nat} (hn1 : 1 ≤ n) (hn : n ≤ 7) (h : H) : ∃ sv h', rn 76 #[iv n] h = some (.agg #[iv n, sv], h') ∧ Ext h h' ∧ AqR h.nx h' 56 3 sv ((gossipP n).map Kl.cells) := by
  let z31 : List Value := [.int .i64 0, .slice none 0 0]
  let h1 := h.new (.row z31 31 true)
  let h3 := h1.fresh 31 z31 [.int .i64 n, .slice none 0 0]
  let h5 := h3.fresh 3 [iv 0] [iv 0]
  have n5 : h5.nx = h.nx + 3 := rfl
  have x5 : Ext h h5 := (((Ext.refl h).new' _).fresh _ _ _).fresh _ _ _
  have g0 : h5.blk h.nx = some (.row z31 31 true) := by simp [h5, h3, h1, H.fresh]
  have g1 : h5.blk (h.nx + 1) = some (.row [.int .i64 n, .slice none 0 0] 31 true) := by simp [h5, h3, h1, H.fresh]
  have g2 : h5.blk (h.nx + 2) = some (.row [iv 0] 3 true) := by simp [h5, h3, h1, H.fresh]
  have gs5 : GS h h.nx h5 (h.nx + 2) (h.nx + 1) n [] := ⟨⟨x5.nx, x5.blk⟩, ⟨by omega, by omega⟩, ⟨by omega, by omega⟩, by omega, g2, _, g1, .nil⟩
  -- what is known all along
  let Inv : List Kl → H → Prop := fun L g => GS h h.nx g (h.nx + 2) (h.nx + 1) n L ∧ g.blk h.nx = some (.row z31 31 true) ∧ h.nx + 3 ≤ g.nx
  have i5 : Inv [] h5 := ⟨gs5, g0, by omega⟩
  have call : ∀ (L : List Kl) (g : H) (a b : Int), Inv L g → L.length < 1000 → ∃ g', rn 100 #[iv a, iv b, pt (h.nx + 2) 0, pt (h.nx + 1) 0] g = some (undef, g') ∧ Inv (addC L a b) g' := by
    intro L g a b ⟨gs, gz, gn⟩ hL
    obtain ⟨g', e, gs', hn', f'⟩ := s100 (a := a) (b := b) gs hL (by omega)
    exact ⟨g', e, gs', (f' h.nx (by omega) (by omega) (by omega) (by intro c e; rw [gz] at e; simp at e)).trans gz, by omega⟩
  have fin : ∀ (L : List Kl) (g : H), Inv L g → ∃ sv h', Ext h h' ∧ AqR h.nx h' 56 3 sv (L.map Kl.cells) ∧ ((g.rd (h.nx + 1) 0 2).bind fun l => (wrc 2 g h.nx 0 (.agg l.toArray)).bind fun h10 => (h10.rd h.nx 0 2).bind fun l => some (Value.agg l.toArray, h10)) = some (.agg #[iv n, sv], h') := by
    intro L g ⟨gs, gz, gn⟩
    obtain ⟨fr, tbl, lbl, ne, htb, sv, hlb, hap⟩ := gs
    have hst : wrc 2 g h.nx 0 (.agg #[iv n, sv]) = some (g.set h.nx (.row [iv n, sv] 31 true)) := by
      simp only [wrc, gz]
      rw [if_pos ⟨rfl, by simp [z31], by simp [Value.cells, hap.cells.2]; rfl⟩]
      rfl
    refine ⟨sv, g.set h.nx (.row [iv n, sv] 31 true), ⟨by rw [nx_set]; exact fr.nx, fun q hq => by rw [blk_set_ne _ _ _ (by omega)]; exact fr.blk q hq⟩, hap.keep (Nat.le_refl _) fun q hq => blk_set_ne _ _ _ (by intro e; subst e; have := (hap.blkOf hq).2.2; rw [gz] at this; simp at this), ?_⟩
    rw [rd_all (n := 2) hlb rfl, Option.bind_some]
    rw [show ([iv (n : Int), sv].toArray) = #[iv (n : Int), sv] from rfl, hst, Option.bind_some, rd_all (n := 2) (blk_set_self _ _ _) rfl]
    rfl
  have hF : ∃ sv h' k, f76 rn k n h = some (.agg #[iv n, sv], h') ∧ Ext h h' ∧ AqR h.nx h' 56 3 sv ((gossipP n).map Kl.cells) := by
    have loop : ∀ (F : List Value → H → Option (Ex × List Value × H)) (oj : Nat) (st : Int) (m : Nat) (ab : Nat → List Kl → List Kl) (L0 : List Kl) (g0 : H), m ≤ 10 → L0.length ≤ 20 → Inv L0 g0 → (∀ i L, (ab i L).length = L.length + 1) →
        (∀ (i : Nat) (L : List Kl) (g : H), i < m → Inv L g → L.length < 1000 → ∃ g', F [iv (st + i)] g = some (.normal, [iv (st + i + 1)], g') ∧ Inv (ab i L) g') → (∀ g, F [iv (st + m)] g = some (.exit oj, [iv (st + m)], g)) →
        ∃ ws' h', lpGo F 100 [iv st] g0 = some (.exit oj, ws', h') ∧ Inv ((List.range m).foldl (fun L i => ab i L) L0) h' := by
      intro F oj st m ab L0 g0 hm hL0 hi0 hlen hstep hfin
      obtain ⟨ws', h', e, hi, _⟩ := lp_for (F := F) (k := 100) (l := List.range m) (fun _ x => ab x) (fun i L ws g => Inv L g ∧ L.length = L0.length + i ∧ ws = [iv (st + i)]) oj (ws := [iv st]) (h := g0) (s0 := L0)
        ⟨hi0, rfl, by simp⟩ (by simp; omega)
        (by
          rintro L ws g ⟨hi, hl, rfl⟩
          rw [List.length_range]
          exact hfin g)
        (by
          rintro i c L ws g hc ⟨hi, hl, rfl⟩
          have him : i < m := by simpa using (List.getElem?_eq_some_iff.1 hc).1
          obtain rfl : c = i := by
            rw [List.getElem?_range him] at hc
            exact (Option.some.inj hc).symm
          obtain ⟨g', e, hi'⟩ := hstep c L g him hi (by omega)
          exact ⟨_, g', e, hi', by rw [hlen]; omega, by rw [show st + ((c + 1 : Nat) : Int) = st + c + 1 by omega]⟩)
      rw [foldI_foldl] at hi
      exact ⟨ws', h', e, hi⟩
    have hh1 : h1.nx = h.nx + 1 := rfl
    have hh3 : h3.nx = h.nx + 2 := rfl
    have kc : ∀ {L : List Kl} {g : H} {a b : Int} {g' : H}, rn 100 #[iv a, iv b, pt (h.nx + 2) 0, pt (h.nx + 1) 0] g = some (undef, g') → ∀ {R : Type} (K : Value → H → Option R), calls rn g 100 [.int .i64 a, .int .i64 b, pt (h.nx + 2) 0, pt (h.nx + 1) 0] K = K undef g' := fun e _ K => calls_eq e
    by_cases h4 : n < 4
    · obtain ⟨ws1, g1, e1, i1⟩ := loop (f76_l1 rn 100 n h1 h3) 0 1 (n - 1) (fun i L => addC L ((i : Int) + 1 - 1) ((i : Int) + 1)) [] h5 (by omega) (by simp) i5 (fun _ _ => addC_len _ _ _)
        (fun i L g him hi hL => by
          obtain ⟨g', e, hi'⟩ := call L g ((i : Int) + 1 - 1) ((i : Int) + 1) hi hL
          refine ⟨g', ?_, hi'⟩
          have hs : sub .i64 (1 + (i : Int)) 1 = (i : Int) + 1 - 1 := by rw [sub64 (by omega) (by omega)]; omega
          have ha : add .i64 (1 + (i : Int)) 1 = 1 + (i : Int) + 1 := add64 (by omega) (by omega)
          rw [show (i : Int) + 1 = 1 + (i : Int) by omega] at e hs
          simp only [f76_l1, gv, List.getD_cons_zero, asI_int, lt_t (show 1 + (i : Int) < n by omega), ifB, if_true, hs, nx_eq, hh1, hh3, kc (L := L) e, ha, out])
        (fun g => by simp [f76_l1, show ¬ (1 + ((n - 1 : Nat) : Int) < n) by omega])
      rw [show (List.range (n - 1)).foldl (fun L (i : Nat) => addC L ((i : Int) + 1 - 1) ((i : Int) + 1)) [] = chainP (n - 1) from rfl] at i1
      have head : f76 rn 100 n h = (if n = 3 then (calls rn g1 100 [.int .i64 0, .int .i64 1, pt (h.nx + 2) 0, pt (h.nx + 1) 0] fun v2 h9 => (h9.rd (h.nx + 1) 0 2).bind fun l => (wrc 2 h9 h.nx 0 (.agg l.toArray)).bind fun h10 => (h10.rd h.nx 0 2).bind fun l => some (Value.agg l.toArray, h10)) else
          ((g1.rd (h.nx + 1) 0 2).bind fun l => (wrc 2 g1 h.nx 0 (.agg l.toArray)).bind fun h10 => (h10.rd h.nx 0 2).bind fun l => some (Value.agg l.toArray, h10))) := by
        unfold f76
        rw [al_eq, kbld31, al_st (zs := z31) (xs := [.int .i64 n, .slice none 0 0]) sz31 rfl rfl, al_st1 (v := iv 0) sz3 rfl rfl]
        rw [lt_t (show (n : Int) < 4 by omega), ifB_true, show H.fresh (H.fresh (h.new (.row [.int .i64 0, .slice none 0 0] 31 true)) 31 z31 [.int .i64 n, .slice none 0 0]) 3 [iv 0] [iv 0] = h5 from rfl]
        refine (lp_eq e1).trans ?_
        rw [onE_exit, if_pos rfl]
        simp only [nx_eq, hh1, hh3, d31, w31, ifB]
        by_cases h3' : n = 3
        · rw [if_pos h3', eq_t (by omega), if_pos rfl]; rfl
        · rw [if_neg h3', eq_f (by omega)]; simp only [Bool.false_eq_true, if_false]; rfl
      by_cases h3' : n = 3
      · obtain ⟨g2, e2, i2⟩ := call _ g1 0 1 i1 (by rw [chain_len]; omega)
        obtain ⟨sv, h', x, a, e3⟩ := fin _ _ i2
        refine ⟨sv, h', 100, ?_, x, by simpa [gossipP, h4, h3'] using a⟩
        rw [head, if_pos h3', kc (L := []) e2]
        exact e3
      · obtain ⟨sv, h', x, a, e3⟩ := fin _ _ i1
        refine ⟨sv, h', 100, ?_, x, by simpa [gossipP, h4, h3'] using a⟩
        rw [head, if_neg h3']
        exact e3
    · have star : ∀ (F : List Value → H → Option (Ex × List Value × H)) (oj : Nat) (L0 : List Kl) (g0 : H), L0.length ≤ 20 → Inv L0 g0 →
          (∀ ws g, F ws g = asI .i64 (gv ws 0) fun n4 => ifB (lt n4 n) (calls rn g 100 [(.int .i64 0), gv ws 0, (pt (nx h3) 0), (pt (nx h1) 0)] fun v7 h13 => asI .i64 (gv ws 0) fun n5 => out .normal [(.int .i64 (add .i64 n5 1))] h13) (out (.exit oj) [gv ws 0] g)) →
          ∃ ws' h', lpGo F 100 [iv 4] g0 = some (.exit oj, ws', h') ∧ Inv (starP L0 (n - 4)) h' := by
        intro F oj L0 g0 hL hi hF
        obtain ⟨ws1, g1, e1, i1⟩ := loop F oj 4 (n - 4) (fun i L => addC L 0 ((i : Int) + 4)) L0 g0 (by omega) hL hi (fun _ _ => addC_len _ _ _)
          (fun i L g him hi hL => by
            obtain ⟨g', e, hi'⟩ := call L g 0 ((i : Int) + 4) hi hL
            refine ⟨g', ?_, hi'⟩
            rw [show (i : Int) + 4 = 4 + (i : Int) by omega] at e
            have ha : add .i64 (4 + (i : Int)) 1 = 4 + (i : Int) + 1 := add64 (by omega) (by omega)
            rw [hF]
            simp only [gv, List.getD_cons_zero, asI_int, lt_t (show 4 + (i : Int) < n by omega), ifB, if_true, nx_eq, hh1, hh3, kc (L := L) e, ha, out])
          (fun g => by rw [hF]; simp [show ¬ (4 + ((n - 4 : Nat) : Int) < n) by omega])
        exact ⟨ws1, g1, e1, i1⟩
      obtain ⟨ws1, g1, e1, i1⟩ := star (f76_l2 rn 100 n h1 h3) 2 [] h5 (by simp) i5 (fun _ _ => rfl)
      have l1 : (starP [] (n - 4)).length = n - 4 := by rw [star_len]; simp
      obtain ⟨g2, e2, i2⟩ := call _ g1 0 1 i1 (by omega)
      obtain ⟨g3, e3, i3⟩ := call _ g2 2 3 i2 (by rw [addC_len]; omega)
      obtain ⟨g4, e4, i4⟩ := call _ g3 0 2 i3 (by rw [addC_len, addC_len]; omega)
      obtain ⟨g5, e5, i5'⟩ := call _ g4 1 3 i4 (by rw [addC_len, addC_len, addC_len]; omega)
      obtain ⟨ws6, g6, e6, i6⟩ := star (f76_l3 rn 100 n h1 h3) 4 _ g5 (by rw [addC_len, addC_len, addC_len, addC_len]; omega) i5' (fun _ _ => rfl)
      obtain ⟨sv, h', x, a, e7⟩ := fin _ _ i6
      refine ⟨sv, h', 100, ?_, x, by simpa [gossipP, h4] using a⟩
      unfold f76
      rw [al_eq, kbld31, al_st (zs := z31) (xs := [.int .i64 n, .slice none 0 0]) sz31 rfl rfl, al_st1 (v := iv 0) sz3 rfl rfl]
      rw [lt_f (show ¬ (n : Int) < 4 by omega), ifB_false, show H.fresh (H.fresh (h.new (.row [.int .i64 0, .slice none 0 0] 31 true)) 31 z31 [.int .i64 n, .slice none 0 0]) 3 [iv 0] [iv 0] = h5 from rfl]
      refine (lp_eq e1).trans ?_
      rw [onE_exit, if_pos rfl]
      refine (kc (L := []) e2 _).trans ?_
      refine (kc (L := []) e3 _).trans ?_
      refine (kc (L := []) e4 _).trans ?_
      refine (kc (L := []) e5 _).trans ?_
      refine (lp_eq e6).trans ?_
      rw [onE_exit, if_pos rfl]
      simp only [d31, w31]
      exact e7
  obtain ⟨sv, h', k, e, x, a⟩ := hF
  exact ⟨sv, h', x76 e (by obtain ⟨x, y, z, hz⟩ := a.isSl; rw [hz]; rfl), x, a⟩

end Go.AM

end

section

/- CallsGossips, on the abstract machine. -/
namespace Go.AM
open Go.Proofs
variable {k : Nat} {R : Type}
attribute [local simp] nx_eq nx_new nx_set blk_new blk_set asI_int asK_int asB_bool asP_ptr al_eq bx_eq len_slice onE_exit onE_ret onR_ret Value.cells d3 d29 d31 d56 d24 d59 d22 d25 w3 cell_new cell_set rd_new rd_set off eq lt le ifB gv out eqF1 eqF2 eqF3 eqF4 eqF5 eqF6 eqF7 eqF8 ext20 ext21 k42 k22
theorem app22 : okApp Try.prog 22 59 3 = true := by kernel_rfl

theorem kbld24 (n : Int) (K : Value → Option R) : bld Try.prog 24 [(0, .int .i64 n)] K = K (.agg #[.int .i64 n, .slice none 0 0]) := bld_some (by kernel_rfl)

theorem kbld59 (a b t : Int) (K : Value → Option R) : bld Try.prog 59 [(0, .int .i64 a), (1, .int .i64 b), (2, .int .i64 t)] K = K (.agg #[.int .i64 a, .int .i64 b, .int .i64 t]) := bld_some (by kernel_rfl)

theorem bls22 (c : Kl) (h : H) : buildSlice Try.prog 22 1 [(0, .agg #[.int .i64 c.a, .int .i64 c.b, .int .i64 c.t])] h = some (.slice (some ⟨h.nx, 0, none⟩) 1 1, h.new (.row c.cells 59 true)) := by kernel_rfl

attribute [local simp] kbld24 kbld59
theorem s33 {n : Int} {sl : Value} {l : List Kl} {h : H} (hs : SlR h 56 3 sl (l.map Kl.cells)) (hm : l.length < 1000) :
    ∃ sl' h', rn 33 #[.agg #[iv n, sl]] h = some (.agg #[iv n, sl'], h') ∧ Exw h h' ∧ SlR h' 59 3 sl' (l.map Kl.cells) := by
  have hlen := hs.lt62
  rw [List.length_map] at hlen
  -- the heap ahead of the loop
  let h1 := h.new (.row [iv n, sl] 31 true)
  let h2 := h1.new (.row [.int .i64 0, .slice none 0 0] 24 true)
  let h4 := h2.fresh 24 [.int .i64 0, .slice none 0 0] [.int .i64 n, .slice none 0 0]
  have n1 : h1.nx = h.nx + 1 := rfl
  have n2 : h2.nx = h.nx + 2 := rfl
  have n4 : h4.nx = h.nx + 3 := rfl
  have x4 : Ext h h4 := (((Ext.refl h).new' _).new' _).fresh _ _ _
  have b0 : h4.blk h.nx = some (.row [iv n, sl] 31 true) := by simp [h4, h2, h1, H.fresh]
  have b1 : h4.blk (h.nx + 1) = some (.row [.int .i64 0, .slice none 0 0] 24 true) := by simp [h4, h2, h1, H.fresh]
  have b2 : h4.blk (h.nx + 2) = some (.row [.int .i64 n, .slice none 0 0] 24 true) := by simp [h4, h2, h1, H.fresh]
  obtain ⟨ws', h', hl, hx, hgn, hg1, sv, hg2, hap, rfl⟩ := lp_for (F := f33_l1 rn (l.length + 1) h2 sl l.length) (k := l.length + 1) (l := l) (fun _ _ (_ : Unit) => ())
    (fun i _ ws g => Ext h g ∧ h.nx + 3 ≤ g.nx ∧ g.blk (h.nx + 1) = some (.row [.int .i64 0, .slice none 0 0] 24 true) ∧
      ∃ sv, g.blk (h.nx + 2) = some (.row [iv n, sv] 24 true) ∧ AqR h.nx g 59 3 sv ((l.take i).map Kl.cells) ∧ ws = [iv i]) 0 (ws := [iv 0]) (h := h4) (s0 := ())
    ⟨x4, by omega, b1, _, b2, .nil, rfl⟩ (by omega)
    (by
      rintro _ ws g ⟨hx, hgn, hg1, sv, hg2, hap, rfl⟩
      simp [f33_l1])
    (by
      rintro i c _ ws g hc ⟨hx, hgn, hg1, sv, hg2, hap, rfl⟩
      have hi := (List.getElem?_eq_some_iff.1 hc).1
      have y7 := (Ext.refl g).fresh 56 [iv 0, iv 0, iv 0] c.cells
      have hcb := blk_fresh g 56 [iv 0, iv 0, iv 0] c.cells
      have n7 : (g.fresh 56 [iv 0, iv 0, iv 0] c.cells).nx = g.nx + 1 := rfl
      unfold f33_l1
      rw [show gv [iv i] 0 = iv i from rfl, asI_int, lt_t (by omega), ifB_true, asK_int, (hs.ext hx).ldA ag56 sz56 (by omega) (x := c.cells) (by simp [hc])]
      rw [al_st (zs := [iv 0, iv 0, iv 0]) (xs := c.cells) sz56 rfl rfl]
      generalize g.fresh 56 [iv 0, iv 0, iv 0] c.cells = h7 at *
      have g1 := (y7.blk (h.nx + 1) (by omega)).trans hg1
      have g2 := (y7.blk (h.nx + 2) (by omega)).trans hg2
      have a7 := hap.ext y7
      simp only [Kl.cells] at hcb
      obtain ⟨v', h9, e9, a9, n9, k9, b9, hb9, hb9'⟩ := a7.push app22 app22 (bls22 c) rfl rfl (by simp; omega) (by omega)
      have kb : ∀ b, b < h7.nx → h7.blk b ≠ some (.row ((l.take i).map Kl.cells).flatten 59 true) → h9.blk b = h7.blk b := fun b hb hne => k9 b hb fun e => hne (a7.blkOf e).2.2
      have g1' := kb (h.nx + 1) (by omega) (by rw [g1]; simp)
      have g2' := kb (h.nx + 2) (by omega) (by rw [g2]; simp)
      rw [g1] at g1'
      rw [g2] at g2'
      have x9 : Ext h h9 := ⟨by have := hx.nx; omega, fun b hb => by
        rw [k9 b (by have := hx.nx; omega) (fun e => by have := (a7.blkOf e).1; omega)]
        exact (hx.trans y7).blk b hb⟩
      have hst : wrc 1 h9 (h.nx + 2) 1 v' = some (h9.set (h.nx + 2) (.row [iv n, v'] 24 true)) := by rw [wrc_one g2' a9.cells.1 a9.cells.2 (by simp)]; rfl
      refine ⟨[iv ((i : Int) + 1)], h9.set (h.nx + 2) (.row [iv n, v'] 24 true), ?_, x9.set (by omega) _, by rw [nx_set]; omega, ?_, v', blk_set_self _ _ _, ?_, rfl⟩
      · simp [cell_of hcb, n2, cell_of g2, e9, w22, hst]
        rw [add64 (by omega) (by omega)]
      · rw [blk_set_ne _ _ _ (by omega)]; exact g1'
      · have : (l.take (i + 1)).map Kl.cells = (l.take i).map Kl.cells ++ [c.cells] := by
          rw [List.take_add_one, hc]
          simp
        rw [this]
        refine a9.keep (by rw [nx_set]; omega) fun b hb => blk_set_ne _ _ _ ?_
        rw [hb9] at hb; cases hb; omega)
  have hfin : f33 rn (l.length + 1) (.agg #[iv n, sl]) h = some (.agg #[iv n, sv], h'.set (h.nx + 1) (.row [iv n, sv] 24 true)) := by
    have hst : wrc 2 h' (h.nx + 1) 0 (.agg #[iv n, sv]) = some (h'.set (h.nx + 1) (.row [iv n, sv] 24 true)) := by
      simp only [wrc, hg1]
      rw [if_pos ⟨rfl, by simp, by simp [Value.cells, hap.cells.2]; rfl⟩]
      rfl
    unfold f33
    rw [bx_eq, al_eq]
    rw [show nx (h.new (.row (Value.agg #[iv n, sl]).cells.toList 31 true)) = h.nx + 1 from rfl, d3]
    rw [show ((h.new (.row (Value.agg #[iv n, sl]).cells.toList 31 true)).new (.row [.int .i64 0, .slice none 0 0] 24 true)).cell (nx h) 0 = some (iv n) by simp]
    rw [Option.bind_some, asI_int, kbld24, al_st (zs := [.int .i64 0, .slice none 0 0]) (xs := [.int .i64 n, .slice none 0 0]) sz24 rfl rfl]
    rw [show (H.fresh ((h.new (.row (Value.agg #[iv n, sl]).cells.toList 31 true)).new (.row [.int .i64 0, .slice none 0 0] 24 true)) 24 [.int .i64 0, .slice none 0 0] [.int .i64 n, .slice none 0 0]) = h4 from rfl,
      show ((h.new (.row (Value.agg #[iv n, sl]).cells.toList 31 true)).new (.row [.int .i64 0, .slice none 0 0] 24 true)) = h2 from rfl, d29, nx_eq, cell_of b0]
    rw [show [iv n, sl][off 0 1]? = some sl from rfl, Option.bind_some, hs.len, List.length_map, lp_eq hl]
    simp [n2, rd_of hg2, w24, hst]
  obtain ⟨h9, e9, sm, xw⟩ := x33 hfin (by obtain ⟨x, y, z, hz⟩ := hap.isSl; rw [hz]; rfl) (hx.set (by omega) _)
  refine ⟨sv, h9, e9, xw, SlR.ext ?_ sm.ext⟩
  rw [List.take_length] at hap
  refine (hap.keep (by rw [nx_set]; omega) fun b hb => blk_set_ne _ _ _ ?_).slR
  intro e
  have := (hap.blkOf hb).2.2
  rw [e, hg1] at this
  simp at this

theorem kbld31e (K : Value → Option R) : bld Try.prog 31 [] K = K (.agg #[.int .i64 0, .slice none 0 0]) := bld_some (by kernel_rfl)

theorem kfld31 (a v : Value) (K : Value → Option R) : fld Try.prog 31 (.agg #[a, v]) 1 K = K v := by
  have e : field Try.prog 31 (.agg #[a, v]) 1 = some v := by kernel_rfl
  unfold fld
  rw [e]
  rfl

/-- A result is written into its own place. -/
theorem wrc31 {g : H} {b : Nat} {n : Int} {sv x y : Value} (hg : g.blk b = some (.row [x, y] 31 true)) (hs : scal sv = true) : wrc 2 g b 0 (.agg #[iv n, sv]) = some (g.set b (.row [iv n, sv] 31 true)) := by
  simp only [wrc, hg]
  rw [if_pos ⟨rfl, by simp, by simp [Value.cells, hs]; rfl⟩]
  rfl

theorem s30_bad {n : Int} (hn : n < 1 ∨ 7 < n) (h : H) : ∃ h', rn 30 #[iv n] h = some (.tuple #[.agg #[iv 0, .slice none 0 0], iv 2], h') ∧ Ext h h' := by
  have x1 := Ext.new h (.row [.int .i64 0, .slice none 0 0] 31 true)
  have hw := wrc31 (n := 0) (sv := .slice none 0 0) (blk_new_self h (.row [.int .i64 0, .slice none 0 0] 31 true)) rfl
  refine ⟨_, x30 (k := 0) (h1 := (h.new (.row [.int .i64 0, .slice none 0 0] 31 true)).set h.nx (.row [iv 0, .slice none 0 0] 31 true)) ?_ rfl, (Ext.refl h).new' _ |>.set (Nat.le_refl _) _⟩
  simp [f30, kbld31e, w31, hw]
  grind

theorem s31_bad {n : Int} (hn : n < 1 ∨ 7 < n) (h : H) : rn 31 #[iv n] h = some (.tuple #[iv 0, iv 2], h) := by
  refine p31 (k := 0) (h1 := h) ?_ rfl (.refl _)
  simp [f31]
  grind

theorem s30 {n : Nat} (hn1 : 1 ≤ n) (hn : n ≤ 7) (h : H) : ∃ sv h', rn 30 #[iv n] h = some (.tuple #[.agg #[iv n, sv], iv 0], h') ∧ Ext h h' ∧ SlR h' 56 3 sv ((gossipP n).map Kl.cells) := by
  have x1 := Ext.new h (.row [.int .i64 0, .slice none 0 0] 31 true)
  obtain ⟨sv, h4, e, x4, a⟩ := s76 hn1 hn (h.new (.row [.int .i64 0, .slice none 0 0] 31 true))
  have hb : h4.blk h.nx = some (.row [.int .i64 0, .slice none 0 0] 31 true) := (x4.blk _ (Nat.lt_succ_self _)).trans (blk_new_self _ _)
  have hw := wrc31 (n := n) hb a.cells.2
  have hc := fun (K : Value → H → Option (Value × H)) => calls_eq (K := K) (xs := [_]) e
  refine ⟨sv, _, x30 (k := 0) (h1 := h4.set h.nx (.row [iv n, sv] 31 true)) ?_ (by obtain ⟨x, y, z, hz⟩ := a.isSl; rw [hz]; rfl), (x1.trans x4).set (Nat.le_refl _) _, ?_⟩
  · have h1 : (n = 0) = False := eq_false (by omega)
    have h2 : (7 < n) = False := eq_false (by omega)
    simp [f30, hc, w31, hw, h1, h2, show ¬ (n : Int) < 1 by omega, show ¬ (7 : Int) < n by omega]
  · refine (a.keep (h' := h4.set h.nx (.row [iv n, sv] 31 true)) (Nat.le_refl _) fun q hq => blk_set_ne _ _ _ ?_).slR
    intro e
    have := (a.blkOf hq).1
    rw [nx_new] at this
    omega

theorem s31 {n : Nat} (hn1 : 1 ≤ n) (hn : n ≤ 7) (h : H) : rn 31 #[iv n] h = some (.tuple #[iv (gossipP n).length, iv 0], h) := by
  obtain ⟨sv, h4, e, x4, a⟩ := s76 hn1 hn h
  have hc := fun (K : Value → H → Option (Value × H)) => calls_eq (K := K) (xs := [_]) e
  refine p31 (k := 0) (h1 := h4) ?_ rfl x4
  have h1 : (n = 0) = False := eq_false (by omega)
  have h2 : (7 < n) = False := eq_false (by omega)
  simp [f31, hc, kfld31, a.slR.len, h1, h2, show ¬ (n : Int) < 1 by omega, show ¬ (7 : Int) < n by omega]

theorem s32 {n : Int} {sl : Value} {l : List Kl} {h : H} (hs : SlR h 56 3 sl (l.map Kl.cells)) : rn 32 #[.agg #[iv n, sl]] h = some (.bool (decide (n = 0) && decide (l = [])), h) := by
  refine p32 (k := 0) (h1 := h.new (.row [iv n, sl] 31 true)) ?_ rfl (.new _ _)
  simp [f32, hs.len]
  have h1 : ((l.length : Int) == 0) = decide (l = []) := by
    cases l with
    | nil => rfl
    | cons x l => simp; omega
  rw [h1]
  by_cases h0 : n = 0 <;> simp [h0]

def neededP (n : Int) : Int := if n < 4 then quo .i64 (mul .i64 n (sub .i64 n 1)) 2 else sub .i64 (mul .i64 2 n) 4

theorem s34 (n : Int) (h : H) : rn 34 #[iv n] h = some (iv (neededP n), h) := by
  refine p34 (k := 0) (h1 := h) ?_ rfl (.refl _)
  simp [f34, neededP, nz]
  by_cases h0 : n < 4 <;> simp [h0]

theorem gossip_ok : ∀ n : Fin 8, 1 ≤ n.1 → validP n.1 (gossipP n.1) = true ∧ allP n.1 (newsP n.1 (gossipP n.1)) = true ∧ ((gossipP n.1).length : Int) = neededP n.1 := by decide +kernel

theorem s5 {n : Int} {h : H} : ∃ h', rn 5 #[iv n] h = some (.bool true, h') := by
  by_cases hn : n < 1 ∨ 7 < n
  · obtain ⟨h1, e1, x1⟩ := s30_bad hn h
    have c1 := fun (K : Value → H → Option (Value × H)) => calls_eq (K := K) (xs := [_]) e1
    have hw := wrc31 (n := 0) (sv := .slice none 0 0) (blk_new_self h1 (.row [.int .i64 0, .slice none 0 0] 31 true)) rfl
    have c2 := fun (K : Value → H → Option (Value × H)) => calls_eq (K := K) (xs := [_]) (s31_bad hn ((h1.new (.row [.int .i64 0, .slice none 0 0] 31 true)).set h1.nx (.row [iv 0, .slice none 0 0] 31 true)))
    have c3 := fun (K : Value → H → Option (Value × H)) => calls_eq (K := K) (xs := [_]) (s32 (n := 0) (l := []) (.nil (h := (h1.new (.row [.int .i64 0, .slice none 0 0] 31 true)).set h1.nx (.row [iv 0, .slice none 0 0] 31 true))))
    refine ⟨_, t5 (k := 0) (v := .bool true) (h1 := ((h1.new (.row [.int .i64 0, .slice none 0 0] 31 true)).set h1.nx (.row [iv 0, .slice none 0 0] 31 true))) ?_⟩
    simp [f5, c1, w31, hw, c2, c3]
    grind
  · obtain ⟨m, rfl⟩ := Int.eq_ofNat_of_zero_le (show 0 ≤ n by omega)
    obtain ⟨hv, hal, hne⟩ := gossip_ok ⟨m, by omega⟩ (by simp; omega)
    simp only at hv hal hne
    have hln := (validP_ok hv).2.2.1
    obtain ⟨sv, h1, e1, x1, s1⟩ := s30 (show 1 ≤ m by omega) (show m ≤ 7 by omega) h
    have c1 := fun (K : Value → H → Option (Value × H)) => calls_eq (K := K) (xs := [_]) e1
    obtain ⟨a0, n0, c0, hsv⟩ := s1.isSl
    have hw := wrc31 (n := m) (sv := sv) (blk_new_self h1 (.row [.int .i64 0, .slice none 0 0] 31 true)) (by rw [hsv]; rfl)
    have x2 : Ext h1 ((h1.new (.row [.int .i64 0, .slice none 0 0] 31 true)).set h1.nx (.row [iv m, sv] 31 true)) := (Ext.refl h1).new' _ |>.set (Nat.le_refl _) _
    have b2 : ((h1.new (.row [.int .i64 0, .slice none 0 0] 31 true)).set h1.nx (.row [iv m, sv] 31 true)).blk h1.nx = some (.row [iv m, sv] 31 true) := blk_set_self _ _ _
    generalize hG : (h1.new (.row [.int .i64 0, .slice none 0 0] 31 true)).set h1.nx (.row [iv m, sv] 31 true) = h2 at *
    have c2 := fun (K : Value → H → Option (Value × H)) => calls_eq (K := K) (xs := [_]) (s31 (show 1 ≤ m by omega) (show m ≤ 7 by omega) h2)
    obtain ⟨tv, h3, e3, x3, s3⟩ := s33 (n := m) (s1.ext x2) (by omega)
    have c3 := fun (K : Value → H → Option (Value × H)) => calls_eq (K := K) (xs := [_]) e3
    obtain ⟨a4, n4, c4, htv⟩ := s3.isSl
    have hw4 : ∀ (K : H → Option (Value × H)), (al h3 24 [(.int .i64 0), (.slice none 0 0)] fun h10 => st Try.prog h10 24 (nx h3) 0 (.agg #[iv m, tv]) K) = K (h3.fresh 24 [(.int .i64 0), (.slice none 0 0)] [iv m, tv]) := fun K => al_st (xs := [iv m, tv]) sz24 rfl (by rw [htv]; rfl)
    have x4 := (Ext.refl h3).fresh 24 [(.int .i64 0), (.slice none 0 0)] [iv m, tv]
    have b4 := blk_fresh h3 24 [(.int .i64 0), (.slice none 0 0)] [iv m, tv]
    have s4 := s3.ext x4
    generalize h3.fresh 24 [(.int .i64 0), (.slice none 0 0)] [iv m, tv] = h4 at *
    have c5 := fun (K : Value → H → Option (Value × H)) => calls_eq (K := K) (xs := [_]) (s34 m h4)
    have c6 := fun (K : Value → H → Option (Value × H)) => calls_eq (K := K) (xs := [_]) (s35 (n := m) s4)
    have c7 := fun (K : Value → H → Option (Value × H)) => calls_eq (K := K) (xs := [_]) (s36 (n := m) s4 hv)
    rw [Int.toNat_natCast, hal] at c7
    rw [hv] at c6
    refine ⟨_, t5 (k := 0) (v := .bool true) (h1 := h4) ?_⟩
    unfold f5
    rw [c1, ext20, ext21, asI_int, al_eq, w31, nx_eq, hw, Option.bind_some, c2, ext20, asI_int, ext21, asI_int]
    rw [lt_f (by omega), ifB_false, lt_f (by omega), ifB_false, d31, rd_all (n := 2) b2 rfl, Option.bind_some, c3, hw4]
    simp [c5, c6, c7, rd_all (n := 2) b4 rfl, cell_of b4, s4.len, hne, d24, d22, d3]

end Go.AM

end

section

/- PLAIN: the bound, for the news of a log; calls that tell nothing. -/
namespace Go.AM
def prs (l : List Kl) : List (Nat × Nat) := l.map fun c => (c.a.toNat, c.b.toNat)

theorem run_bits {n : Int} (hn : 0 ≤ n ∧ n ≤ 7) : ∀ (l : List Kl) (L : List Int) (M : List Nat) (K : Kn), (∀ c ∈ l, okC n c = true) → NS 7 L M → (M.length : Int) = n → (∀ p q : Nat, (p : Int) < n → ((M[p]?).any fun x => x.testBit q) = K p q) →
    ∃ M', NS 7 (l.foldl hearP L) M' ∧ (M'.length : Int) = n ∧ ∀ p q : Nat, (p : Int) < n → ((M'[p]?).any fun x => x.testBit q) = gRun K (prs l) p q
  | [], _, M, _, _, h, hl, hK => ⟨M, h, hl, hK⟩
  | c :: l, L, M, K, hok, h, hl, hK => by
    obtain ⟨ha, hb, _⟩ := okC_iff.1 (hok c List.mem_cons_self)
    have hlen := h.len
    refine run_bits hn l _ _ (gStep K (c.a.toNat, c.b.toNat)) (fun d hd => hok d (List.mem_cons_of_mem _ hd)) (hearP_ns h (by omega) (by omega)) (by simp [hearN]; exact hl) fun p q hp => ?_
    rw [hearN_get M _ _ (by omega) (by omega), hK _ q (by omega), hK _ q (by omega), hK p q hp]
    rfl

theorem need_gossip : ∀ n : Fin 8, 1 ≤ n.1 → (gossipP n.1).length = gNeed n.1 := by decide +kernel

/-- A log after which all know all has as many calls as are needed. -/
theorem all_need {n : Int} {l : List Kl} (v : VP n l) (hall : allP n.toNat (newsP n.toNat l) = true) : gNeed n.toNat ≤ l.length := by
  have hn1 := v.n1
  have hn7 := v.n7
  obtain ⟨m, rfl⟩ := Int.eq_ofNat_of_zero_le (show 0 ≤ n by omega)
  obtain ⟨M, hM, hMl, hK⟩ := run_bits (n := (m : Int)) (by omega) l _ _ gOwn v.ok (ownP_ns (n := m) (by omega)) (by simp) fun p q hp => by
    have hpm : p < m := by omega
    simp only [List.getElem?_map, List.getElem?_range hpm, Option.map_some, Option.any_some, testBit_pow, gOwn]
    rfl
  have h2 := gossip_bound m (by omega) (List.range m) (prs l) List.nodup_range List.length_range
    (fun c hc => by
      unfold prs at hc
      obtain ⟨d, hd, rfl⟩ := List.mem_map.1 hc
      obtain ⟨ha, hb, hab, _⟩ := okC_iff.1 (v.ok d hd)
      simp only [List.mem_range]
      omega)
    (fun y hy q hq => by
      have hy' := List.mem_range.1 hy
      have hq' := List.mem_range.1 hq
      rw [← hK y q (by omega)]
      have hyM : y < M.length := by omega
      rw [List.getElem?_eq_getElem hyM, Option.any_some]
      have hmem : ((M[y] : Nat) : Int) ∈ newsP m l := by
        show _ ∈ l.foldl hearP (ownP m)
        rw [hM.1]
        exact List.mem_map.2 ⟨M[y], List.getElem_mem hyM, rfl⟩
      unfold allP at hall
      rw [List.all_eq_true] at hall
      have h1 := of_decide_eq_true (hall _ hmem)
      have hpw : 2 ^ m ≤ 2 ^ 7 := Nat.pow_le_pow_right (by omega) (by omega)
      have hpp : 0 < 2 ^ m := Nat.pow_pos (by omega)
      rw [Int.toNat_natCast, shl1_nat (by omega), sub64 (by omega) (by omega)] at h1
      have h3 : M[y] = 2 ^ m - 1 := by omega
      rw [h3, Nat.testBit_two_pow_sub_one]
      simpa using hq')
  rw [Int.toNat_natCast]
  have : (prs l).length = l.length := by unfold prs; simp
  omega

/-! ### Calls that tell something -/
def keptK (A : List Int) : List Kl → List Kl
  | [] => []
  | c :: l => if freshP A c = true then c :: keptK (hearP A c) l else keptK (hearP A c) l

theorem set_getD (A : List Int) (i : Nat) : A.set i (A.getD i 0) = A := by
  by_cases h : i < A.length
  · have : A.getD i 0 = A[i] := by simp [h]
    rw [this]
    exact List.set_getElem_self h
  · exact List.set_eq_of_length_le (by omega)

theorem hear_idle {A : List Int} {c : Kl} (h : freshP A c = false) : hearP A c = A := by
  unfold freshP at h
  simp only [Bool.or_eq_false_iff, Bool.not_eq_false', beq_iff_eq] at h
  unfold hearP
  simp only
  rw [← h.1, set_getD, h.1, ← h.2, set_getD]

theorem kept_news : ∀ (l : List Kl) (A : List Int), (keptK A l).foldl hearP A = l.foldl hearP A
  | [], _ => rfl
  | c :: l, A => by
    unfold keptK
    split
    · rw [List.foldl_cons, List.foldl_cons]; exact kept_news l _
    · rename_i h
      rw [hear_idle (by simpa using h), List.foldl_cons, hear_idle (by simpa using h)]
      exact kept_news l _

theorem kept_idle : ∀ (l : List Kl) (A : List Int) (i : Nat) (out : List Int), (foldI idleG (keptK A l) i (A, out)).2 = out
  | [], _, _, _ => rfl
  | c :: l, A, i, out => by
    unfold keptK
    split
    · rename_i h
      simp only [foldI, idleG, h, if_true]
      exact kept_idle l _ _ _
    · rename_i h
      rw [hear_idle (by simpa using h)]
      exact kept_idle l _ _ _

theorem kept_sub : ∀ (l : List Kl) (A : List Int), (keptK A l).Sublist l
  | [], _ => .slnil
  | c :: l, A => by
    unfold keptK
    split
    · exact (kept_sub l _).cons_cons _
    · exact (kept_sub l _).cons _

theorem kept_snoc : ∀ (l : List Kl) (A : List Int) (c : Kl), keptK A (l ++ [c]) = keptK A l ++ (if freshP (l.foldl hearP A) c = true then [c] else [])
  | [], A, c => by
    cases h : freshP A c <;> simp [keptK, h]
  | d :: l, A, c => by
    rw [List.cons_append]
    unfold keptK
    rw [kept_snoc l, List.foldl_cons]
    split <;> rfl

theorem VP.kept {n : Int} {l : List Kl} (v : VP n l) (A : List Int) : VP n (keptK A l) :=
  ⟨v.n1, v.n7, Nat.le_trans (kept_sub l A).length_le v.len, fun c hc => v.ok c ((kept_sub l A).subset hc), v.two.sublist (kept_sub l A)⟩

theorem idle_old : ∀ (l : List Kl) (A : List Int) (i : Nat) (out : List Int) (x : Int), x < i → (x ∈ (foldI idleG l i (A, out)).2 ↔ x ∈ out)
  | [], _, _, _, _, _ => Iff.rfl
  | c :: l, A, i, out, x, h => by
    simp only [foldI, idleG]
    rw [idle_old l _ (i + 1) _ x (by omega)]
    split
    · exact Iff.rfl
    · simp; intro e; omega

theorem idle_has : ∀ (l : List Kl) (A : List Int) (i : Nat) (out : List Int), (∀ x ∈ out, x < (i : Int)) → ∀ (j : Nat) (c : Kl), l[j]? = some c → (((i + j : Nat) : Int) ∈ (foldI idleG l i (A, out)).2 ↔ freshP ((l.take j).foldl hearP A) c = false)
  | [], _, _, _, _, j, c, h => by simp at h
  | d :: l, A, i, out, ho, 0, c, h => by
    obtain rfl : d = c := by simpa using h
    simp only [foldI, idleG]
    rw [idle_old l _ (i + 1) _ _ (by omega)]
    have hi : ((i + 0 : Nat) : Int) ∉ out := fun hm => by have := ho _ hm; omega
    simp only [List.take_zero, List.foldl_nil]
    by_cases hf : freshP A d = true
    · rw [if_pos hf, hf]; simp at hi; simp [hi]
    · rw [if_neg hf]; simp [hf]
  | d :: l, A, i, out, ho, j + 1, c, h => by
    simp only [foldI, idleG]
    have := idle_has l (hearP A d) (i + 1) (if freshP A d = true then out else out ++ [(i : Int)]) (fun x hx => by
      split at hx
      · have := ho x hx; omega
      · rcases List.mem_append.1 hx with hx | hx
        · have := ho x hx; omega
        · rw [List.mem_singleton.1 hx]; omega) j c (by simpa using h)
    rw [show i + (j + 1) = i + 1 + j by omega, this, List.take_succ_cons, List.foldl_cons]

end Go.AM

end

section

/- The staged forms of functions 7, and what calls of these answer. -/
namespace Go.AM
open Go.Proofs
noncomputable def f7_l1 (_rec : Rec) (_k : Nat) (h0 : H) (v4 : Value) (n7 : Int) (ws0 : List Value) (h8 : H) : Option (Ex × List Value × H) :=
  asI .i64 (gv ws0 1) fun n8 =>
  ifB (lt n8 n7) (
    asK (gv ws0 1) fun n9 =>
    six v4 n9 1 fun b0 b1 =>
    ld Try.prog h8 3 b0 b1 fun v17 =>
    asI .i64 v17 fun n10 =>
    asB (gv ws0 0) fun q1 =>
    ifB q1 (
      ld Try.prog h8 3 (nx h0) 0 fun v18 =>
      asI .i64 v18 fun n11 =>
      nn n11 (
        asI .i64 (gv ws0 1) fun n12 =>
        out .normal [(.bool (eq n10 (sub .i64 (shl .i64 1 n11) 1))), (.int .i64 (add .i64 n12 1))] h8)) (
      asI .i64 (gv ws0 1) fun n13 =>
      out .normal [(.bool false), (.int .i64 (add .i64 n13 1))] h8)) (
    out (.exit 0) [gv ws0 0, gv ws0 1] h8)

noncomputable def f7_l2 (rec : Rec) (_k : Nat) (v9 : Value) (h9 : H) (v24 : Value) (n16 : Int) (ws2 : List Value) (h13 : H) : Option (Ex × List Value × H) :=
  asI .i64 (gv ws2 0) fun n17 =>
  ifB (lt n17 n16) (
    asK (gv ws2 0) fun n18 =>
    six v24 n18 3 fun b2 b3 =>
    ld Try.prog h13 56 b2 b3 fun v25 =>
    al h13 56 [(.int .i64 0), (.int .i64 0), (.int .i64 0)] fun h14 =>
    st Try.prog h14 56 (nx h13) 0 v25 fun h15 =>
    calls rec h15 44 [v9, gv ws2 0] fun v26 h16 =>
    asB v26 fun q3 =>
    ifB (not q3) (
      ld Try.prog h16 29 (nx h9) (off 0 1) fun v27 =>
      ld Try.prog h16 56 (nx h13) 0 fun v28 =>
      bls Try.prog h16 29 1 [(0, v28)] fun v29 h17 =>
      app Try.prog h17 29 29 v27 v29 fun v30 h18 =>
      st Try.prog h18 29 (nx h9) (off 0 1) v30 fun h19 =>
      asI .i64 (gv ws2 0) fun n19 =>
      out .normal [(.int .i64 (add .i64 n19 1))] h19) (
      asI .i64 (gv ws2 0) fun n20 =>
      out .normal [(.int .i64 (add .i64 n20 1))] h16)) (
    out (.exit 2) [gv ws2 0] h13)

noncomputable def f7_l3 (rec : Rec) (_k : Nat) (v9 : Value) (h9 : H) (v47 : Value) (n26 : Int) (ws4 : List Value) (h29 : H) : Option (Ex × List Value × H) :=
  asI .i64 (gv ws4 0) fun n27 =>
  ifB (lt n27 n26) (
    asK (gv ws4 0) fun n28 =>
    six v47 n28 3 fun b4 b5 =>
    ld Try.prog h29 56 b4 b5 fun v48 =>
    al h29 56 [(.int .i64 0), (.int .i64 0), (.int .i64 0)] fun h30 =>
    st Try.prog h30 56 (nx h29) 0 v48 fun h31 =>
    calls rec h31 44 [v9, gv ws4 0] fun v49 h32 =>
    asB v49 fun q8 =>
    ifB (not q8) (
      ld Try.prog h32 29 (nx h9) (off 0 1) fun v50 =>
      ld Try.prog h32 56 (nx h29) 0 fun v51 =>
      bls Try.prog h32 29 1 [(0, v51)] fun v52 h33 =>
      app Try.prog h33 29 29 v50 v52 fun v53 h34 =>
      st Try.prog h34 29 (nx h9) (off 0 1) v53 fun h35 =>
      asI .i64 (gv ws4 0) fun n29 =>
      out .normal [(.int .i64 (add .i64 n29 1))] h35) (
      asI .i64 (gv ws4 0) fun n30 =>
      out .normal [(.int .i64 (add .i64 n30 1))] h32)) (
    out (.exit 2) [gv ws4 0] h29)

noncomputable def f7 (rec : Rec) (k : Nat) (v0 : Value) (h0 : H) : Option (Value × H) :=
  bx h0 24 v0 fun h1 =>
  ld Try.prog h1 24 (nx h0) 0 fun v1 =>
  calls rec h1 18 [v1] fun v2 h2 =>
  calls rec h2 37 [v2] fun v3 h3 =>
  ext v3 0 fun v4 =>
  ext v3 1 fun v5 =>
  asI .i64 v5 fun n0 =>
  ld Try.prog h3 24 (nx h0) 0 fun v6 =>
  calls rec h3 18 [v6] fun v7 h4 =>
  calls rec h4 39 [v7] fun v8 h5 =>
  ext v8 0 fun v9 =>
  ext v8 1 fun v10 =>
  asI .i64 v10 fun n1 =>
  ld Try.prog h5 3 (nx h0) 0 fun v11 =>
  asI .i64 v11 fun n2 =>
  calls rec h5 31 [(.int .i64 n2)] fun v12 h6 =>
  ext v12 0 fun v13 =>
  asI .i64 v13 fun n3 =>
  ext v12 1 fun v14 =>
  asI .i64 v14 fun n4 =>
  ifB (not (eq n0 0)) (
    ifB (eq n0 2) (
      ifB (eq n1 2) (
        calls rec h6 22 [] fun v15 h7 =>
        asB v15 fun q0 =>
        some ((.bool q0), h7)) (
        some ((.bool false), h6))) (
      some ((.bool false), h6))) (
    ifB (not (eq n1 0)) (
      some ((.bool false), h6)) (
      ifB (not (eq n4 0)) (
        some ((.bool false), h6)) (
        len v4 fun n5 =>
        ld Try.prog h6 3 (nx h0) 0 fun v16 =>
        asI .i64 v16 fun n6 =>
        ifB (not (eq n5 n6)) (
          some ((.bool false), h6)) (
          len v4 fun n7 =>
          lp k (f7_l1 rec k h0 v4 n7) [(.bool true), (.int .i64 0)] h6 fun e0 ws1 h9 =>
          onE e0 0 (
            asB (gv ws1 0) fun q2 =>
            ifB q2 (
              ld Try.prog h9 22 (nx h0) (off 0 1) fun v19 =>
              len v19 fun n14 =>
              ifB (lt n14 n3) (
                some ((.bool false), h9)) (
                ld Try.prog h9 3 (nx h0) 0 fun v20 =>
                asI .i64 v20 fun n15 =>
                bld Try.prog 31 [(0, (.int .i64 n15))] fun v21 =>
                al h9 31 [(.int .i64 0), (.slice none 0 0)] fun h10 =>
                st Try.prog h10 31 (nx h9) 0 v21 fun h11 =>
                ld Try.prog h11 24 (nx h0) 0 fun v22 =>
                calls rec h11 18 [v22] fun v23 h12 =>
                fld Try.prog 31 v23 1 fun v24 =>
                len v24 fun n16 =>
                lp k (f7_l2 rec k v9 h9 v24 n16) [(.int .i64 0)] h12 fun e1 _ h20 =>
                onE e1 2 (
                  ld Try.prog h20 31 (nx h9) 0 fun v31 =>
                  calls rec h20 37 [v31] fun v32 h21 =>
                  ext v32 0 fun v33 =>
                  ext v32 1 fun v34 =>
                  asI .i64 v34 fun n21 =>
                  ld Try.prog h21 31 (nx h9) 0 fun v35 =>
                  calls rec h21 39 [v35] fun v36 h22 =>
                  ext v36 0 fun v37 =>
                  ext v36 1 fun v38 =>
                  asI .i64 v38 fun n22 =>
                  ifB (eq n21 0) (
                    ifB (eq n22 0) (
                      calls rec h22 26 [v4, v33] fun v39 h23 =>
                      asB v39 fun q4 =>
                      ifB q4 (
                        len v37 fun n23 =>
                        ifB (eq n23 0) (
                          asB (gv ws1 0) fun q5 =>
                          ifB (not q5) (
                            calls rec h23 22 [] fun v40 h24 =>
                            asB v40 fun q6 =>
                            some ((.bool q6), h24)) (
                            ld Try.prog h23 29 (nx h9) (off 0 1) fun v41 =>
                            len v41 fun n24 =>
                            ifB (le n3 n24) (
                              calls rec h23 22 [] fun v42 h25 =>
                              asB v42 fun q7 =>
                              some ((.bool q7), h25)) (
                              some ((.bool false), h23)))) (
                          some ((.bool false), h23))) (
                        some ((.bool false), h23))) (
                      some ((.bool false), h22))) (
                    some ((.bool false), h22))) (
                  none))) (
              ld Try.prog h9 3 (nx h0) 0 fun v43 =>
              asI .i64 v43 fun n25 =>
              bld Try.prog 31 [(0, (.int .i64 n25))] fun v44 =>
              al h9 31 [(.int .i64 0), (.slice none 0 0)] fun h26 =>
              st Try.prog h26 31 (nx h9) 0 v44 fun h27 =>
              ld Try.prog h27 24 (nx h0) 0 fun v45 =>
              calls rec h27 18 [v45] fun v46 h28 =>
              fld Try.prog 31 v46 1 fun v47 =>
              len v47 fun n26 =>
              lp k (f7_l3 rec k v9 h9 v47 n26) [(.int .i64 0)] h28 fun e2 _ h36 =>
              onE e2 2 (
                ld Try.prog h36 31 (nx h9) 0 fun v54 =>
                calls rec h36 37 [v54] fun v55 h37 =>
                ext v55 0 fun v56 =>
                ext v55 1 fun v57 =>
                asI .i64 v57 fun n31 =>
                ld Try.prog h37 31 (nx h9) 0 fun v58 =>
                calls rec h37 39 [v58] fun v59 h38 =>
                ext v59 0 fun v60 =>
                ext v59 1 fun v61 =>
                asI .i64 v61 fun n32 =>
                ifB (eq n31 0) (
                  ifB (eq n32 0) (
                    calls rec h38 26 [v4, v56] fun v62 h39 =>
                    asB v62 fun q9 =>
                    ifB q9 (
                      len v60 fun n33 =>
                      ifB (eq n33 0) (
                        asB (gv ws1 0) fun q10 =>
                        ifB (not q10) (
                          calls rec h39 22 [] fun v63 h40 =>
                          asB v63 fun q11 =>
                          some ((.bool q11), h40)) (
                          ld Try.prog h39 29 (nx h9) (off 0 1) fun v64 =>
                          len v64 fun n34 =>
                          ifB (le n3 n34) (
                            calls rec h39 22 [] fun v65 h41 =>
                            asB v65 fun q12 =>
                            some ((.bool q12), h41)) (
                            some ((.bool false), h39)))) (
                        some ((.bool false), h39))) (
                      some ((.bool false), h39))) (
                    some ((.bool false), h38))) (
                  some ((.bool false), h38))) (
                none))) (
            none)))))

theorem e7 (rec : Rec) (k : Nat) (v0 : Value) (h : H) : bodyT Try.prog E0 SC (XC Try.prog rec k) 7 (Value × H) [.opq v0] h (fun v h => some (v, h)) = f7 rec k v0 h := by kernel_rfl

theorem t7 {k : Nat} {v0 : Value} {h h1 : H} {v : Value} (hh : f7 rn k v0 h = some (v, h1)) : rn 7 #[v0] h = some (v, trunc Try.prog h h1 v) :=
  run_of_bodyT (args := [.opq v0]) rfl ((e7 _ _ _ _).trans hh)

theorem p7 {k : Nat} {v0 : Value} {h h1 : H} {v : Value} (hh : f7 rn k v0 h = some (v, h1)) (hp : plainO v = true) (x : Ext h h1) : rn 7 #[v0] h = some (v, h) := by rw [t7 hh, trunc_pure hp x]

theorem x7 {k : Nat} {v0 : Value} {h h1 : H} {v : Value} (hh : f7 rn k v0 h = some (v, h1)) (hp : plainO v = false) : rn 7 #[v0] h = some (v, h1) := by rw [t7 hh, trunc_not hp]

end Go.AM

end

section

/- CallsEnough, on the abstract machine. -/
namespace Go.AM
open Go.Proofs
variable {k : Nat} {R : Type}
theorem s80 {v : Value} {x : Int} {l : List Int} {h : H} (hs : SlR h 3 1 v (cellsI l)) : ∃ r, rn 80 #[v, iv x] h = some (iv r, h) ∧ le 0 r = decide (x ∈ l) := by
  have hlen := hs.lt62
  rw [List.length_map] at hlen
  have hn0 : ∀ {T : Type} (K : Int → Option T), len v K = K (l.length : Int) := fun K => by rw [hs.len]; simp
  have hl := lp_same (F := f80_l1 rn (l.length + 1) v x l.length) (k := l.length + 1) (l := l) (h := h) (fun i (_ : Unit) => [iv 0, iv i])
    (fun i y s => if (!decide (x = y)) = true then .inl s else .inr i) (fun _ _ => True) (fun _ => .ret) (fun i => [iv i, iv i]) 0 (fun _ => [iv 0, iv l.length]) (ws := [iv 0, iv 0]) (s0 := ()) rfl trivial (by omega) (by simp)
    (fun _ _ => by
      unfold f80_l1
      rw [show gv [iv 0, iv (l.length : Int)] 1 = iv (l.length : Int) from rfl, asI_int, lt_f (by omega), ifB_false]
      rfl)
    (by
      intro i c _ hc _
      have hi := (List.getElem?_eq_some_iff.1 hc).1
      refine ⟨fun _ _ => trivial, ?_⟩
      unfold f80_l1
      rw [show gv [iv 0, iv i] 1 = iv i from rfl, asI_int, lt_t (by omega), ifB_true, asK_int]
      simp only [d3]
      rw [hs.c0 (by omega) (x := [iv c]) (by simp [hc]) rfl, asI_int, asI_int, add64 (by omega) (by omega)]
      by_cases hpc : x = c
      · rw [eq_t hpc, ifB_true]; simp [hpc, out, rnd, gv]
      · rw [eq_f hpc, ifB_false]; simp [hpc, out, rnd, gv])
  rcases itL_all (ok := fun _ y => !decide (x = y)) (g := fun i _ => i) (s0 := ()) l 0 with ⟨⟨r, h1⟩, j, y, hy, h2⟩ | ⟨h1, h2⟩
  · rw [h1] at hl
    refine ⟨r, p80 (k := l.length + 1) ?_ rfl (.refl _), ?_⟩
    · unfold f80
      rw [hn0, lp_eq hl]
      rfl
    · rw [le_t (by omega)]
      symm
      have : x = y := by simpa using h2
      rw [decide_eq_true_eq, this]
      exact List.mem_of_getElem? hy
  · rw [h1] at hl
    refine ⟨-1, p80 (k := l.length + 1) ?_ rfl (.refl _), ?_⟩
    · unfold f80
      rw [hn0, lp_eq hl.1]
      rfl
    · symm
      show _ = false
      rw [decide_eq_false_iff_not]
      intro hx
      obtain ⟨j, hj, rfl⟩ := List.getElem_of_mem hx
      have := h2 j _ (List.getElem?_eq_getElem hj)
      simp at this

theorem s44 {v : Value} {x : Int} {l : List Int} {h : H} (hs : SlR h 3 1 v (cellsI l)) : rn 44 #[v, iv x] h = some (.bool (decide (x ∈ l)), h) := by
  obtain ⟨r, e, hr⟩ := s80 (x := x) hs
  refine p44 (k := 0) ?_ rfl (.refl _)
  unfold f44
  rw [calls_eq (xs := [_, _]) e, asI_int, hr]

theorem l7_same : f7_l3 = f7_l2 := by kernel_rfl

/-- All have all news. -/
theorem l71 {h0 g : H} {m : Nat} {sl v : Value} {N : List Int} (hb : g.blk h0.nx = some (.row [iv m, sl] 24 true)) (hs : SlR g 3 1 v (cellsI N)) (hN : N.length < 30) :
    ∃ w, lpGo (f7_l1 rn 40 h0 v N.length) 40 [.bool true, iv 0] g = some (.exit 0, w, g) ∧ gv w 0 = .bool (allP m N) := by
  obtain ⟨e, w, g', hl, rfl, rfl, hw⟩ := lp_range (F := f7_l1 rn 40 h0 v N.length) (k := 40) (n := N.length)
    (fun i ws h => ws = [.bool (allP m (N.take i)), iv (i : Int)] ∧ h = g) (fun e ws h => e = .exit 0 ∧ h = g ∧ gv ws 0 = .bool (allP m N))
    (by
      rintro i ws h hi ⟨rfl, rfl⟩
      obtain ⟨x, hx⟩ : ∃ x, N[i]? = some x := ⟨_, List.getElem?_eq_getElem hi⟩
      have hadd : add .i64 (i : Int) 1 = ((i + 1 : Nat) : Int) := by rw [add64 (by omega) (by omega)]; omega
      have hall : allP m (N.take (i + 1)) = (allP m (N.take i) && eq x (sub .i64 (shl .i64 1 m) 1)) := by
        unfold allP
        rw [List.take_add_one, hx, List.all_append]
        simp [eq, Bool.beq_eq_decide_eq]
      refine ⟨.normal, [.bool (allP m (N.take (i + 1))), iv ((i + 1 : Nat) : Int)], h, ?_, .inl ⟨rfl, rfl, rfl⟩⟩
      unfold f7_l1
      rw [show ∀ q : Bool, gv [.bool q, iv (i : Int)] 1 = iv (i : Int) from fun _ => rfl, show ∀ q : Bool, gv [.bool q, iv (i : Int)] 0 = .bool q from fun _ => rfl, asI_int, lt_t (by omega), ifB_true, asK_int]
      simp only [d3]
      rw [hs.c0 (by omega) (x := [iv x]) (by simp [hx]) rfl, asI_int, asB_bool, asI_int, nx_eq, cell_of hb, List.getElem?_cons_zero, Option.bind_some, asI_int, nn_ge (by omega), hadd, hall]
      cases allP m (N.take i)
      · rfl
      · rw [ifB_true, asI_int, hadd]; rfl)
    (by
      rintro ws h ⟨rfl, rfl⟩
      refine ⟨.exit 0, [.bool (allP m (N.take N.length)), iv (N.length : Int)], h, ?_, by simp, rfl, rfl, by rw [List.take_length]; rfl⟩
      unfold f7_l1
      rw [show ∀ q : Bool, gv [.bool q, iv (N.length : Int)] 1 = iv (N.length : Int) from fun _ => rfl, asI_int, lt_f (by omega), ifB_false]
      rfl)
    (ws := [.bool true, iv 0]) (h := g) (by omega) ⟨by simp [allP], rfl⟩
  exact ⟨w, hl, hw⟩

theorem SlR.keepT {h h' : H} {e : TypeId} {s : Nat} {v : Value} {l : List (List Value)} (a : SlR h e s v l) (hn : h.nx ≤ h'.nx) (hb : ∀ b cs o, b < h.nx → h.blk b = some (.row cs e o) → h'.blk b = h.blk b) : SlR h' e s v l := by
  cases a with
  | nil => exact .nil
  | at_ h1 h2 h3 h4 h5 h6 => exact .at_ (Nat.lt_of_lt_of_le h1 hn) ((hb _ _ _ h1 h2).trans h2) h3 h4 h5 h6

/-- The calls that are kept. -/
theorem l72 {h9 h12 : H} {n : Int} {v9 sl : Value} {l : List Kl} {m : Nat} (hlt : h9.nx < h12.nx) (hb : h12.blk h9.nx = some (.row [iv n, .slice none 0 0] 31 true)) (hi : SlR h12 3 1 v9 (cellsI (idleP m l))) (hs : SlR h12 56 3 sl (l.map Kl.cells)) (hl24 : l.length ≤ 24) :
    ∃ w g sv, lpGo (f7_l2 rn 40 v9 h9 sl l.length) 40 [iv 0] h12 = some (.exit 2, w, g) ∧ h12.nx ≤ g.nx ∧ (∀ b, b < h12.nx → b ≠ h9.nx → g.blk b = h12.blk b) ∧ g.blk h9.nx = some (.row [iv n, sv] 31 true) ∧ SlR g 56 3 sv ((keptK (ownP m) l).map Kl.cells) := by
  obtain ⟨ws', g', hl, hn, hk, hb', sv, hsv, hap, rfl⟩ := lp_for (F := f7_l2 rn 40 v9 h9 sl l.length) (k := 40) (l := l) (fun _ _ (_ : Unit) => ())
    (fun i _ ws g => h12.nx ≤ g.nx ∧ (∀ b, b < h12.nx → b ≠ h9.nx → g.blk b = h12.blk b) ∧ True ∧ ∃ sv, g.blk h9.nx = some (.row [iv n, sv] 31 true) ∧ AqR h12.nx g 56 3 sv ((keptK (ownP m) (l.take i)).map Kl.cells) ∧ ws = [iv i]) 2 (ws := [iv 0]) (h := h12) (s0 := ())
    ⟨Nat.le_refl _, fun _ _ _ => rfl, trivial, _, hb, .nil, rfl⟩ (by omega)
    (by
      rintro _ ws g ⟨_, _, _, sv, _, _, rfl⟩
      unfold f7_l2
      rw [show gv [iv (l.length : Int)] 0 = iv (l.length : Int) from rfl, asI_int, lt_f (by omega), ifB_false]
      rfl)
    (by
      rintro i c _ ws g hc ⟨hn, hk, _, sv, hg2, hap, rfl⟩
      have hil := (List.getElem?_eq_some_iff.1 hc).1
      have kt : ∀ (e : TypeId), e ≠ 31 → ∀ b cs o, b < h12.nx → h12.blk b = some (.row cs e o) → g.blk b = h12.blk b := fun e he b cs o hbl hr => hk b hbl fun e' => by
        rw [e', hb] at hr
        simp at hr
        exact he hr.2.1.symm
      have hs' := hs.keepT hn (kt 56 (by decide))
      have hi' := hi.keepT hn (kt 3 (by decide))
      have y7 := (Ext.refl g).fresh 56 [iv 0, iv 0, iv 0] c.cells
      have hcb := blk_fresh g 56 [iv 0, iv 0, iv 0] c.cells
      have n7 : (g.fresh 56 [iv 0, iv 0, iv 0] c.cells).nx = g.nx + 1 := rfl
      have hadd : add .i64 (i : Int) 1 = (i : Int) + 1 := add64 (by omega) (by omega)
      have hmem : (((i : Nat) : Int) ∈ idleP m l ↔ freshP ((l.take i).foldl hearP (ownP m)) c = false) := by
        have := idle_has l (ownP m) 0 [] (by simp) i c hc
        rw [Nat.zero_add] at this
        exact this
      have hsnoc : keptK (ownP m) (l.take (i + 1)) = keptK (ownP m) (l.take i) ++ (if freshP ((l.take i).foldl hearP (ownP m)) c = true then [c] else []) := by
        rw [List.take_add_one, hc]
        exact kept_snoc _ _ _
      unfold f7_l2
      rw [show gv [iv i] 0 = iv i from rfl, asI_int, lt_t (by omega), ifB_true, asK_int, hs'.ldA ag56 sz56 (by omega) (x := c.cells) (by simp [hc])]
      rw [al_st (zs := [iv 0, iv 0, iv 0]) (xs := c.cells) sz56 rfl rfl, calls_eq (xs := [_, _]) (s44 (hi'.ext y7)), asB_bool]
      have hlt9 : h9.nx < g.nx := by omega
      have g2 := (y7.blk h9.nx (by omega)).trans hg2
      have a7 := hap.ext y7
      generalize g.fresh 56 [iv 0, iv 0, iv 0] c.cells = h7 at *
      have k7 : ∀ b, b < h12.nx → b ≠ h9.nx → h7.blk b = h12.blk b := fun b hbl hne => (y7.blk b (by omega)).trans (hk b hbl hne)
      by_cases hf : freshP ((l.take i).foldl hearP (ownP m)) c = true
      · have hnm : ¬ ((i : Nat) : Int) ∈ idleP m l := fun hm => by rw [hmem.1 hm] at hf; cases hf
        rw [decide_eq_false hnm, Bool.not_false, ifB_true]
        rw [hf, if_pos rfl] at hsnoc
        have hkl : (keptK (ownP m) (l.take i)).length ≤ 24 := by
          have := (kept_sub (l.take i) (ownP m)).length_le
          rw [List.length_take] at this
          omega
        obtain ⟨v', h8, e9, a9, n9, k9, b9, hb9, hb9'⟩ := a7.push app29 app29 (bls29 c) rfl rfl (by rw [List.length_map]; omega) (by omega)
        have nosv : ∀ b, b < h12.nx → AM.blkOf sv ≠ some b := fun b hbl e => by have := (a7.blkOf e).1; omega
        have g2' := (k9 h9.nx (by omega) (nosv _ hlt)).trans g2
        have hst : wrc 1 h8 h9.nx 1 v' = some (h8.set h9.nx (.row [iv n, v'] 31 true)) := by rw [wrc_one g2' a9.cells.1 a9.cells.2 (by simp)]; rfl
        refine ⟨[iv ((i : Int) + 1)], h8.set h9.nx (.row [iv n, v'] 31 true), ?_, by rw [nx_set]; omega, fun b hbl hne => ?_, trivial, v', blk_set_self _ _ _, ?_, rfl⟩
        · rw [d29, nx_eq, nx_eq, cell_of g2, show ([iv n, sv] : List Value)[off 0 1]? = some sv from rfl, Option.bind_some, d56, rd_all (n := 3) hcb rfl, Option.bind_some, show c.cells.toArray = #[.int .i64 c.a, .int .i64 c.b, .int .i64 c.t] from rfl, e9, w29, show off 0 1 = 1 from rfl, hst, Option.bind_some, asI_int, hadd]
          rfl
        · rw [blk_set_ne _ _ _ hne, k9 b (by omega) (nosv b hbl)]
          exact k7 b hbl hne
        · rw [hsnoc, List.map_append]
          refine AqR.keep (h := h8) (by simpa using a9) (by rw [nx_set]; omega) fun b hb => blk_set_ne _ _ _ ?_
          rw [hb9] at hb; cases hb; omega
      · have hm : ((i : Nat) : Int) ∈ idleP m l := hmem.2 (by simpa using hf)
        rw [decide_eq_true hm, Bool.not_true, ifB_false]
        rw [if_neg hf, List.append_nil] at hsnoc
        refine ⟨[iv ((i : Int) + 1)], h7, ?_, by omega, k7, trivial, sv, g2, by rw [hsnoc]; exact a7, rfl⟩
        rw [asI_int, hadd]
        rfl)
  rw [List.take_length] at hap
  exact ⟨_, g', sv, hl, hn, hk, hsv, hap.slR⟩

theorem s7 {n : Int} {sl : Value} {l : List Kl} {h : H} (hs : SlR h 59 3 sl (l.map Kl.cells)) : ∃ h', rn 7 #[.agg #[iv n, sl]] h = some (.bool true, h') := by
  have x1 : Ext h (h.new (.row [iv n, sl] 24 true)) := .new _ _
  have b1 : (h.new (.row [iv n, sl] 24 true)).blk h.nx = some (.row [iv n, sl] 24 true) := blk_new_self _ _
  have n1 : h.nx < (h.new (.row [iv n, sl] 24 true)).nx := Nat.lt_succ_self _
  have start : ∃ h1, f7 rn 40 (.agg #[iv n, sl]) h = some (.bool true, h1) := by
    unfold f7
    rw [bx_eq, nx_eq, show (Value.agg #[iv n, sl]).cells.toList = [iv n, sl] from rfl]
    generalize h.new (.row [iv n, sl] 24 true) = h1 at *
    have ld1 : ∀ (g : H), Ext h1 g → ∀ (K : Value → Option (Value × H)), ld Try.prog g 24 h.nx 0 K = K (.agg #[iv n, sl]) := fun g x K => by
      rw [d24, rd_all (n := 2) ((x.blk _ n1).trans b1) rfl]; rfl
    have ldn : ∀ (g : H), Ext h1 g → ∀ (K : Value → Option (Value × H)), ld Try.prog g 3 h.nx 0 K = K (iv n) := fun g x K => by
      rw [d3, cell_of ((x.blk _ n1).trans b1)]; rfl
    have ldc : ∀ (g : H), Ext h1 g → ∀ (K : Value → Option (Value × H)), ld Try.prog g 22 h.nx (off 0 1) K = K sl := fun g x K => by
      rw [d22, cell_of ((x.blk _ n1).trans b1)]; rfl
    obtain ⟨la, h2, e2, x2, s2⟩ := s18 (n := n) (hs.ext x1)
    rw [ld1 _ (.refl _), calls_eq (xs := [_]) e2]
    cases hv : validP n l with
    | false =>
      have hv' : validP n (l.take 26) = false := by rw [validP_take]; exact hv
      obtain ⟨h3, e3, x3⟩ := s37_bad s2 hv'
      rw [calls_eq (xs := [_]) e3, ext20, ext21, asI_int]
      have x13 := x2.trans x3
      rw [ld1 _ x13]
      obtain ⟨lb, h4, e4, x4, s4⟩ := s18 (n := n) (hs.ext (x1.trans x13))
      rw [calls_eq (xs := [_]) e4]
      obtain ⟨h5, e5, x5⟩ := s39_bad s4 hv'
      have x15 := (x13.trans x4).trans x5
      rw [calls_eq (xs := [_]) e5, ext20, ext21, asI_int, ldn _ x15, asI_int]
      have f31 : ∃ z e : Int, rn 31 #[iv n] h5 = some (.tuple #[iv z, iv e], h5) := by
        by_cases hn : n < 1 ∨ 7 < n
        · exact ⟨_, _, s31_bad hn h5⟩
        · obtain ⟨m, rfl⟩ := Int.eq_ofNat_of_zero_le (show 0 ≤ n by omega)
          exact ⟨_, _, s31 (by omega) (by omega) h5⟩
      obtain ⟨z, e, e31⟩ := f31
      rw [calls_eq (xs := [_]) e31, ext20, asI_int, ext21, asI_int, eq_f (by omega), Bool.not_false, ifB_true, eq_t rfl, ifB_true, ifB_true, k22]
      exact ⟨_, by rw [asB_bool]⟩
    | true =>
      have v := vp_iff.1 hv
      have hn1 := v.n1
      have hn7 := v.n7
      have hl24 := v.len
      have hl : l.take 26 = l := List.take_of_length_le (by omega)
      rw [hl] at s2
      obtain ⟨m, rfl⟩ := Int.eq_ofNat_of_zero_le (show 0 ≤ n by omega)
      obtain ⟨va, h3, e3, x3, sa⟩ := s37 s2 hv
      rw [calls_eq (xs := [_]) e3, ext20, ext21, asI_int]
      have x13 := x2.trans x3
      rw [ld1 _ x13]
      obtain ⟨lb, h4, e4, x4, s4⟩ := s18 (n := (m : Int)) (hs.ext (x1.trans x13))
      rw [hl] at s4
      rw [calls_eq (xs := [_]) e4]
      obtain ⟨vi, h5, e5, x5, si⟩ := s39 s4 hv
      have x15 := (x13.trans x4).trans x5
      rw [calls_eq (xs := [_]) e5, ext20, ext21, asI_int, ldn _ x15, asI_int]
      have e31 := s31 (n := m) (by omega) (by omega) h5
      have hgn : ((gossipP m).length : Int) = (gNeed m : Int) := by
        have := need_gossip ⟨m, by omega⟩ (by simp; omega)
        exact congrArg _ this
      rw [calls_eq (xs := [_]) e31, ext20, asI_int, ext21, asI_int, eq_t rfl, Bool.not_true, ifB_false, ifB_false, ifB_false, hgn]
      have sa5 := sa.ext (x4.trans x5)
      have lva : ∀ {T : Type} (K : Int → Option T), len va K = K (m : Int) := fun K => by rw [sa5.len]; simp [newsP_len]
      have hNl : (newsP (m : Int).toNat l).length = m := by rw [newsP_len]; omega
      obtain ⟨w, hlp, hw0⟩ := l71 (h0 := h) (m := m) (N := newsP (m : Int).toNat l) ((x15.blk _ n1).trans b1) sa5 (by omega)
      rw [hNl] at hlp
      rw [lva, ldn _ x15, asI_int, eq_t rfl, Bool.not_true, ifB_false, lva, lp_eq hlp, onE_exit, if_pos rfl, hw0, asB_bool]
      -- the log without its idle calls
      have y9 : Ext h5 (h5.fresh 31 [.int .i64 0, .slice none 0 0] [iv m, .slice none 0 0]) := (Ext.refl _).fresh _ _ _
      have b9 := blk_fresh h5 31 [.int .i64 0, .slice none 0 0] [iv m, .slice none 0 0]
      have n9 : (h5.fresh 31 [.int .i64 0, .slice none 0 0] [iv m, .slice none 0 0]).nx = h5.nx + 1 := rfl
      have tail : ∀ (q : Bool), q = allP m (newsP (m : Int).toNat l) → ∃ h', (ld Try.prog h5 3 h.nx 0 fun v43 =>
              asI .i64 v43 fun n25 =>
              bld Try.prog 31 [(0, (.int .i64 n25))] fun v44 =>
              al h5 31 [(.int .i64 0), (.slice none 0 0)] fun h26 =>
              st Try.prog h26 31 (nx h5) 0 v44 fun h27 =>
              ld Try.prog h27 24 h.nx 0 fun v45 =>
              calls rn h27 18 [v45] fun v46 h28 =>
              fld Try.prog 31 v46 1 fun v47 =>
              len v47 fun n26 =>
              lp 40 (f7_l2 rn 40 vi h5 v47 n26) [(.int .i64 0)] h28 fun e2 ws5 h36 =>
              onE e2 2 (
                ld Try.prog h36 31 (nx h5) 0 fun v54 =>
                calls rn h36 37 [v54] fun v55 h37 =>
                ext v55 0 fun v56 =>
                ext v55 1 fun v57 =>
                asI .i64 v57 fun n31 =>
                ld Try.prog h37 31 (nx h5) 0 fun v58 =>
                calls rn h37 39 [v58] fun v59 h38 =>
                ext v59 0 fun v60 =>
                ext v59 1 fun v61 =>
                asI .i64 v61 fun n32 =>
                ifB (eq n31 0) (
                  ifB (eq n32 0) (
                    calls rn h38 26 [va, v56] fun v62 h39 =>
                    asB v62 fun q9 =>
                    ifB q9 (
                      len v60 fun n33 =>
                      ifB (eq n33 0) (
                        asB (.bool q) fun q10 =>
                        ifB (not q10) (
                          calls rn h39 22 [] fun v63 h40 =>
                          asB v63 fun q11 =>
                          some ((.bool q11), h40)) (
                          ld Try.prog h39 29 (nx h5) (off 0 1) fun v64 =>
                          len v64 fun n34 =>
                          ifB (le (gNeed m : Int) n34) (
                            calls rn h39 22 [] fun v65 h41 =>
                            asB v65 fun q12 =>
                            some ((.bool q12), h41)) (
                            some ((.bool false), h39)))) (
                        some ((.bool false), h39))) (
                      some ((.bool false), h39))) (
                    some ((.bool false), h38))) (
                  some ((.bool false), h38))) (
                none) : Option (Value × H)) = some (.bool true, h') := by
        intro q hq
        rw [ldn _ x15, asI_int, kbld31, al_st (zs := [.int .i64 0, .slice none 0 0]) (xs := [iv m, .slice none 0 0]) sz31 rfl rfl]
        generalize h5.fresh 31 [.int .i64 0, .slice none 0 0] [iv m, .slice none 0 0] = h11 at *
        have x111 := x15.trans y9
        obtain ⟨lc, h12, e12, x12, s12⟩ := s18 (n := (m : Int)) (hs.ext (x1.trans x111))
        rw [hl] at s12
        have lln : ∀ {T : Type} (K : Int → Option T), len lc K = K (l.length : Int) := fun K => by rw [s12.len]; simp
        have hlt : h5.nx < h12.nx := Nat.lt_of_lt_of_le (by omega) x12.nx
        have b12 := (x12.blk h5.nx (by omega)).trans b9
        have yy : Ext h5 h12 := y9.trans x12
        obtain ⟨w2, g, sv, hl2, hgn2, hgk, hg2, hsg⟩ := l72 (m := (m : Int).toNat) hlt b12 (si.ext yy) s12 hl24
        rw [ld1 _ x111, calls_eq (xs := [_]) e12, kfld31, lln, lp_eq hl2, onE_exit, if_pos rfl]
        have ldg : ∀ (g' : H), Ext g g' → ∀ (K : Value → Option (Value × H)), ld Try.prog g' 31 (nx h5) 0 K = K (.agg #[iv m, sv]) := fun g' x K => by
          rw [d31, nx_eq, rd_all (n := 2) ((x.blk _ (by omega)).trans hg2) rfl]; rfl
        have vk := v.kept (ownP (m : Int).toNat)
        have hvk := vp_iff.2 vk
        obtain ⟨vb, h21, e21, x21, sb⟩ := s37 hsg hvk
        obtain ⟨vj, h22, e22, x22, sj⟩ := s39 (hsg.ext x21) hvk
        rw [ldg _ (.refl _), calls_eq (xs := [_]) e21, ext20, ext21, asI_int, ldg _ x21, calls_eq (xs := [_]) e22, ext20, ext21, asI_int, eq_t rfl, ifB_true, ifB_true]
        have hnews : newsP (m : Int).toNat (keptK (ownP (m : Int).toNat) l) = newsP (m : Int).toNat l := kept_news _ _
        have hidle : idleP (m : Int).toNat (keptK (ownP (m : Int).toNat) l) = [] := kept_idle _ _ _ _
        rw [hnews] at sb
        rw [hidle] at sj
        have kt : ∀ b cs o, b < h12.nx → h12.blk b = some (.row cs 3 o) → g.blk b = h12.blk b := fun b cs o hbl hr => hgk b hbl fun e' => by
          rw [e', b12] at hr
          simp at hr
        have sag := ((sa5.ext yy).keepT hgn2 kt).ext (x21.trans x22)
        have lvj : ∀ {T : Type} (K : Int → Option T), len vj K = K 0 := fun K => by rw [sj.len]; rfl
        rw [k26 sag (sb.ext x22), decide_eq_true rfl, asB_bool, ifB_true, lvj, eq_t rfl, ifB_true, asB_bool]
        cases q with
        | false => exact ⟨_, by rw [Bool.not_false, ifB_true, k22, asB_bool]⟩
        | true =>
          have hneed := all_need vk (by rw [hnews]; exact hq.symm)
          rw [Int.toNat_natCast] at hneed
          have hg22 := ((x21.trans x22).blk h5.nx (by omega)).trans hg2
          have lsv : ∀ {T : Type} (K : Int → Option T), len sv K = K ((keptK (ownP (m : Int).toNat) l).length : Int) := fun K => by rw [hsg.len]; simp
          rw [Bool.not_true, ifB_false, d29, nx_eq, cell_of hg22, show ([iv (m : Int), sv] : List Value)[off 0 1]? = some sv from rfl, Option.bind_some, lsv, show le (gNeed m : Int) ((keptK (ownP (m : Int).toNat) l).length : Int) = true by rw [Int.toNat_natCast]; simp [le]; exact hneed, ifB_true, k22]
          exact ⟨_, by rw [asB_bool]⟩
      cases hq : allP m (newsP (m : Int).toNat l) with
      | false =>
        rw [ifB_false, l7_same]
        exact tail false hq.symm
      | true =>
        have hneed := all_need v hq
        rw [Int.toNat_natCast] at hneed
        have lsl : ∀ {T : Type} (K : Int → Option T), len sl K = K (l.length : Int) := fun K => by rw [hs.len]; simp
        rw [ifB_true, ldc _ x15, lsl, lt_f (by omega), ifB_false]
        exact tail true hq.symm
  obtain ⟨h1, e⟩ := start
  exact ⟨_, t7 e⟩

end Go.AM

end

section

/- Apart: the calls that are left, and a way in the log's own numbers. -/
namespace Go.AM
open Go.Proofs
theorem partZ_snoc {l : List Kl} {left i : Nat} {c : Kl} (hc : l[i]? = some c) : partZ (l.take (i + 1)) left = partZ (l.take i) left ++ if left.testBit i then [(c, i)] else [] := by
  have hi := (List.getElem?_eq_some_iff.1 hc).1
  unfold partZ
  rw [List.take_add_one, hc, Option.toList_some, List.zipIdx_append, List.filter_append, List.length_take, Nat.min_eq_left (by omega), Nat.zero_add]
  congr 1
  cases h : left.testBit i <;> simp [h]

def idxZ (l : List Kl) (left : Nat) : List Int := (partZ l left).map fun q => (q.2 : Int)

theorem partZ_len (l : List Kl) (left : Nat) : (partZ l left).length ≤ l.length := by
  unfold partZ
  have := List.length_filter_le (fun q : Kl × Nat => left.testBit q.2) l.zipIdx
  rwa [List.length_zipIdx] at this

theorem l482 {h10 h12 : H} {n : Int} {sl : Value} {ws0 : List Value} {l : List Kl} {left : Nat} (hleft : left < 2 ^ 24) (hw0 : gv ws0 0 = iv left) (hlt : h10.nx < h12.nx) (hb : h12.blk h10.nx = some (.row [iv n, .slice none 0 0] 31 true)) (hs : SlR h12 56 3 sl (l.map Kl.cells)) (hl24 : l.length ≤ 24) (k : Nat) (hk : l.length < k) :
    ∃ ix g sv, lpGo (f48_l2 rn k ws0 h10 sl l.length) k [.slice none 0 0, iv 0] h12 = some (.exit 2, [ix, iv l.length], g) ∧ h12.nx ≤ g.nx ∧ (∀ b, b < h12.nx → b ≠ h10.nx → g.blk b = h12.blk b) ∧ g.blk h10.nx = some (.row [iv n, sv] 31 true) ∧
      AqR h12.nx g 56 3 sv ((partL l left).map Kl.cells) ∧ AqR h12.nx g 3 1 ix (cellsI (idxZ l left)) := by
  obtain ⟨ws', g', hl, hn, hk', _, sv, ix, hsv, hap, hix, rfl⟩ := lp_for (F := f48_l2 rn k ws0 h10 sl l.length) (k := k) (l := l) (fun _ _ (_ : Unit) => ())
    (fun i _ ws g => h12.nx ≤ g.nx ∧ (∀ b, b < h12.nx → b ≠ h10.nx → g.blk b = h12.blk b) ∧ True ∧ ∃ sv ix, g.blk h10.nx = some (.row [iv n, sv] 31 true) ∧ AqR h12.nx g 56 3 sv ((partL (l.take i) left).map Kl.cells) ∧ AqR h12.nx g 3 1 ix (cellsI (idxZ (l.take i) left)) ∧ ws = [ix, iv i]) 2 (ws := [.slice none 0 0, iv 0]) (h := h12) (s0 := ())
    ⟨Nat.le_refl _, fun _ _ _ => rfl, trivial, _, _, hb, .nil, .nil, rfl⟩ hk
    (by
      rintro _ ws g ⟨_, _, _, sv, ix, _, _, _, rfl⟩
      unfold f48_l2
      rw [show gv [ix, iv (l.length : Int)] 1 = iv (l.length : Int) from rfl, asI_int, lt_f (by omega), ifB_false]
      rfl)
    (by
      rintro i c _ ws g hc ⟨hn, hk, _, sv, ix, hg2, hap, hix, rfl⟩
      have hil := (List.getElem?_eq_some_iff.1 hc).1
      have kt : ∀ (e : TypeId), e ≠ 31 → ∀ b cs o, b < h12.nx → h12.blk b = some (.row cs e o) → g.blk b = h12.blk b := fun e he b cs o hbl hr => hk b hbl fun e' => by
        rw [e', hb] at hr
        simp at hr
        exact he hr.2.1.symm
      have hs' := hs.keepT hn (kt 56 (by decide))
      have y7 := (Ext.refl g).fresh 56 [iv 0, iv 0, iv 0] c.cells
      have hcb := blk_fresh g 56 [iv 0, iv 0, iv 0] c.cells
      have n7 : (g.fresh 56 [iv 0, iv 0, iv 0] c.cells).nx = g.nx + 1 := rfl
      have hadd : add .i64 (i : Int) 1 = (i : Int) + 1 := add64 (by omega) (by omega)
      have hsnoc := partZ_snoc (left := left) hc
      have hpl := partZ_len (l.take i) left
      rw [List.length_take] at hpl
      unfold f48_l2
      rw [show gv [ix, iv i] 1 = iv i from rfl, show gv [ix, iv i] 0 = ix from rfl, asI_int, lt_t (by omega), ifB_true, asK_int, hs'.ldA ag56 sz56 (by omega) (x := c.cells) (by simp [hc])]
      rw [al_st (zs := [iv 0, iv 0, iv 0]) (xs := c.cells) sz56 rfl rfl, hw0, asI_int, asK_int]
      unfold AM.nn
      rw [if_neg (by omega), bit_nat (by omega) (by omega)]
      have hlt9 : h10.nx < g.nx := by omega
      have g2 := (y7.blk h10.nx (by omega)).trans hg2
      have a7 := hap.ext y7
      have i7 := hix.ext y7
      generalize g.fresh 56 [iv 0, iv 0, iv 0] c.cells = h7 at *
      have k7 : ∀ b, b < h12.nx → b ≠ h10.nx → h7.blk b = h12.blk b := fun b hbl hne => (y7.blk b (by omega)).trans (hk b hbl hne)
      by_cases hf : left.testBit i = true
      · rw [hf, if_pos rfl, eq_t rfl, ifB_true]
        rw [hf, if_pos rfl] at hsnoc
        obtain ⟨v', h8, e9, a9, n9, k9, b9, hb9, hb9'⟩ := a7.push app29 app29 (bls29 c) rfl rfl (by simp [partL]; omega) (by omega)
        have nosv : ∀ b, b < h12.nx → AM.blkOf sv ≠ some b := fun b hbl e => by have := (a7.blkOf e).1; omega
        have g2' := (k9 h10.nx (by omega) (nosv _ hlt)).trans g2
        have hst : wrc 1 h8 h10.nx 1 v' = some (h8.set h10.nx (.row [iv n, v'] 31 true)) := by rw [wrc_one g2' a9.cells.1 a9.cells.2 (by simp)]; rfl
        have i8 : AqR h12.nx h8 3 1 ix (cellsI (idxZ (l.take i) left)) := i7.keep n9 fun b hbx => k9 b (i7.blkOf hbx).2.1 fun e => by
          have h1 := (a7.blkOf e).2.2
          have h2 := (i7.blkOf hbx).2.2
          rw [h1] at h2
          simp at h2
        have x8 : ∀ b, (h8.set h10.nx (.row [iv n, v'] 31 true)).blk b = if b = h10.nx then some (.row [iv n, v'] 31 true) else h8.blk b := fun b => rfl
        have i9 : AqR h12.nx (h8.set h10.nx (.row [iv n, v'] 31 true)) 3 1 ix (cellsI (idxZ (l.take i) left)) := i8.keep (Nat.le_refl _) fun b hbx => blk_set_ne _ _ _ (by have := (i8.blkOf hbx).1; omega)
        have a10 : AqR h12.nx (h8.set h10.nx (.row [iv n, v'] 31 true)) 56 3 v' ((partL (l.take i) left).map Kl.cells ++ [c.cells]) := a9.keep (Nat.le_refl _) fun b hbx => blk_set_ne _ _ _ (by have := (a9.blkOf hbx).1; omega)
        obtain ⟨x', h20, e20, a20, n20, k20, b20, hb20, hb20'⟩ := i9.push app25 app25 (bls25 (i : Int)) rfl rfl (by simp [idxZ]; omega) (by rw [nx_set]; omega)
        rw [nx_set] at n20 k20
        have noix : ∀ b, b < h12.nx → AM.blkOf ix ≠ some b := fun b hbl e => by have := (i9.blkOf e).1; omega
        have a20' : AqR h12.nx h20 56 3 v' ((partL (l.take i) left).map Kl.cells ++ [c.cells]) := a10.keep (by rw [nx_set]; exact n20) fun b hbx => k20 b (by have := (a10.blkOf hbx).2.1; rwa [nx_set] at this) fun e => by
          have h1 := (i9.blkOf e).2.2
          have h2 := (a10.blkOf hbx).2.2
          rw [h1] at h2
          simp at h2
        refine ⟨[x', iv ((i : Int) + 1)], h20, ?_, by omega, fun b hbl hne => ?_, trivial, v', x', ?_, ?_, ?_, rfl⟩
        · rw [d29, nx_eq, nx_eq, cell_of g2, show ([iv n, sv] : List Value)[off 0 1]? = some sv from rfl, Option.bind_some, d56, rd_all (n := 3) hcb rfl, Option.bind_some, show c.cells.toArray = #[.int .i64 c.a, .int .i64 c.b, .int .i64 c.t] from rfl, e9, w29, show off 0 1 = 1 from rfl, hst, Option.bind_some]
          refine (e20 _).trans ?_
          rw [asI_int, hadd]
          rfl
        · rw [k20 b (by omega) (noix b hbl), blk_set_ne _ _ _ hne, k9 b (by omega) (nosv b hbl)]
          exact k7 b hbl hne
        · rw [k20 _ (by omega) (noix _ hlt)]
          exact blk_set_self _ _ _
        · unfold partL
          rw [hsnoc, List.map_append, List.map_append]
          exact a20'
        · unfold idxZ
          rw [hsnoc, List.map_append, cellsI, List.map_append]
          exact a20
      · have hf' : left.testBit i = false := by simpa using hf
        rw [hf', if_neg (by simp), eq_f (by decide), ifB_false]
        rw [hf', if_neg (by simp), List.append_nil] at hsnoc
        refine ⟨[ix, iv ((i : Int) + 1)], h7, ?_, by omega, k7, trivial, sv, ix, g2, ?_, ?_, rfl⟩
        · rw [asI_int, hadd]; rfl
        · unfold partL; rw [hsnoc]; exact a7
        · unfold idxZ; rw [hsnoc]; exact i7)
  rw [List.take_length] at hap hix
  exact ⟨ix, g', sv, hl, hn, hk', hsv, hap, hix⟩

def leftS (left : Nat) (u : List Int) : Nat := u.foldl (fun a i => without a (2 ^ i.toNat)) left

theorem leftS_bit : ∀ (u : List Int) (left j : Nat), (leftS left u).testBit j = (left.testBit j && !u.any fun i => i.toNat == j) := by
  intro u
  induction u with
  | nil => intro left j; simp [leftS]
  | cons i u ih =>
    intro left j
    have := ih (without left (2 ^ i.toNat)) j
    unfold leftS at this ⊢
    rw [List.foldl_cons, this, testBit_without, Nat.testBit_two_pow, List.any_cons]
    by_cases h : i.toNat = j
    · simp [h]
    · have h' : (i.toNat == j) = false := by simpa using h
      simp [h, h']

theorem leftS_lt {left : Nat} (u : List Int) (h : left < 2 ^ 24) : leftS left u < 2 ^ 24 := by
  unfold leftS
  induction u generalizing left with
  | nil => exact h
  | cons i u ih => exact ih (without_le _ _ h)

theorem placeZ_idx {l : List Kl} {left : Nat} {x : Int} (hx : x.toNat < (partZ l left).length) : (idxZ l left)[x.toNat]? = some (placeZ l left x) := by
  unfold idxZ placeZ
  rw [List.getElem?_map, List.getElem?_eq_getElem hx]
  rfl

theorem l483 {h21 h23 : H} {ix wv : Value} {ws2 : List Value} {l : List Kl} {left q : Nat} {w : List Int} (hl24 : l.length ≤ 24) (hleft : left < 2 ^ 24) (hw2 : gv ws2 0 = ix) (hwb : h23.blk h21.nx = some (.row [wv] 25 true)) (hqb : q ≠ h21.nx)
    (hix : SlR h23 3 1 ix (cellsI (idxZ l left))) (hixq : blkOf ix ≠ some q) (hia : IA h23 q wv w) (hwr : ∀ x ∈ w, 0 ≤ x ∧ x < (partZ l left).length) (k : Nat) (hk : w.length < k) :
    ∃ g, lpGo (f48_l3 rn k ws2 h21 wv w.length) k [iv left, iv 0] h23 = some (.exit 4, [iv (leftS left (w.map (placeZ l left))), iv w.length], g) ∧ g.nx = h23.nx ∧ (∀ b, b ≠ q → g.blk b = h23.blk b) ∧ IA g q wv (w.map (placeZ l left)) := by
  have hlen := hia.slR.lt62
  rw [List.length_map] at hlen
  have hpz := partZ_len l left
  obtain ⟨ws', g', q1, hn, hf, ha, hl, rfl⟩ := lp_for (k := k) (l := w) (F := f48_l3 rn k ws2 h21 wv w.length) (fun _ x (a : Nat) => without a (2 ^ (placeZ l left x).toNat))
    (fun i a ws g => g.nx = h23.nx ∧ (∀ b, b ≠ q → g.blk b = h23.blk b) ∧ IA g q wv ((w.take i).map (placeZ l left) ++ w.drop i) ∧ a < 2 ^ 24 ∧ ws = [iv a, iv i]) 4 (ws := [iv left, iv 0]) (h := h23) (s0 := left)
    ⟨rfl, fun _ _ => rfl, by simpa using hia, hleft, rfl⟩ hk
    (fun a ws g hI => by
      obtain ⟨_, _, _, _, rfl⟩ := hI
      unfold f48_l3
      simp only [gv, List.getD_cons_zero, List.getD_cons_succ, asI_int]
      rw [lt_f (by omega), ifB_false]; rfl)
    (fun i x a ws g hx hI => by
      obtain ⟨hn, hf, hia, hal, rfl⟩ := hI
      have hi := (List.getElem?_eq_some_iff.1 hx).1
      obtain ⟨x0, x1⟩ := hwr x (List.mem_of_getElem? hx)
      have hxz : x.toNat < (partZ l left).length := by omega
      have hpx := placeZ_idx hxz
      have hp0 : 0 ≤ placeZ l left x := by unfold placeZ; omega
      have hp24 : (placeZ l left x).toNat < 24 := by
        have hg := placeZ_get (l := l) (left := left) (i := x) (by simpa [partL] using hxz)
        have h3 : (partL l left)[x.toNat]? ≠ none := by
          intro e
          rw [List.getElem?_eq_none_iff] at e
          simp [partL] at e; omega
        rcases Nat.lt_or_ge (placeZ l left x).toNat l.length with h4 | h4
        · omega
        · rw [List.getElem?_eq_none h4] at hg
          exact absurd hg.1.symm h3
      have hwg : g.blk h21.nx = some (.row [wv] 25 true) := (hf _ (Ne.symm hqb)).trans hwb
      have ixg : SlR g 3 1 ix (cellsI (idxZ l left)) := slR_keep hix (by omega) fun b hb => hf b fun e => hixq (by rw [← e]; exact hb)
      have hL : ((w.take i).map (placeZ l left) ++ w.drop i).length = w.length := by simp; omega
      have hcur : ((w.take i).map (placeZ l left) ++ w.drop i)[(i : Int).toNat]? = some x := by
        rw [Int.toNat_natCast, List.getElem?_append_right (by simp; omega)]
        simp only [List.length_map, List.length_take, Nat.min_eq_left (Nat.le_of_lt hi), Nat.sub_self, List.getElem?_drop, Nat.add_zero]
        exact hx
      have ia2 := hia.set i (placeZ l left x)
      have hset : ((w.take i).map (placeZ l left) ++ w.drop i).set i (placeZ l left x) = (w.take (i + 1)).map (placeZ l left) ++ w.drop (i + 1) := by
        rw [List.set_append_right _ _ (by simp; omega)]
        simp only [List.length_map, List.length_take, Nat.min_eq_left (Nat.le_of_lt hi), Nat.sub_self]
        rw [List.drop_eq_getElem_cons hi, List.set_cons_zero, List.take_add_one, hx]
        simp
      rw [hset] at ia2
      have ixg2 : SlR (g.set q (.row (((w.take (i + 1)).map (placeZ l left) ++ w.drop (i + 1)).map iv) 3 true)) 3 1 ix (cellsI (idxZ l left)) := slR_keep ixg (Nat.le_refl _) fun b hb => blk_set_ne _ _ _ fun e => hixq (by rw [← e]; exact hb)
      refine ⟨[iv (without a (2 ^ (placeZ l left x).toNat)), iv (i + 1 : Nat)], g.set q (.row (((w.take (i + 1)).map (placeZ l left) ++ w.drop (i + 1)).map iv) 3 true), ?_, by rw [nx_set]; exact hn, fun b hb => by rw [blk_set_ne _ _ _ hb]; exact hf b hb, ia2, without_le _ _ hal, rfl⟩
      have p24 : (2 : Nat) ^ (placeZ l left x).toNat < 2 ^ 24 := Nat.pow_lt_pow_right (by decide) hp24
      obtain ⟨pn, hpn⟩ := Int.eq_ofNat_of_zero_le hp0
      unfold f48_l3
      simp only [gv, List.getD_cons_zero, List.getD_cons_succ, asI_int, asK_int]
      rw [lt_t (by omega), ifB_true]
      simp only [d3, d25, w3]
      rw [hia.get (by omega) hcur, asI_int, nx_eq, cell_of hwg]
      simp only [List.getElem?_cons_zero, Option.bind_some]
      have hw2' : ws2.getD 0 undef = ix := hw2
      rw [hw2', ixg.c0 (by omega) (x := [iv (placeZ l left x)]) (by rw [List.getElem?_map, hpx]; rfl) rfl, asI_int]
      rw [hia.put (by omega) (by rw [hL]; omega), Int.toNat_natCast, hia.wrc (by rw [hL]; exact hi), Option.bind_some, hset]
      rw [ixg2.c0 (by omega) (x := [iv (placeZ l left x)]) (by rw [List.getElem?_map, hpx]; rfl) rfl, asI_int]
      unfold AM.nn
      rw [if_neg (by omega)]
      rw [hpn, Int.toNat_natCast] at hp24 p24 ⊢
      rw [shl1_nat (by omega), andNot_nat (by omega) (by omega), add64 (by omega) (by omega)]
      rfl)
  rw [foldI_foldl] at q1
  refine ⟨g', ?_, hn, hf, by simpa using ha⟩
  rw [q1]
  unfold leftS
  rw [List.foldl_map]

end Go.AM

end

section

/- Apart: one way after the other. -/
namespace Go.AM
open Go.Proofs
/-- What has been taken, and what is left. -/
structure ApI (l : List Kl) (s t : Int) (left : Nat) (W : List (List Int)) : Prop where
  lt : left < 2 ^ 24
  gm : GM 1000 t (maskL l fun i => !left.testBit i) (fun p => p == s) + W.length = mcP l s t 0
  ways : ∀ w ∈ W, w ∈ allWays l s t ∧ ∀ i ∈ w, left.testBit i.toNat = false
  dis : W.Pairwise fun w u => ∀ i ∈ w, i ∉ u

/-- Ways apart, as many as can be. -/
structure AprR (l : List Kl) (s t : Int) (W : List (List Int)) : Prop where
  len : W.length = mcP l s t 0
  ways : ∀ w ∈ W, w ∈ allWays l s t
  dis : W.Pairwise fun w u => ∀ i ∈ w, i ∉ u

theorem part_mc {l : List Kl} {s t : Int} {left : Nat} : mcP (partL l left) s t 0 = GM 1000 t (maskL l fun i => !left.testBit i) (fun p => p == s) := by
  rw [GM_part (left := left) (D := fun i => !left.testBit i) (fun i h => by simp [h])]
  unfold mcP
  congr 1
  refine List.ext_getElem? fun j => ?_
  rw [maskL_get, maskL_get]
  cases hj : (partL l left)[j]? with
  | none => rfl
  | some c =>
    have := (placeZ_get (l := l) (left := left) (i := (j : Int)) (by rw [Int.toNat_natCast]; exact (List.getElem?_eq_some_iff.1 hj).1)).2
    simp [this]

theorem ApI.step {n s t : Int} {l : List Kl} (v : VP n l) (hs : 0 ≤ s ∧ s < n) (hst : s ≠ t) {left : Nat} {W : List (List Int)} (a : ApI l s t left W) {w : List Int} (hw : w ∈ allWays (partL l left) s t) (hm : mcP (partL l left) s t (maskN w) + 1 = mcP l s t 0 - W.length) (hlt : W.length < mcP l s t 0) :
    ApI l s t (leftS left (w.map (placeZ l left))) (W ++ [w.map (placeZ l left)]) := by
  have hok := allWays_ok w hw
  have hin : ∀ i ∈ w, i.toNat < (partL l left).length := fun i hi => by have := hok.2.2 i hi; omega
  have bit : ∀ j, (leftS left (w.map (placeZ l left))).testBit j = (left.testBit j && !(w.any fun i => (placeZ l left i).toNat == j)) := fun j => by
    rw [leftS_bit, List.any_map]; rfl
  refine ⟨leftS_lt _ a.lt, ?_, ?_, ?_⟩
  · have e : GM 1000 t (maskL l fun i => !(leftS left (w.map (placeZ l left))).testBit i) (fun p => p == s) = mcP (partL l left) s t (maskN w) := by
      rw [GM_part (left := left) (D := fun i => !(leftS left (w.map (placeZ l left))).testBit i) (fun i h => by simp [bit, h])]
      unfold mcP
      congr 1
      refine List.ext_getElem? fun j => ?_
      rw [maskL_get, maskL_get]
      cases hj : (partL l left)[j]? with
      | none => rfl
      | some c =>
        have hjl := (List.getElem?_eq_some_iff.1 hj).1
        have h1 := (placeZ_get (l := l) (left := left) (i := (j : Int)) (by rw [Int.toNat_natCast]; exact hjl)).2
        have key : (w.any fun i => (placeZ l left i).toNat == (placeZ l left (j : Int)).toNat) = (maskN w).testBit j := by
          rw [Bool.eq_iff_iff, maskN_bit, List.any_eq_true]
          constructor
          · rintro ⟨i, hi, e⟩
            refine ⟨i, hi, ?_⟩
            rw [beq_iff_eq] at e
            have hz : (partZ l left).length = (partL l left).length := by simp [partL]
            have e2 : (((partZ l left)[i.toNat]?).map (·.2)).getD 0 = (((partZ l left)[(j : Int).toNat]?).map (·.2)).getD 0 := by
              unfold placeZ at e
              rw [Int.toNat_natCast, Int.toNat_natCast] at e
              exact e
            rw [Int.toNat_natCast] at e2
            have hi' := hin i hi
            rw [List.getElem?_eq_getElem (by omega), List.getElem?_eq_getElem (by omega)] at e2
            simp only [Option.map_some, Option.getD_some] at e2
            -- the places are different
            have nd : ((partZ l left).map (·.2)).Nodup := by
              unfold partZ
              have h9 : (l.zipIdx.map (·.2)).Nodup := by
                rw [List.zipIdx_map_snd]
                exact List.nodup_range'
              exact h9.sublist (List.filter_sublist.map _)
            have := List.getElem_inj (i := i.toNat) (j := j) (xs := (partZ l left).map (·.2)) (h₀ := by simp; omega) (h₁ := by simp; omega) nd
            exact this.1 (by simpa using e2)
          · rintro ⟨i, hi, e⟩
            refine ⟨i, hi, ?_⟩
            have h0 := (hok.2.2 i hi).1
            rw [beq_iff_eq, show i = (j : Int) by omega]
        simp only [Option.map_some, bit, h1, Bool.true_and, key]
        simp
    rw [e, List.length_append]
    simp only [List.length_cons, List.length_nil]
    omega
  · intro u hu
    rcases List.mem_append.1 hu with hu | hu
    · obtain ⟨h1, h2⟩ := a.ways u hu
      exact ⟨h1, fun i hi => by rw [bit, h2 i hi]; rfl⟩
    · simp only [List.mem_singleton] at hu
      subst hu
      refine ⟨place_way v hs hst hw, fun i hi => ?_⟩
      obtain ⟨x, hx, rfl⟩ := List.mem_map.1 hi
      rw [bit, Bool.and_eq_false_iff]
      right
      simp only [Bool.not_eq_false']
      exact List.any_eq_true.2 ⟨x, hx, by simp⟩
  · rw [List.pairwise_append]
    refine ⟨a.dis, List.pairwise_singleton _ _, fun u hu u' hu' i hi hi' => ?_⟩
    simp only [List.mem_singleton] at hu'
    subst hu'
    obtain ⟨x, hx, rfl⟩ := List.mem_map.1 hi'
    have h1 := (a.ways u hu).2 _ hi
    have h2 := (placeZ_get (l := l) (left := left) (i := x) (hin x hx)).2
    rw [h1] at h2
    cases h2

end Go.AM

end

section

/- Apart: as many ways apart as possible. -/
namespace Go.AM
open Go.Proofs
theorem SsR.row {h : H} {vs : List Value} {ls : List (List Int)} (a : SsR h vs ls) {v : Value} (hv : v ∈ vs) {b : Nat} (hb : blkOf v = some b) : ∃ c o, h.blk b = some (.row c 3 o) := by
  obtain ⟨j, hj, rfl⟩ := List.getElem_of_mem hv
  have := a.2 j vs[j] (ls[j]'(by rw [← a.1]; exact hj)) (List.getElem?_eq_getElem hj) (List.getElem?_eq_getElem _)
  generalize vs[j] = v at *
  generalize cellsI (ls[j]'_) = L at this
  cases this with
  | nil => cases hb
  | at_ hb' hr => cases hb; exact ⟨_, _, hr⟩

theorem s48_bad {n s t : Int} {sl : Value} {l : List Kl} {h : H} (hs : SlR h 56 3 sl (l.map Kl.cells)) (hp : pairP n l s t = false) : ∃ h', rn 48 #[.agg #[iv n, sl], iv s, iv t] h = some (.tuple #[.slice none 0 0, iv 2], h') ∧ Ext h h' := by
  let h3 : H := ((h.new (.row [iv n, sl] 31 true)).new (.row [iv s] 3 true)).new (.row [iv t] 3 true)
  have x3 : Ext h h3 := (((Ext.refl h).new' _).new' _).new' _
  have b0 : h3.blk h.nx = some (.row [iv n, sl] 31 true) := by
    show (if h.nx = h.nx + 1 + 1 then _ else if h.nx = h.nx + 1 then _ else if h.nx = h.nx then _ else _) = _
    rw [if_neg (by omega), if_neg (by omega), if_pos rfl]
  have b1 : h3.blk (h.nx + 1) = some (.row [iv s] 3 true) := by
    show (if h.nx + 1 = h.nx + 1 + 1 then _ else if h.nx + 1 = h.nx + 1 then _ else _) = _
    rw [if_neg (by omega), if_pos rfl]
  have b2 : h3.blk (h.nx + 1 + 1) = some (.row [iv t] 3 true) := by
    show (if h.nx + 1 + 1 = h.nx + 1 + 1 then _ else _) = _
    rw [if_pos rfl]
  refine ⟨h3, x48 (k := 0) (h1 := h3) ?_ rfl, x3⟩
  unfold f48
  rw [bx_eq, bx_eq, bx_eq]
  simp only [Value.cells, nx_eq, nx_new]
  show ld Try.prog h3 31 h.nx 0 _ = _
  rw [d31, rd_all (n := 2) b0 rfl, Option.bind_some]
  show ld Try.prog h3 3 (h.nx + 1) 0 _ = _
  rw [d3, cell_of b1]
  simp only [List.getElem?_cons_zero, Option.bind_some, asI_int]
  show ld Try.prog h3 3 (h.nx + 1 + 1) 0 _ = _
  rw [d3, cell_of b2]
  simp only [List.getElem?_cons_zero, Option.bind_some, asI_int]
  refine (k82 (hs.ext x3) _).trans ?_
  rw [asB_bool, hp]
  rfl

/-- One way more is taken. -/
theorem l481 {n : Nat} {s t : Int} {sl : Value} {l : List Kl} {h0 h1 h2 h5 h8 h9 : H} (hp : pairP n l s t = true) (hs : SlR h9 56 3 sl (l.map Kl.cells)) (hsb : ∀ b, blkOf sl = some b → b ≠ h8.nx) (b0 : h9.blk h0.nx = some (.row [iv n, sl] 31 true)) (b1 : h9.blk h1.nx = some (.row [iv s] 3 true)) (b2 : h9.blk h2.nx = some (.row [iv t] 3 true))
    (b5 : h9.blk h5.nx = some (.row [iv (mcP l s t 0)] 3 true)) (lt0 : h0.nx < h8.nx ∧ h1.nx < h8.nx ∧ h2.nx < h8.nx ∧ h5.nx < h8.nx ∧ h8.nx < h9.nx) {left : Nat} {W : List (List Int)} {ws : List Value} {g : H} (hw : ws = [iv left]) (hn : h9.nx ≤ g.nx) (hf : ∀ b, b < h9.nx → b ≠ h8.nx → g.blk b = h9.blk b)
    {ov : Value} {vs : List Value} (hob : g.blk h8.nx = some (.row [ov] 58 true)) (hov : AqR h9.nx g 25 1 ov (cellsV vs)) (hss : SsR g vs W) (ap : ApI l s t left W) (hlt : W.length < mcP l s t 0) :
    ∃ (left' : Nat) (g' : H) (ov' : Value) (vs' : List Value) (W' : List (List Int)), f48_l1 rn 1000 h0 h1 h2 h5 h8 ws g = some (.normal, [iv left'], g') ∧ h9.nx ≤ g'.nx ∧ (∀ b, b < h9.nx → b ≠ h8.nx → g'.blk b = h9.blk b) ∧ g'.blk h8.nx = some (.row [ov'] 58 true) ∧ AqR h9.nx g' 25 1 ov' (cellsV vs') ∧ SsR g' vs' W' ∧ ApI l s t left' W' ∧ W'.length = W.length + 1 := by
  subst hw
  obtain ⟨hv, hsn, htn, hst⟩ := pairP_parts hp
  have v := vp_iff.1 hv
  have hl24 := v.len
  have hmc := mcP_le (l := l) hst 0
  have a0 := (hf _ (by omega) (by omega)).trans b0
  have a1 := (hf _ (by omega) (by omega)).trans b1
  have a2 := (hf _ (by omega) (by omega)).trans b2
  have a5 := (hf _ (by omega) (by omega)).trans b5
  have slg : SlR g 56 3 sl (l.map Kl.cells) := slR_keep hs hn fun b hb => hf b (slR_bel hs hb) (hsb b hb)
  -- the part that is left
  have y12 := (Ext.refl g).fresh 31 [.int .i64 0, .slice none 0 0] [iv n, .slice none 0 0]
  have p12 := blk_fresh g 31 [.int .i64 0, .slice none 0 0] [iv n, .slice none 0 0]
  have n12 : (g.fresh 31 [.int .i64 0, .slice none 0 0] [iv n, .slice none 0 0]).nx = g.nx + 1 := rfl
  have hfr : ∀ {R : Type} (K : H → Option R), (al g 31 [(.int .i64 0), (.slice none 0 0)] fun h11 => st Try.prog h11 31 (nx g) 0 (.agg #[iv n, .slice none 0 0]) K) = K (g.fresh 31 [.int .i64 0, .slice none 0 0] [iv n, .slice none 0 0]) := fun K => al_st sz31 rfl rfl
  generalize g.fresh 31 [.int .i64 0, .slice none 0 0] [iv n, .slice none 0 0] = h12 at *
  obtain ⟨ix, h21, sv, q482, n21, f21, p21, asv, aix⟩ := l482 (ws0 := [iv left]) (h10 := g) ap.lt rfl (by omega) p12 (slg.ext y12) hl24 1000 (by omega)
  -- the way's own variable
  generalize e22 : h21.new (.row [.slice none 0 0] 25 true) = h22
  have n22 : h22.nx = h21.nx + 1 := by rw [← e22]; rfl
  have x22 : Ext h21 h22 := by rw [← e22]; exact .new _ _
  have w22 : h22.blk h21.nx = some (.row [.slice none 0 0] 25 true) := by rw [← e22, blk_new, if_pos rfl]
  have low : ∀ b, b < g.nx → h22.blk b = g.blk b := fun b hb => by rw [x22.blk b (by omega), f21 b (by omega) (by omega), y12.blk b hb]
  have c0 := (low _ (by omega)).trans a0
  have c1 := (low _ (by omega)).trans a1
  have c2 := (low _ (by omega)).trans a2
  have c5 := (low _ (by omega)).trans a5
  have cob := (low _ (by omega)).trans hob
  have cpb : h22.blk g.nx = some (.row [iv n, sv] 31 true) := (x22.blk _ (by omega)).trans p21
  have asv22 := asv.ext x22
  have hpl : pairP n (partL l left) s t = true := by
    unfold pairP
    rw [vp_iff.2 (v.part left), decide_eq_true hsn, decide_eq_true htn]
    simp [hst]
  have hvs : vs.length = W.length := hss.1
  have hlov : (cellsV vs).length = W.length := by simp [hvs]
  have mc : mcP (partL l left) s t 0 = (mcP l s t 0 - W.length - 1) + 1 := by
    rw [part_mc]; have := ap.gm; omega
  obtain ⟨w, tw, hw, hmw⟩ := take_some (v.part left) hsn hst mc
  have ov22 : AqR h9.nx h22 25 1 ov (cellsV vs) := hov.keep (by omega) fun b hb => low b (hov.blkOf hb).2.1
  have cb := pick_cb (g6 := h22) (wb := h21.nx) (pb := g.nx) (sb := h1.nx) (tb := h2.nx) (cb := h5.nx) (ob := h8.nx) (n := n) (pl := partL l left) (slp := sv) (ov := ov) (ol := cellsV vs) (s := s) (t := t) (cnt := mcP l s t 0) (by omega)
    ⟨by omega, by omega, cpb⟩ ⟨by omega, by omega, c1⟩ ⟨by omega, by omega, c2⟩ ⟨by omega, by omega, c5⟩ ⟨by omega, by omega, cob⟩ ov22.slR asv22.slR (fun b hb => ⟨(asv22.blkOf hb).2.1, by have := (asv.blkOf hb).2.1; omega⟩) hpl (by omega) (by rw [hlov]; exact hlt)
  rw [hlov] at cb
  obtain ⟨h23, D', q85, ⟨⟨i1, i2, wv, i3, i4⟩, _⟩, n23, f23⟩   := s85 (sl := sv) (σ0 := none) cb (by rintro b rfl; omega) (vp_iff.2 (v.part left)) hsn asv22.slR (fun b hb e => by have := (asv.blkOf hb).2.1; omega) ⟨⟨Nat.le_refl _, fun _ _ _ => rfl, .slice none 0 0, w22, rfl, rfl⟩, fun w hw => by cases hw⟩ rfl rfl
    (fun w hw => allWays_ok w hw)
  have tw' : (allWays (partL l left) s t).foldl (pickP (partL l left) s t (mcP l s t 0 - W.length - 1)) none = some w := tw
  rw [tw'] at i4
  obtain ⟨hw0, q, _, q1, q2, ia⟩ := i4
  have f23' : ∀ b, b < h22.nx → b ≠ h21.nx → h23.blk b = h22.blk b := fun b hb hne => f23 b hb hne
  have aix23 : SlR h23 3 1 ix (cellsI (idxZ l left)) := slR_keep aix.slR (by omega) fun b hb => by rw [f23' b (by have := (aix.blkOf hb).2.1; omega) (by have := (aix.blkOf hb).2.1; omega), x22.blk b (aix.blkOf hb).2.1]
  have hokw := allWays_ok w hw
  have hzl : (partL l left).length = (partZ l left).length := by simp [partL]
  obtain ⟨h26, q483, n26, f26, ia26⟩ := l483 (h21 := h21) (h23 := h23) (ix := ix) (wv := wv) (ws2 := [ix, iv l.length]) (l := l) (left := left) (q := q) (w := w) hl24 ap.lt rfl i3 (by omega) aix23 (fun e => by have := (aix.blkOf e).2.1; omega) ia (fun x hx => by have := hokw.2.2 x hx; omega) 1000 hokw.2.1
  -- what was there
  have low26 : ∀ b, b < g.nx → h26.blk b = g.blk b := fun b hb => by rw [f26 b (by omega), f23' b (by omega) (by omega), low b hb]
  have ov26 : AqR h9.nx h26 25 1 ov (cellsV vs) := hov.keep (by omega) fun b hb => low26 b (hov.blkOf hb).2.1
  have ss26 : SsR h26 vs W := hss.keep (by omega) fun u hu b hb => low26 b (hss.bel hu hb)
  have ob26 := (low26 _ (by omega)).trans hob
  have wb26 : h26.blk h21.nx = some (.row [wv] 25 true) := (f26 _ (by omega)).trans i3
  obtain ⟨cw, hcw, _, _⟩ := ia26.val
  obtain ⟨ov', h28, e28, a28, n28, k28, b28, hb28, hb28'⟩ := ov26.push (xv := wv) (x := [wv]) app58 app58 (by rw [hcw]; exact bls58 _ _ _ _) rfl (by rw [hcw]; rfl) (by rw [hlov]; omega) (by omega)
  have ob28 : h28.blk h8.nx = some (.row [ov] 58 true) := (k28 _ (by omega) (fun e => by have := (ov26.blkOf e).2.2; rw [ob26] at this; simp at this)).trans ob26
  have hst' : wrc 1 h28 h8.nx 0 ov' = some (h28.set h8.nx (.row [ov'] 58 true)) := by rw [wrc_one ob28 a28.cells.1 a28.cells.2 (by simp)]; rfl
  have step := ap.step v hsn hst hw (by omega) hlt
  have keep28 : ∀ b c o, b < h26.nx → h26.blk b = some (.row c 3 o) → (h28.set h8.nx (.row [ov'] 58 true)).blk b = h26.blk b := fun b c o hb hr => by
    rw [blk_set_ne _ _ _ (fun e => by rw [e, ob26] at hr; simp at hr), k28 b hb (fun e => by have := (ov26.blkOf e).2.2; rw [hr] at this; simp at this)]
  refine ⟨leftS left (w.map (placeZ l left)), h28.set h8.nx (.row [ov'] 58 true), ov', vs ++ [wv], W ++ [w.map (placeZ l left)], ?_, by rw [nx_set]; omega, fun b hb hne => ?_, blk_set_self _ _ _, ?_, ?_, step, by simp⟩
  · unfold f48_l1
    simp only [nx_eq]
    rw [d58, cell_of hob]
    simp only [List.getElem?_cons_zero, Option.bind_some]
    rw [hov.slR.len, hlov, d3, cell_of a5]
    simp only [List.getElem?_cons_zero, Option.bind_some, asI_int]
    rw [lt_t (by omega), ifB_true, d3, cell_of a0]
    simp only [List.getElem?_cons_zero, Option.bind_some, asI_int]
    rw [show ∀ K : Value → Option (Ex × List Value × H), bld Try.prog 31 [(0, .int .i64 (n : Int))] K = K (.agg #[iv n, .slice none 0 0]) from fun K => bld_some (by kernel_rfl)]
    refine (hfr _).trans ?_
    rw [d29, cell_of ((y12.blk _ (by omega)).trans a0), show ([iv (n : Int), sl] : List Value)[off 0 1]? = some sl from rfl, Option.bind_some, (slg.ext y12).len, List.length_map, lp_eq q482, onE_exit, if_pos rfl, al_eq, e22]
    rw [d31, rd_all (n := 2) cpb rfl, Option.bind_some, d3, cell_of c1]
    simp only [List.getElem?_cons_zero, Option.bind_some, asI_int]
    rw [d3, cell_of c2]
    simp only [List.getElem?_cons_zero, Option.bind_some, asI_int]
    refine (calls_eq (xs := [_, _, _, _]) q85).trans ?_
    rw [d25, cell_of i3]
    simp only [List.getElem?_cons_zero, Option.bind_some]
    rw [ia.len]
    have q483' : lpGo (f48_l3 rn 1000 [ix, iv l.length] h21 wv w.length) 1000 [gv [iv (left : Int)] 0, .int .i64 0] h23 = _ := q483
    rw [lp_eq q483', onE_exit, if_pos rfl, d58, cell_of ob26]
    simp only [List.getElem?_cons_zero, Option.bind_some]
    rw [d25, cell_of wb26]
    simp only [List.getElem?_cons_zero, Option.bind_some]
    rw [e28]
    rw [w58, hst']
    rfl
  · have hgl : b < g.nx := by omega
    rw [blk_set_ne _ _ _ hne, k28 b (by omega) (fun e => by have := (ov26.blkOf e).1; omega), low26 b hgl, hf b hb hne]
  · rw [cellsV, List.map_append]
    exact a28.keep (Nat.le_refl _) fun b hb => blk_set_ne _ _ _ fun e => by rw [hb28] at hb; cases hb; omega
  · refine SsR.snoc (ss26.keep (by rw [nx_set]; exact n28) fun u hu b hb => ?_) ?_
    · obtain ⟨c, o, hr⟩ := ss26.row hu hb
      exact keep28 b c o (ss26.bel hu hb) hr
    · exact slR_keep ia26.slR (by rw [nx_set]; exact n28) fun b hb => by
        have : b = q := by rw [hcw] at hb; cases hb; rfl
        subst this
        exact keep28 b _ _ ia26.lt ia26.row

theorem s48 {n : Nat} {s t : Int} {sl : Value} {l : List Kl} {h : H} (hs : SlR h 56 3 sl (l.map Kl.cells)) (hp : pairP n l s t = true) :
    ∃ v vs W h', rn 48 #[.agg #[iv n, sl], iv s, iv t] h = some (.tuple #[v, iv 0], h') ∧ Ext h h' ∧ SlR h' 25 1 v (cellsV vs) ∧ SsR h' vs W ∧ AprR l s t W := by
  obtain ⟨hv, hsn, htn, hst⟩ := pairP_parts hp
  have hl24 := (validP_ok hv).2.2.1
  have hmc := mcP_le (l := l) hst 0
  generalize e1 : h.new (.row [iv n, sl] 31 true) = h1
  generalize e2 : h1.new (.row [iv s] 3 true) = h2
  generalize e3 : h2.new (.row [iv t] 3 true) = h3
  have n1 : h1.nx = h.nx + 1 := by rw [← e1]; rfl
  have n2 : h2.nx = h.nx + 2 := by rw [← e2]; show h1.nx + 1 = _; omega
  have n3 : h3.nx = h.nx + 3 := by rw [← e3]; show h2.nx + 1 = _; omega
  have x3 : Ext h h3 := by rw [← e3, ← e2, ← e1]; exact (((Ext.refl h).new' _).new' _).new' _
  have b30 : h3.blk h.nx = some (.row [iv n, sl] 31 true) := by rw [← e3, blk_new_ne _ _ (by omega), ← e2, blk_new_ne _ _ (by omega), ← e1, blk_new_self]
  have b31 : h3.blk h1.nx = some (.row [iv s] 3 true) := by rw [← e3, blk_new_ne _ _ (by omega), ← e2, blk_new_self]
  have b32 : h3.blk h2.nx = some (.row [iv t] 3 true) := by rw [← e3, blk_new_self]
  obtain ⟨h5, lo, nb, rb, xb, nxs, r, k, c83, nt, mf, x5, _⟩ := s83 (gone := 0) (hs.ext x3) hv (by decide) hsn htn hst
  have hk : k = mcP l s t 0 := mf.gm
  have y7 := (Ext.refl h5).fresh 3 [iv 0] [iv k]
  have p7 := blk_fresh h5 3 [iv 0] [iv k]
  have n7 : (h5.fresh 3 [iv 0] [iv k]).nx = h5.nx + 1 := rfl
  have hfr : ∀ {R : Type} (K : H → Option R), (al h5 3 [(.int .i64 0)] fun h6 => st Try.prog h6 3 (nx h5) 0 (.int .i64 k) K) = K (h5.fresh 3 [iv 0] [iv k]) := fun K => al_st1 sz3 rfl rfl
  generalize h5.fresh 3 [iv 0] [iv k] = h7 at *
  have x7 := x3.trans (x5.trans y7)
  have c84 := s84 (hs.ext x7) hl24 (nt.ext y7)
  generalize e9 : h7.new (.row [.slice none 0 0] 58 true) = h9
  have n9 : h9.nx = h7.nx + 1 := by rw [← e9]; rfl
  have x9 : Ext h7 h9 := by rw [← e9]; exact .new _ _
  have b9 : h9.blk h7.nx = some (.row [.slice none 0 0] 58 true) := by rw [← e9, blk_new_self]
  have n5 := x5.nx
  have lift : ∀ b, b < h3.nx → h9.blk b = h3.blk b := fun b hb => by rw [x9.blk b (by omega), y7.blk b (by omega), x5.blk b hb]
  have ap0 : ApI l s t (usedN r l.length) [] := ⟨Nat.lt_of_lt_of_le (usedN_lt r _) (Nat.pow_le_pow_right (by decide) hl24), by rw [used_gm hl24 hst (by exact mf), hk]; rfl, by simp, List.Pairwise.nil⟩
  have hsl9 : SlR h9 56 3 sl (l.map Kl.cells) := hs.ext (x7.trans x9)
  have b9' : ∀ b, blkOf sl = some b → b ≠ h7.nx := fun b hb => by have := slR_bel hs hb; omega
  have b59 : h9.blk h5.nx = some (.row [iv (mcP l s t 0)] 3 true) := by rw [x9.blk _ (by omega), p7, hk]
  obtain ⟨e, ws, g', q1, rfl, ov, vs, W, m1, m2, m3, m4, m5, m6, m7, m8⟩ := lp_meas (F := f48_l1 rn 1000 h h1 h2 h5 h7) (σ := Nat × List (List Int))
    (fun σ ws g => ws = [iv σ.1] ∧ h9.nx ≤ g.nx ∧ (∀ b, b < h9.nx → b ≠ h7.nx → g.blk b = h9.blk b) ∧ ∃ ov vs, g.blk h7.nx = some (.row [ov] 58 true) ∧ AqR h9.nx g 25 1 ov (cellsV vs) ∧ SsR g vs σ.2 ∧ ApI l s t σ.1 σ.2)
    (fun σ => mcP l s t 0 - σ.2.length)
    (fun e ws g => e = .exit 0 ∧ ∃ ov vs W, h9.nx ≤ g.nx ∧ (∀ b, b < h9.nx → b ≠ h7.nx → g.blk b = h9.blk b) ∧ g.blk h7.nx = some (.row [ov] 58 true) ∧ AqR h9.nx g 25 1 ov (cellsV vs) ∧ SsR g vs W ∧ W.length = mcP l s t 0 ∧ (∀ w ∈ W, w ∈ allWays l s t) ∧ W.Pairwise fun w u => ∀ i ∈ w, i ∉ u)
    (fun σ ws g hI => by
      obtain ⟨left, W⟩ := σ
      obtain ⟨hw, hn, hf, ov, vs, hob, hov, hss, ap⟩ := hI
      simp only at hw hss ap
      by_cases hlt : W.length < mcP l s t 0
      · obtain ⟨left', g', ov', vs', W', r1, r2, r3, r4, r5, r6, r7, r8⟩ := l481 (h0 := h) (h1 := h1) (h2 := h2) (h5 := h5) (h8 := h7) hp hsl9 b9' ((lift _ (by omega)).trans b30) ((lift _ (by omega)).trans b31) ((lift _ (by omega)).trans b32) b59 (by omega) hw hn hf hob hov hss ap hlt
        exact ⟨_, _, g', r1, .inl ⟨rfl, (left', W'), ⟨rfl, r2, r3, ov', vs', r4, r5, r6, r7⟩, by simp only; omega⟩⟩
      · refine ⟨.exit 0, [gv ws 0], g, ?_, .inr ⟨by simp, rfl, ov, vs, W, hn, hf, hob, hov, hss, by have := ap.gm; omega, fun w hw => (ap.ways w hw).1, ap.dis⟩⟩
        have a5 := (hf h5.nx (by omega) (by omega)).trans b59
        have hlov : (cellsV vs).length = W.length := by simp [hss.1]
        unfold f48_l1
        simp only [nx_eq]
        rw [d58, cell_of hob]
        simp only [List.getElem?_cons_zero, Option.bind_some]
        rw [hov.slR.len, hlov, d3, cell_of a5]
        simp only [List.getElem?_cons_zero, Option.bind_some, asI_int]
        rw [lt_f (by omega), ifB_false]
        rfl) 1000 (usedN r l.length, []) [iv (usedN r l.length)] h9 (by simp only; omega) ⟨rfl, Nat.le_refl _, fun _ _ _ => rfl, _, [], b9, .nil, ⟨rfl, fun j v l hv => by simp at hv⟩, ap0⟩
  have xg : Ext h g' := ⟨by omega, fun b hb => by rw [m2 b (by omega) (by omega), lift b (by omega), x3.blk b hb]⟩
  refine ⟨ov, vs, W, g', x48 (k := 1000) ?_ (by obtain ⟨x, y, z, hz⟩ := m4.isSl; rw [hz]; rfl), xg, m4.slR, m5, m6, m7, m8⟩
  unfold f48
  rw [bx_eq]
  simp only [Value.cells, nx_eq]
  rw [e1, bx_eq]
  simp only [Value.cells]
  rw [e2, bx_eq]
  simp only [Value.cells]
  rw [e3, d31, rd_all (n := 2) b30 rfl, Option.bind_some, d3, cell_of b31]
  simp only [List.getElem?_cons_zero, Option.bind_some, asI_int]
  rw [d3, cell_of b32]
  simp only [List.getElem?_cons_zero, Option.bind_some, asI_int]
  refine (k82 (hs.ext x3) _).trans ?_
  rw [asB_bool, hp, Bool.not_true, ifB_false, d31, rd_all (n := 2) b30 rfl, Option.bind_some, d3, cell_of b31]
  simp only [List.getElem?_cons_zero, Option.bind_some, asI_int]
  rw [d3, cell_of b32]
  simp only [List.getElem?_cons_zero, Option.bind_some, asI_int]
  refine (calls_eq (xs := [_, _, _, _]) c83).trans ?_
  rw [ext20, ext21, asI_int]
  refine (hfr _).trans ?_
  rw [d31, rd_all (n := 2) (((y7.blk _ (by omega)).trans (x5.blk _ (by omega))).trans b30) rfl, Option.bind_some]
  refine (calls_eq (xs := [_, _]) c84).trans ?_
  rw [asI_int, al_eq, e9, lp_eq q1, onE_exit, if_pos rfl, d58, cell_of m3]
  rfl

end Go.AM

end

section

/- PLAIN: Cut takes as many calls as there are ways apart; without them there is no way; each of the ways apart has just one of them. -/
namespace Go.AM
open Go.Proofs
theorem sumR_pos {f : Nat → Nat} : ∀ {n : Nat}, 0 < sumR n f → ∃ i, i < n ∧ 0 < f i := by
  intro n
  induction n with
  | zero => intro h; simp [sumR] at h
  | succ n ih =>
    intro h
    rw [sumR_succ] at h
    by_cases h0 : 0 < f n
    · exact ⟨n, by omega, h0⟩
    · obtain ⟨i, hi, h1⟩ := ih (by omega)
      exact ⟨i, by omega, h1⟩

/-- Where something flows, there is a call without which less does. -/
theorem GM_drop {l : List Kl} {s t : Int} (hst : s ≠ t) (hl : l.length < 1000) {d : Nat → Bool} (h : 0 < GM 1000 t (maskL l d) (fun p => p == s)) :
    ∃ i, i < l.length ∧ d i = false ∧ GM 1000 t (maskL l fun j => d j || decide (j = i)) (fun p => p == s) < GM 1000 t (maskL l d) (fun p => p == s) := by
  have hX : (fun p => p == s) t = false := by simpa using Ne.symm hst
  have h1 : GM 1000 t (maskL l d) (fun p => p == s) < 1000 := by have := GM_len (K := 1000) (t := t) (cs := maskL l d) (X := fun p => p == s) hX; rw [maskL_len] at this; omega
  obtain ⟨Xs, e0, hs, he, hp⟩ := GM_seq (maskL l d) _ h1
  have hm := seq_mono hs
  rw [maskL_len] at he hm
  rw [← hp, penS_mask] at h
  obtain ⟨i, hi, hpos⟩ := sumR_pos h
  obtain ⟨c, hc⟩ : ∃ c, l[i]? = some c := ⟨_, List.getElem?_eq_getElem hi⟩
  simp only [hc] at hpos
  have hdi : d i = false := by
    cases hd : d i with
    | false => rfl
    | true => rw [hd] at hpos; simp at hpos
  refine ⟨i, hi, hdi, ?_⟩
  rw [← hp]
  have h2 := GM_penS (K := 1000) (t := t) (maskL l fun j => d j || decide (j = i)) Xs (fun j hj => hm j (by rw [maskL_len] at hj; exact hj)) (by rw [maskL_len]; exact he)
  rw [e0] at h2
  refine Nat.lt_of_le_of_lt h2 ?_
  rw [penS_mask, penS_mask]
  refine sumR_lt (j := i) (fun j _ => ?_) hi ?_
  · cases l[j]? with
    | none => exact Nat.le_refl _
    | some c' =>
      simp only
      cases d j <;> cases decide (j = i) <;> simp
  · simp only [hc, hdi]
    rw [hdi] at hpos
    simpa using hpos

theorem gone_or (g i : Nat) : (goneD (g ||| 2 ^ i)) = fun j => goneD g j || decide (j = i) := by
  funext j
  simp only [goneD, Nat.testBit_or, Nat.testBit_two_pow]
  congr 1
  exact decide_eq_decide.2 ⟨fun h => h.symm, fun h => h.symm⟩

/-- What is known of Cut after some calls. -/
structure CutI (l : List Kl) (s t : Int) (i : Nat) (z : List Int × Nat × Nat) : Prop where
  inc : z.1.Pairwise (· < ·)
  rng : ∀ x ∈ z.1, 0 ≤ x ∧ x < i
  gone : z.2.1 = maskN z.1
  cnt : z.2.2 = mcP l s t z.2.1
  sum : z.1.length + z.2.2 = mcP l s t 0
  done : ∀ j, j < i → goneD z.2.1 j = false → mcP l s t (z.2.1 ||| 2 ^ j) = z.2.2

theorem maskN_snoc (w : List Int) (i : Nat) : maskN (w ++ [(i : Int)]) = maskN w ||| 2 ^ i := by
  unfold maskN
  rw [List.foldl_append]
  simp

theorem mc_one {l : List Kl} {s t : Int} (hst : s ≠ t) (hl : l.length < 1000) (g i : Nat) : mcP l s t g ≤ mcP l s t (g ||| 2 ^ i) + 1 := by
  refine GM_one (j := i) (fun j hj => ?_) (by simpa using Ne.symm hst) hl
  rw [gone_or]
  simp [hj]

theorem mc_more {l : List Kl} {s t : Int} (hst : s ≠ t) (hl : l.length < 1000) (g i : Nat) : mcP l s t (g ||| 2 ^ i) ≤ mcP l s t g := by
  refine GM_more (fun j hj => ?_) (by simpa using Ne.symm hst) hl
  rw [gone_or]
  simp only [hj, Bool.true_or]

theorem CutI.step {l : List Kl} {s t : Int} (hst : s ≠ t) (hl : l.length < 1000) {i : Nat} {z : List Int × Nat × Nat} (c : Kl) (a : CutI l s t i z) : CutI l s t (i + 1) (cutG l s t i c z) := by
  have h1 := mc_one (l := l) hst hl z.2.1 i
  have h2 := mc_more (l := l) hst hl z.2.1 i
  have hc := a.cnt
  unfold cutG
  split
  · rename_i hlt
    refine ⟨?_, ?_, by simp only; rw [maskN_snoc, ← a.gone], rfl, ?_, ?_⟩
    · rw [List.pairwise_append]
      refine ⟨a.inc, List.pairwise_singleton _ _, fun x hx y hy => ?_⟩
      simp only [List.mem_singleton] at hy
      subst hy
      exact (a.rng x hx).2
    · intro x hx
      rcases List.mem_append.1 hx with hx | hx
      · have := a.rng x hx; omega
      · simp only [List.mem_singleton] at hx; omega
    · have := a.sum
      simp only [List.length_append, List.length_cons, List.length_nil]
      omega
    · intro j hj hg
      simp only at hg ⊢
      rw [gone_or] at hg
      simp only [Bool.or_eq_false_iff, decide_eq_false_iff_not] at hg
      have hd := a.done j (by omega) hg.1
      -- one more gone after j: it still does not help
      have h3 := mc_more (l := l) hst hl (z.2.1 ||| 2 ^ i) j
      have h4 := mc_one (l := l) hst hl (z.2.1 ||| 2 ^ j) i
      have e : z.2.1 ||| 2 ^ i ||| 2 ^ j = z.2.1 ||| 2 ^ j ||| 2 ^ i := by rw [Nat.or_assoc, Nat.or_comm (2 ^ i), ← Nat.or_assoc]
      rw [e] at h3 ⊢
      omega
  · rename_i hlt
    refine ⟨a.inc, fun x hx => by have := a.rng x hx; omega, a.gone, a.cnt, a.sum, fun j hj hg => ?_⟩
    by_cases e : j = i
    · subst e; omega
    · exact a.done j (by omega) hg

theorem CutI.all {l : List Kl} {s t : Int} (hst : s ≠ t) (hl : l.length < 1000) : CutI l s t l.length (foldI (cutG l s t) l 0 ([], 0, mcP l s t 0)) := by
  have : ∀ (m : List Kl) (i : Nat) (z : List Int × Nat × Nat), CutI l s t i z → CutI l s t (i + m.length) (foldI (cutG l s t) m i z) := by
    intro m
    induction m with
    | nil => intro i z h; exact h
    | cons c m ih =>
      intro i z h
      have := ih (i + 1) _ (h.step hst hl c)
      rw [List.length_cons, show i + (m.length + 1) = i + 1 + m.length by omega]
      exact this
  have h := this l 0 ([], 0, mcP l s t 0) ⟨List.Pairwise.nil, by simp, rfl, rfl, by simp, fun j hj => by omega⟩
  rwa [Nat.zero_add] at h

/-- Cut, in short. -/
theorem cut_facts {l : List Kl} {s t : Int} (hst : s ≠ t) (hl : l.length < 1000) : (cutP l s t).Pairwise (· < ·) ∧ (∀ x ∈ cutP l s t, 0 ≤ x ∧ x < l.length) ∧ (cutP l s t).length = mcP l s t 0 ∧ mcP l s t (maskN (cutP l s t)) = 0 := by
  have a := CutI.all (l := l) (s := s) (t := t) hst hl
  have hz : mcP l s t (maskN (cutP l s t)) = 0 := by
    refine Classical.byContradiction fun hne => ?_
    have e : mcP l s t (maskN (cutP l s t)) = (foldI (cutG l s t) l 0 ([], 0, mcP l s t 0)).2.2 := by
      rw [a.cnt, a.gone]; rfl
    obtain ⟨i, hi, hd, hlt⟩ := GM_drop hst hl (Nat.pos_of_ne_zero hne : 0 < GM 1000 t (maskL l (goneD (maskN (cutP l s t)))) (fun p => p == s))
    have h2 := a.done i hi (by rw [a.gone]; exact hd)
    rw [← gone_or] at hlt
    have h3 : mcP l s t (maskN (cutP l s t) ||| 2 ^ i) < mcP l s t (maskN (cutP l s t)) := hlt
    rw [e] at h3
    rw [a.gone] at h2
    have h4 : mcP l s t (maskN (cutP l s t) ||| 2 ^ i) = (foldI (cutG l s t) l 0 ([], 0, mcP l s t 0)).2.2 := h2
    omega
  refine ⟨a.inc, a.rng, ?_, hz⟩
  have h1 := a.sum
  have h2 := a.cnt
  rw [a.gone] at h2
  have h3 : (foldI (cutG l s t) l 0 ([], 0, mcP l s t 0)).2.2 = 0 := by rw [h2]; exact hz
  rw [h3] at h1
  exact h1

/-- Where nothing flows, there is no way. -/
theorem no_way {n s t : Int} {l : List Kl} (v : VP n l) (hs : 0 ≤ s ∧ s < n) (hst : s ≠ t) {w : List Int} (hw : w ∈ allWays l s t) {d : Nat → Bool} (hd : ∀ i ∈ w, d i.toNat = false) : 0 < GM 1000 t (maskL l d) (fun p => p == s) := by
  obtain ⟨h1, h2⟩ := way_walk v hs hst (d := d) hw hd
  exact GM_ge (k := 1) (ws := fun _ => w.map Int.toNat) (fun _ _ => ⟨h1, h2⟩) (fun j j' hj hj' hne => by omega) (by decide)

theorem asc_nodup : ∀ (w : List Nat) (m : Nat), Asc m w → w.Nodup := by
  intro w
  induction w with
  | nil => intro _ _; exact List.nodup_nil
  | cons i w ih =>
    intro m h
    rw [List.nodup_cons]
    exact ⟨fun hi => by have := h.2.mem i hi; omega, ih _ h.2⟩

theorem way_nodup {n s t : Int} {l : List Kl} (v : VP n l) (hs : 0 ≤ s ∧ s < n) (hst : s ≠ t) {w : List Int} (hw : w ∈ allWays l s t) : w.Nodup := by
  obtain ⟨_, h2⟩ := way_walk v hs hst (d := fun _ => false) hw (fun _ _ => rfl)
  have := asc_nodup _ _ h2
  rw [List.nodup_iff_pairwise_ne, List.pairwise_map] at this
  rw [List.nodup_iff_pairwise_ne]
  exact this.imp fun h e => h (by rw [e])

theorem sum_ones : ∀ (L : List Nat), (∀ x ∈ L, 1 ≤ x) → L.sum ≤ L.length → ∀ x ∈ L, x = 1 := by
  intro L
  induction L with
  | nil => intro _ _ x hx; cases hx
  | cons y L ih =>
    intro h hs
    rw [List.sum_cons, List.length_cons] at hs
    have h1 := h y List.mem_cons_self
    have h2 : ∀ (M : List Nat), (∀ x ∈ M, 1 ≤ x) → M.length ≤ M.sum := by
      intro M
      induction M with
      | nil => intro _; simp
      | cons z M ihm =>
        intro hM
        have := ihm fun x hx => hM x (List.mem_cons_of_mem _ hx)
        have := hM z List.mem_cons_self
        rw [List.sum_cons, List.length_cons]
        omega
    have h3 := h2 L fun x hx => h x (List.mem_cons_of_mem _ hx)
    intro x hx
    rcases List.mem_cons.1 hx with rfl | hx
    · omega
    · exact ih (fun x hx => h x (List.mem_cons_of_mem _ hx)) (by omega) x hx

/-- Each of the ways apart has just one call of the cut. -/
theorem ways_cut {n s t : Int} {l : List Kl} (v : VP n l) (hs : 0 ≤ s ∧ s < n) (hst : s ≠ t) {W : List (List Int)} (a : AprR l s t W) : ∀ w ∈ W, w.countP (fun i => decide (i ∈ cutP l s t)) = 1 := by
  have l24 := v.len
  obtain ⟨c1, c2, c3, c4⟩ := cut_facts (l := l) (s := s) (t := t) hst (by omega)
  have cnd : (cutP l s t).Nodup := List.nodup_iff_pairwise_ne.2 (c1.imp fun h e => by omega)
  have hge : ∀ w ∈ W, 1 ≤ w.countP (fun i => decide (i ∈ cutP l s t)) := by
    intro w hw
    refine Nat.one_le_iff_ne_zero.2 fun h0 => ?_
    rw [List.countP_eq_zero] at h0
    have := no_way v hs hst (a.ways w hw) (d := goneD (maskN (cutP l s t))) (fun i hi => by
      rw [Bool.eq_false_iff]
      intro hb
      obtain ⟨x, hx, e⟩ := (maskN_bit _ _).1 hb
      have hx0 := (c2 x hx).1
      have hi0 := ((allWays_ok w (a.ways w hw)).2.2 i hi).1
      have : x = i := by omega
      subst this
      exact h0 x hi (by simpa using hx))
    unfold mcP at c4
    omega
  have fl : W.flatten.Nodup := by
    rw [List.nodup_iff_pairwise_ne, List.pairwise_flatten]
    refine ⟨fun w hw => List.nodup_iff_pairwise_ne.1 (way_nodup v hs hst (a.ways w hw)), a.dis.imp fun h i hi j hj e => h i hi (by rw [e]; exact hj)⟩
  have hle : (W.map fun w => w.countP (fun i => decide (i ∈ cutP l s t))).sum ≤ W.length := by
    have h1 : (W.flatten.filter fun i => decide (i ∈ cutP l s t)).length ≤ (cutP l s t).length := nodup_le (fl.sublist List.filter_sublist) fun x hx => by simpa using (List.mem_filter.1 hx).2
    rw [c3, ← a.len, ← List.countP_eq_length_filter, List.countP_flatten] at h1
    exact h1
  have := sum_ones (W.map fun w => w.countP (fun i => decide (i ∈ cutP l s t))) (fun x hx => by
    obtain ⟨w, hw, rfl⟩ := List.mem_map.1 hx
    exact hge w hw) (by rw [List.length_map]; exact hle)
  exact fun w hw => this _ (List.mem_map.2 ⟨w, hw, rfl⟩)

end Go.AM

end

section

/- The staged forms of functions 9, 12, and what calls of these answer. -/
namespace Go.AM
open Go.Proofs
noncomputable def f9 (rec : Rec) (_k : Nat) (v0 : Value) (n0 : Int) (n1 : Int) (h0 : H) : Option (Value × H) :=
  bx h0 24 v0 fun h1 =>
  ld Try.prog h1 24 (nx h0) 0 fun v1 =>
  calls rec h1 18 [v1] fun v2 h2 =>
  calls rec h2 48 [v2, (.int .i64 n0), (.int .i64 n1)] fun v3 h3 =>
  ext v3 0 fun v4 =>
  ext v3 1 fun v5 =>
  asI .i64 v5 fun n2 =>
  ld Try.prog h3 24 (nx h0) 0 fun v6 =>
  calls rec h3 18 [v6] fun v7 h4 =>
  calls rec h4 49 [v7, (.int .i64 n0), (.int .i64 n1)] fun v8 h5 =>
  ext v8 0 fun v9 =>
  ext v8 1 fun v10 =>
  asI .i64 v10 fun n3 =>
  ld Try.prog h5 24 (nx h0) 0 fun v11 =>
  calls rec h5 21 [v11, (.int .i64 n0), (.int .i64 n1)] fun v12 h6 =>
  asB v12 fun q0 =>
  ifB (not q0) (
    len v4 fun n4 =>
    len v9 fun n5 =>
    ifB (eq (add .i64 n4 n5) 0) (
      ifB (eq n2 2) (
        ifB (eq n3 2) (
          calls rec h6 22 [] fun v13 h7 =>
          asB v13 fun q1 =>
          some ((.bool q1), h7)) (
          some ((.bool false), h6))) (
        some ((.bool false), h6))) (
      some ((.bool false), h6))) (
    ld Try.prog h6 24 (nx h0) 0 fun v14 =>
    calls rec h6 50 [v14, (.int .i64 n0), (.int .i64 n1), v4] fun v15 h8 =>
    asB v15 fun q2 =>
    ifB q2 (
      len v4 fun n6 =>
      ld Try.prog h8 24 (nx h0) 0 fun v16 =>
      calls rec h8 51 [v16, (.int .i64 n0), (.int .i64 n1), (.int .i64 0)] fun v17 h9 =>
      asI .i64 v17 fun n7 =>
      ifB (eq n6 n7) (
        ifB (eq n2 0) (
          ld Try.prog h9 24 (nx h0) 0 fun v18 =>
          calls rec h9 52 [v18, (.int .i64 n0), (.int .i64 n1)] fun v19 h10 =>
          calls rec h10 26 [v9, v19] fun v20 h11 =>
          asB v20 fun q3 =>
          ifB q3 (
            ifB (eq n3 0) (
              calls rec h11 22 [] fun v21 h12 =>
              asB v21 fun q4 =>
              some ((.bool q4), h12)) (
              some ((.bool false), h11))) (
            some ((.bool false), h11))) (
          some ((.bool false), h9))) (
        some ((.bool false), h9))) (
      some ((.bool false), h8)))

theorem e9 (rec : Rec) (k : Nat) (v0 : Value) (n0 : Int) (n1 : Int) (h : H) : bodyT Try.prog E0 SC (XC Try.prog rec k) 9 (Value × H) [.opq v0, .int .i64 n0, .int .i64 n1] h (fun v h => some (v, h)) = f9 rec k v0 n0 n1 h := by kernel_rfl

theorem t9 {k : Nat} {v0 : Value} {n0 : Int} {n1 : Int} {h h1 : H} {v : Value} (hh : f9 rn k v0 n0 n1 h = some (v, h1)) : rn 9 #[v0, .int .i64 n0, .int .i64 n1] h = some (v, trunc Try.prog h h1 v) :=
  run_of_bodyT (args := [.opq v0, .int .i64 n0, .int .i64 n1]) rfl ((e9 _ _ _ _ _ _).trans hh)

theorem x9 {k : Nat} {v0 : Value} {n0 : Int} {n1 : Int} {h h1 : H} {v : Value} (hh : f9 rn k v0 n0 n1 h = some (v, h1)) (hp : plainO v = false) : rn 9 #[v0, .int .i64 n0, .int .i64 n1] h = some (v, h1) := by rw [t9 hh, trunc_not hp]

noncomputable def f12_l2 (rec : Rec) (_k : Nat) (v9 : Value) (v13 : Value) (n10 : Int) (ws1 : List Value) (h11 : H) : Option (Ex × List Value × H) :=
  asI .i64 (gv ws1 3) fun n11 =>
  ifB (lt n11 n10) (
    asK (gv ws1 3) fun n12 =>
    six v13 n12 1 fun b2 b3 =>
    ld Try.prog h11 3 b2 b3 fun v19 =>
    asI .i64 v19 fun n13 =>
    calls rec h11 44 [gv ws1 1, (.int .i64 n13)] fun v20 h12 =>
    asB v20 fun q3 =>
    ifB q3 (
      out .ret [(.bool false), gv ws1 1, gv ws1 2, gv ws1 3] h12) (
      bls Try.prog h12 25 1 [(0, (.int .i64 n13))] fun v21 h13 =>
      app Try.prog h13 25 25 (gv ws1 1) v21 fun v22 h14 =>
      calls rec h14 44 [v9, (.int .i64 n13)] fun v23 h15 =>
      asB v23 fun q4 =>
      ifB q4 (
        asI .i64 (gv ws1 2) fun n14 =>
        asI .i64 (gv ws1 3) fun n15 =>
        out .normal [gv ws1 0, v22, (.int .i64 (add .i64 n14 1)), (.int .i64 (add .i64 n15 1))] h15) (
        asI .i64 (gv ws1 3) fun n16 =>
        out .normal [gv ws1 0, v22, gv ws1 2, (.int .i64 (add .i64 n16 1))] h15))) (
    out (.exit 2) [gv ws1 0, gv ws1 1, gv ws1 2, gv ws1 3] h11)

noncomputable def f12_l1 (rec : Rec) (k : Nat) (n0 : Int) (n1 : Int) (h0 : H) (v4 : Value) (v9 : Value) (n6 : Int) (ws0 : List Value) (h8 : H) : Option (Ex × List Value × H) :=
  asI .i64 (gv ws0 2) fun n7 =>
  ifB (lt n7 n6) (
    asK (gv ws0 2) fun n8 =>
    six v4 n8 1 fun b0 b1 =>
    ld Try.prog h8 25 b0 b1 fun v13 =>
    ld Try.prog h8 24 (nx h0) 0 fun v14 =>
    calls rec h8 18 [v14] fun v15 h9 =>
    calls rec h9 27 [v15, (.int .i64 n0), (.int .i64 n1), v13] fun v16 h10 =>
    ext v16 0 fun v17 =>
    asB v17 fun q2 =>
    ext v16 1 fun v18 =>
    asI .i64 v18 fun n9 =>
    ifB (not q2) (
      out .ret [(.bool false), gv ws0 1, gv ws0 2] h10) (
      ifB (not (eq n9 0)) (
        out .ret [(.bool false), gv ws0 1, gv ws0 2] h10) (
        len v13 fun n10 =>
        lp k (f12_l2 rec k v9 v13 n10) [gv ws0 0, gv ws0 1, (.int .i64 0), (.int .i64 0)] h10 fun e0 ws2 h16 =>
        onE e0 2 (
          asI .i64 (gv ws2 2) fun n17 =>
          ifB (not (eq n17 1)) (
            out .ret [(.bool false), gv ws2 1, gv ws0 2] h16) (
            asI .i64 (gv ws0 2) fun n18 =>
            out .normal [gv ws2 0, gv ws2 1, (.int .i64 (add .i64 n18 1))] h16)) (
          onR e0 (
            out .ret [gv ws2 0, gv ws2 1, gv ws0 2] h16))))) (
    out (.exit 0) [gv ws0 0, gv ws0 1, gv ws0 2] h8)

noncomputable def f12_l3 (rec : Rec) (_k : Nat) (v9 : Value) (h17 : H) (v28 : Value) (n20 : Int) (ws4 : List Value) (h21 : H) : Option (Ex × List Value × H) :=
  asI .i64 (gv ws4 0) fun n21 =>
  ifB (lt n21 n20) (
    asK (gv ws4 0) fun n22 =>
    six v28 n22 3 fun b4 b5 =>
    ld Try.prog h21 56 b4 b5 fun v29 =>
    al h21 56 [(.int .i64 0), (.int .i64 0), (.int .i64 0)] fun h22 =>
    st Try.prog h22 56 (nx h21) 0 v29 fun h23 =>
    calls rec h23 44 [v9, gv ws4 0] fun v30 h24 =>
    asB v30 fun q5 =>
    ifB (not q5) (
      ld Try.prog h24 29 (nx h17) (off 0 1) fun v31 =>
      ld Try.prog h24 56 (nx h21) 0 fun v32 =>
      bls Try.prog h24 29 1 [(0, v32)] fun v33 h25 =>
      app Try.prog h25 29 29 v31 v33 fun v34 h26 =>
      st Try.prog h26 29 (nx h17) (off 0 1) v34 fun h27 =>
      asI .i64 (gv ws4 0) fun n23 =>
      out .normal [(.int .i64 (add .i64 n23 1))] h27) (
      asI .i64 (gv ws4 0) fun n24 =>
      out .normal [(.int .i64 (add .i64 n24 1))] h24)) (
    out (.exit 4) [gv ws4 0] h21)

noncomputable def f12 (rec : Rec) (k : Nat) (v0 : Value) (n0 : Int) (n1 : Int) (h0 : H) : Option (Value × H) :=
  bx h0 24 v0 fun h1 =>
  ld Try.prog h1 24 (nx h0) 0 fun v1 =>
  calls rec h1 18 [v1] fun v2 h2 =>
  calls rec h2 48 [v2, (.int .i64 n0), (.int .i64 n1)] fun v3 h3 =>
  ext v3 0 fun v4 =>
  ext v3 1 fun v5 =>
  asI .i64 v5 fun n2 =>
  ld Try.prog h3 24 (nx h0) 0 fun v6 =>
  calls rec h3 18 [v6] fun v7 h4 =>
  calls rec h4 49 [v7, (.int .i64 n0), (.int .i64 n1)] fun v8 h5 =>
  ext v8 0 fun v9 =>
  ext v8 1 fun v10 =>
  asI .i64 v10 fun n3 =>
  ifB (not (eq n2 0)) (
    ifB (eq n2 2) (
      ifB (eq n3 2) (
        calls rec h5 22 [] fun v11 h6 =>
        asB v11 fun q0 =>
        some ((.bool q0), h6)) (
        some ((.bool false), h5))) (
      some ((.bool false), h5))) (
    ifB (not (eq n3 0)) (
      some ((.bool false), h5)) (
      len v4 fun n4 =>
      len v9 fun n5 =>
      ifB (not (eq n4 n5)) (
        some ((.bool false), h5)) (
        calls rec h5 60 [v9] fun v12 h7 =>
        asB v12 fun q1 =>
        ifB (not q1) (
          some ((.bool false), h7)) (
          len v4 fun n6 =>
          lp k (f12_l1 rec k n0 n1 h0 v4 v9 n6) [(.bool false), (.slice none 0 0), (.int .i64 0)] h7 fun e1 ws3 h17 =>
          onE e1 0 (
            ld Try.prog h17 3 (nx h0) 0 fun v24 =>
            asI .i64 v24 fun n19 =>
            bld Try.prog 31 [(0, (.int .i64 n19))] fun v25 =>
            al h17 31 [(.int .i64 0), (.slice none 0 0)] fun h18 =>
            st Try.prog h18 31 (nx h17) 0 v25 fun h19 =>
            ld Try.prog h19 24 (nx h0) 0 fun v26 =>
            calls rec h19 18 [v26] fun v27 h20 =>
            fld Try.prog 31 v27 1 fun v28 =>
            len v28 fun n20 =>
            lp k (f12_l3 rec k v9 h17 v28 n20) [(.int .i64 0)] h20 fun e2 _ h28 =>
            onE e2 4 (
              ld Try.prog h28 31 (nx h17) 0 fun v35 =>
              calls rec h28 17 [v35, (.int .i64 n0), (.int .i64 n1)] fun v36 h29 =>
              ext v36 0 fun _ =>
              ext v36 1 fun v38 =>
              asI .i64 v38 fun n25 =>
              ifB (eq n25 4) (
                calls rec h29 22 [] fun v39 h30 =>
                asB v39 fun q6 =>
                some ((.bool q6), h30)) (
                some ((.bool false), h29))) (
              none)) (
            onR e1 (
              some (gv ws3 0, h17)))))))

theorem e12 (rec : Rec) (k : Nat) (v0 : Value) (n0 : Int) (n1 : Int) (h : H) : bodyT Try.prog E0 SC (XC Try.prog rec k) 12 (Value × H) [.opq v0, .int .i64 n0, .int .i64 n1] h (fun v h => some (v, h)) = f12 rec k v0 n0 n1 h := by kernel_rfl

theorem t12 {k : Nat} {v0 : Value} {n0 : Int} {n1 : Int} {h h1 : H} {v : Value} (hh : f12 rn k v0 n0 n1 h = some (v, h1)) : rn 12 #[v0, .int .i64 n0, .int .i64 n1] h = some (v, trunc Try.prog h h1 v) :=
  run_of_bodyT (args := [.opq v0, .int .i64 n0, .int .i64 n1]) rfl ((e12 _ _ _ _ _ _).trans hh)

theorem p12 {k : Nat} {v0 : Value} {n0 : Int} {n1 : Int} {h h1 : H} {v : Value} (hh : f12 rn k v0 n0 n1 h = some (v, h1)) (hp : plainO v = true) (x : Ext h h1) : rn 12 #[v0, .int .i64 n0, .int .i64 n1] h = some (v, h) := by rw [t12 hh, trunc_pure hp x]

theorem x12 {k : Nat} {v0 : Value} {n0 : Int} {n1 : Int} {h h1 : H} {v : Value} (hh : f12 rn k v0 n0 n1 h = some (v, h1)) (hp : plainO v = false) : rn 12 #[v0, .int .i64 n0, .int .i64 n1] h = some (v, h1) := by rw [t12 hh, trunc_not hp]

end Go.AM

end

section

/- The staged forms of functions 60, 95, 110, and what calls of these answer. -/
namespace Go.AM
open Go.Proofs
noncomputable def f60_l1 (rec : Rec) (_k : Nat) (v0 : Value) (ws0 : List Value) (h1 : H) : Option (Ex × List Value × H) :=
  asI .i64 (gv ws0 1) fun n1 =>
  ifB (lt 0 n1) (
    asK (gv ws0 1) fun n2 =>
    six v0 n2 1 fun b0 b1 =>
    ld Try.prog h1 3 b0 b1 fun v1 =>
    asI .i64 v1 fun n3 =>
    asI .i64 (gv ws0 1) fun n4 =>
    six v0 (sub .i64 n4 1) 1 fun b2 b3 =>
    ld Try.prog h1 3 b2 b3 fun v2 =>
    asI .i64 v2 fun n5 =>
    calls rec h1 95 [(.int .i64 n3), (.int .i64 n5)] fun v3 h2 =>
    asB v3 fun q0 =>
    ifB q0 (
      out .ret [(.bool false), gv ws0 1] h2) (
      asI .i64 (gv ws0 1) fun n6 =>
      out .normal [gv ws0 0, (.int .i64 (sub .i64 n6 1))] h2)) (
    out (.exit 0) [gv ws0 0, gv ws0 1] h1)

noncomputable def f60 (rec : Rec) (k : Nat) (v0 : Value) (h0 : H) : Option (Value × H) :=
  len v0 fun n0 =>
  lp k (f60_l1 rec k v0) [(.bool false), (.int .i64 (sub .i64 n0 1))] h0 fun e0 ws1 h3 =>
  onE e0 0 (
    some ((.bool true), h3)) (
    onR e0 (
      some (gv ws1 0, h3)))

theorem e60 (rec : Rec) (k : Nat) (v0 : Value) (h : H) : bodyT Try.prog E0 SC (XC Try.prog rec k) 60 (Value × H) [.opq v0] h (fun v h => some (v, h)) = f60 rec k v0 h := by kernel_rfl

theorem t60 {k : Nat} {v0 : Value} {h h1 : H} {v : Value} (hh : f60 rn k v0 h = some (v, h1)) : rn 60 #[v0] h = some (v, trunc Try.prog h h1 v) :=
  run_of_bodyT (args := [.opq v0]) rfl ((e60 _ _ _ _).trans hh)

theorem p60 {k : Nat} {v0 : Value} {h h1 : H} {v : Value} (hh : f60 rn k v0 h = some (v, h1)) (hp : plainO v = true) (x : Ext h h1) : rn 60 #[v0] h = some (v, h) := by rw [t60 hh, trunc_pure hp x]

noncomputable def f95 (rec : Rec) (_k : Nat) (n0 : Int) (n1 : Int) (h0 : H) : Option (Value × H) :=
  calls rec h0 110 [(.int .i64 n0)] fun v0 h1 =>
  asB v0 fun q0 =>
  ifB q0 (
    calls rec h1 110 [(.int .i64 n1)] fun v1 h2 =>
    asB v1 fun q1 =>
    ifB (not q1) (
      some ((.bool true), h2)) (
      some ((.bool (lt n0 n1)), h2))) (
    some ((.bool (lt n0 n1)), h1))

theorem e95 (rec : Rec) (k : Nat) (n0 : Int) (n1 : Int) (h : H) : bodyT Try.prog E0 SC (XC Try.prog rec k) 95 (Value × H) [.int .i64 n0, .int .i64 n1] h (fun v h => some (v, h)) = f95 rec k n0 n1 h := by kernel_rfl

theorem t95 {k : Nat} {n0 : Int} {n1 : Int} {h h1 : H} {v : Value} (hh : f95 rn k n0 n1 h = some (v, h1)) : rn 95 #[.int .i64 n0, .int .i64 n1] h = some (v, trunc Try.prog h h1 v) :=
  run_of_bodyT (args := [.int .i64 n0, .int .i64 n1]) rfl ((e95 _ _ _ _ _).trans hh)

theorem p95 {k : Nat} {n0 : Int} {n1 : Int} {h h1 : H} {v : Value} (hh : f95 rn k n0 n1 h = some (v, h1)) (hp : plainO v = true) (x : Ext h h1) : rn 95 #[.int .i64 n0, .int .i64 n1] h = some (v, h) := by rw [t95 hh, trunc_pure hp x]

noncomputable def f110 (_rec : Rec) (_k : Nat) (n0 : Int) (h0 : H) : Option (Value × H) :=
  some ((.bool (not (eq n0 n0))), h0)

theorem e110 (rec : Rec) (k : Nat) (n0 : Int) (h : H) : bodyT Try.prog E0 SC (XC Try.prog rec k) 110 (Value × H) [.int .i64 n0] h (fun v h => some (v, h)) = f110 rec k n0 h := by kernel_rfl

theorem t110 {k : Nat} {n0 : Int} {h h1 : H} {v : Value} (hh : f110 rn k n0 h = some (v, h1)) : rn 110 #[.int .i64 n0] h = some (v, trunc Try.prog h h1 v) :=
  run_of_bodyT (args := [.int .i64 n0]) rfl ((e110 _ _ _ _).trans hh)

theorem p110 {k : Nat} {n0 : Int} {h h1 : H} {v : Value} (hh : f110 rn k n0 h = some (v, h1)) (hp : plainO v = true) (x : Ext h h1) : rn 110 #[.int .i64 n0] h = some (v, h) := by rw [t110 hh, trunc_pure hp x]

end Go.AM

end

section

/- CallsMenger, on the abstract machine. -/
namespace Go.AM
open Go.Proofs
theorem s110 (n : Int) (h : H) : rn 110 #[iv n] h = some (.bool false, h) := p110 (k := 0) (by unfold f110; rw [eq_t rfl]; rfl) rfl (.refl _)

theorem s95 (a b : Int) (h : H) : rn 95 #[iv a, iv b] h = some (.bool (lt a b), h) := p95 (k := 0) (by
  unfold f95
  rw [calls_eq (xs := [_]) (s110 a h), asB_bool, ifB_false]) rfl (.refl _)

theorem s60 {v : Value} {l : List Int} {h : H} (hs : SlR h 3 1 v (cellsI l)) (hl : l.length < 1000) (hi : l.Pairwise (· < ·)) : rn 60 #[v] h = some (.bool true, h) := by
  obtain ⟨e, ws, g, q1, rfl, rfl⟩ := lp_meas (F := f60_l1 rn 1000 v) (σ := Int) (fun i ws g => g = h ∧ -1 ≤ i ∧ i < l.length ∧ ws = [.bool false, iv i]) (fun i => (i + 1).toNat) (fun e ws g => g = h ∧ e = .exit 0)
    (fun i ws g hI => by
      obtain ⟨rfl, h1, h2, rfl⟩ := hI
      by_cases h0 : 0 < i
      · refine ⟨.normal, [.bool false, iv (i - 1)], g, ?_, .inl ⟨rfl, i - 1, ⟨rfl, by omega, by omega, rfl⟩, by omega⟩⟩
        obtain ⟨m, rfl⟩ := Int.eq_ofNat_of_zero_le (show 0 ≤ i by omega)
        have g1 : l[m]? = some l[m] := List.getElem?_eq_getElem (by omega)
        have g2 : l[m - 1]? = some l[m - 1] := List.getElem?_eq_getElem (by omega)
        have hlt : l[m - 1] < l[m] := List.pairwise_iff_getElem.1 hi _ _ (by omega) (by omega) (by omega)
        unfold f60_l1
        simp only [gv, List.getD_cons_zero, List.getD_cons_succ, asI_int, asK_int]
        rw [lt_t h0, ifB_true]
        simp only [d3]
        rw [hs.c0 (by omega) (x := [iv l[m]]) (by simp [g1]) rfl, asI_int, sub64 (by omega) (by omega), hs.c0 (by omega) (x := [iv l[m - 1]]) (by rw [show ((m : Int) - 1).toNat = m - 1 by omega, List.getElem?_map, g2]; rfl) rfl, asI_int, calls_eq (xs := [_, _]) (s95 _ _ _), asB_bool, lt_f (by omega), ifB_false]
        rfl
      · refine ⟨.exit 0, [.bool false, iv i], g, ?_, .inr ⟨by simp, rfl, rfl⟩⟩
        unfold f60_l1
        simp only [gv, List.getD_cons_zero, List.getD_cons_succ, asI_int]
        rw [lt_f h0, ifB_false]
        rfl) 1001 ((l.length : Int) - 1) [.bool false, iv ((l.length : Int) - 1)] h (by omega) ⟨rfl, by omega, by omega, rfl⟩
  refine p60 (k := 1001) ?_ rfl (.refl _)
  unfold f60
  have hn : ∀ {T : Type} (K : Int → Option T), len v K = K (l.length : Int) := fun K => by rw [hs.len]; simp
  have q1' : lpGo (f60_l1 rn 1001 v) 1001 [.bool false, iv ((l.length : Int) - 1)] g = some (.exit 0, ws, g) := q1
  rw [hn, sub64 (by omega) (by omega), lp_eq q1', onE_exit, if_pos rfl]

/-- A way's calls are new, and so many of them are in the cut. -/
theorem l122 {lo k : Nat} {g0 : H} {v9 wv met : Value} {C w M : List Int} {n : Nat} (h9 : SlR g0 3 1 v9 (cellsI C)) (hw : SlR g0 3 1 wv (cellsI w)) (hl9 : ∀ b, blkOf v9 = some b → b < lo) (hlw : ∀ b, blkOf wv = some b → b < lo) (hlo : lo ≤ g0.nx) (hM : AqR lo g0 3 1 met (cellsI M)) (hnd : (M ++ w).Nodup) (hlen : M.length + w.length < 1000) (hk : w.length < k) (hn : n < 1000) (r : Value) :
    ∃ met' g, lpGo (f12_l2 rn k v9 wv w.length) k [r, met, iv n, iv 0] g0 = some (.exit 2, [r, met', iv (n + w.countP fun i => decide (i ∈ C) : Nat), iv w.length], g) ∧ AqR lo g 3 1 met' (cellsI (M ++ w)) ∧ g0.nx ≤ g.nx ∧ ∀ b, b < lo → g.blk b = g0.blk b := by
  obtain ⟨ws', g, q1, m1, m2, met', m3, rfl⟩ := lp_for (k := k) (l := w) (F := f12_l2 rn k v9 wv w.length) (σ := Unit) (fun _ _ s => s)
    (fun i _ ws g => g0.nx ≤ g.nx ∧ (∀ b, b < lo → g.blk b = g0.blk b) ∧ ∃ met, AqR lo g 3 1 met (cellsI (M ++ w.take i)) ∧ ws = [r, met, iv (n + (w.take i).countP fun i => decide (i ∈ C) : Nat), iv i]) 2 (ws := [r, met, iv n, iv 0]) (h := g0) (s0 := ())
    ⟨Nat.le_refl _, fun _ _ => rfl, met, by simpa using hM, by simp⟩ hk
    (fun _ ws g hI => by
      obtain ⟨_, _, met, _, rfl⟩ := hI
      unfold f12_l2
      simp only [gv, List.getD_cons_zero, List.getD_cons_succ, asI_int]
      rw [lt_f (by omega), ifB_false]; rfl)
    (fun i x _ ws g hx hI => by
      obtain ⟨hn', hf, met, hM', rfl⟩ := hI
      have hi := (List.getElem?_eq_some_iff.1 hx).1
      have h9g := slR_keep h9 hn' fun b hb => hf b (hl9 b hb)
      have hwg := slR_keep hw hn' fun b hb => hf b (hlw b hb)
      have hfresh : x ∉ M ++ w.take i := by
        intro hm
        have e : M ++ w = (M ++ w.take i) ++ (x :: w.drop (i + 1)) := by
          rw [List.append_assoc]
          congr 1
          obtain ⟨h1, h2⟩ := List.getElem?_eq_some_iff.1 hx
          rw [← h2, ← List.drop_eq_getElem_cons h1, List.take_append_drop]
        rw [e, List.nodup_append] at hnd
        exact hnd.2.2 x hm x List.mem_cons_self rfl
      have hmlen : (M ++ w.take i).length < 1000 := by simp; omega
      have hcl : (w.take i).countP (fun i => decide (i ∈ C)) ≤ 1000 := Nat.le_trans List.countP_le_length (by simp; omega)
      have htake : w.take (i + 1) = w.take i ++ [x] := by rw [List.take_add_one, hx]; rfl
      obtain ⟨met', g9, e9, a9, n9, k9, b9, hb9, hb9'⟩ := hM'.push app25 app25 (bls25 x) rfl rfl (by rw [List.length_map]; omega) (by omega)
      have f9 : ∀ b, b < lo → g9.blk b = g0.blk b := fun b hb => (k9 b (by omega) (fun e => by have := (hM'.blkOf e).1; omega)).trans (hf b hb)
      have h99 := slR_keep h9 (by omega) fun b hb => f9 b (hl9 b hb)
      refine ⟨[r, met', iv (n + (w.take (i + 1)).countP fun i => decide (i ∈ C) : Nat), iv (i + 1 : Nat)], g9, ?_, by omega, f9, met', ?_, rfl⟩
      · unfold f12_l2
        simp only [gv, List.getD_cons_zero, List.getD_cons_succ, asI_int, asK_int]
        rw [lt_t (by omega), ifB_true]
        simp only [d3]
        rw [hwg.c0 (by omega) (x := [iv x]) (by simp [hx]) rfl, asI_int, calls_eq (xs := [_, _]) (s44 (x := x) hM'.slR), asB_bool, decide_eq_false hfresh, ifB_false]
        refine (e9 _).trans ?_
        rw [calls_eq (xs := [_, _]) (s44 (x := x) h99), asB_bool, htake, List.countP_append]
        by_cases hc : x ∈ C
        · rw [decide_eq_true hc, ifB_true, add64 (by omega) (by omega), add64 (by omega) (by omega)]
          simp [hc, out]
          omega
        · rw [decide_eq_false hc, ifB_false, add64 (by omega) (by omega)]
          simp [hc, out]
      · rw [htake, ← List.append_assoc, cellsI, List.map_append]
        exact a9)
  rw [List.take_length] at m3
  refine ⟨met', g, ?_, m3, m1, m2⟩
  rw [q1, List.take_length]

/-- The calls that are not in the cut. -/
theorem l123 {h17 h20 : H} {n : Int} {v9 sl : Value} {l : List Kl} {C : List Int} {left : Nat} (hC : ∀ j : Nat, j < l.length → (((j : Nat) : Int) ∈ C ↔ left.testBit j = false)) (hlt : h17.nx < h20.nx) (hb : h20.blk h17.nx = some (.row [iv n, .slice none 0 0] 31 true)) (hi : SlR h20 3 1 v9 (cellsI C)) (hs : SlR h20 56 3 sl (l.map Kl.cells)) (hl24 : l.length ≤ 24) (k : Nat) (hk : l.length < k) :
    ∃ w g sv, lpGo (f12_l3 rn k v9 h17 sl l.length) k [iv 0] h20 = some (.exit 4, w, g) ∧ h20.nx ≤ g.nx ∧ (∀ b, b < h20.nx → b ≠ h17.nx → g.blk b = h20.blk b) ∧ g.blk h17.nx = some (.row [iv n, sv] 31 true) ∧ SlR g 56 3 sv ((partL l left).map Kl.cells) := by
  obtain ⟨ws', g', hl, hn, hk', _, sv, hsv, hap, rfl⟩ := lp_for (F := f12_l3 rn k v9 h17 sl l.length) (k := k) (l := l) (fun _ _ (_ : Unit) => ())
    (fun i _ ws g => h20.nx ≤ g.nx ∧ (∀ b, b < h20.nx → b ≠ h17.nx → g.blk b = h20.blk b) ∧ True ∧ ∃ sv, g.blk h17.nx = some (.row [iv n, sv] 31 true) ∧ AqR h20.nx g 56 3 sv ((partL (l.take i) left).map Kl.cells) ∧ ws = [iv i]) 4 (ws := [iv 0]) (h := h20) (s0 := ())
    ⟨Nat.le_refl _, fun _ _ _ => rfl, trivial, _, hb, .nil, rfl⟩ hk
    (by
      rintro _ ws g ⟨_, _, _, sv, _, _, rfl⟩
      unfold f12_l3
      rw [show gv [iv (l.length : Int)] 0 = iv (l.length : Int) from rfl, asI_int, lt_f (by omega), ifB_false]
      rfl)
    (by
      rintro i c _ ws g hc ⟨hn, hk, _, sv, hg2, hap, rfl⟩
      have hil := (List.getElem?_eq_some_iff.1 hc).1
      have kt : ∀ (e : TypeId), e ≠ 31 → ∀ b cs o, b < h20.nx → h20.blk b = some (.row cs e o) → g.blk b = h20.blk b := fun e he b cs o hbl hr => hk b hbl fun e' => by
        rw [e', hb] at hr
        simp at hr
        exact he hr.2.1.symm
      have hs' := hs.keepT hn (kt 56 (by decide))
      have hi' := hi.keepT hn (kt 3 (by decide))
      have y7 := (Ext.refl g).fresh 56 [iv 0, iv 0, iv 0] c.cells
      have hcb := blk_fresh g 56 [iv 0, iv 0, iv 0] c.cells
      have n7 : (g.fresh 56 [iv 0, iv 0, iv 0] c.cells).nx = g.nx + 1 := rfl
      have hadd : add .i64 (i : Int) 1 = (i : Int) + 1 := add64 (by omega) (by omega)
      have hsnoc := partZ_snoc (left := left) hc
      have hpl := partZ_len (l.take i) left
      rw [List.length_take] at hpl
      unfold f12_l3
      rw [show gv [iv i] 0 = iv i from rfl, asI_int, lt_t (by omega), ifB_true, asK_int, hs'.ldA ag56 sz56 (by omega) (x := c.cells) (by simp [hc])]
      rw [al_st (zs := [iv 0, iv 0, iv 0]) (xs := c.cells) sz56 rfl rfl, calls_eq (xs := [_, _]) (s44 (hi'.ext y7)), asB_bool]
      have hlt9 : h17.nx < g.nx := by omega
      have g2 := (y7.blk h17.nx (by omega)).trans hg2
      have a7 := hap.ext y7
      generalize g.fresh 56 [iv 0, iv 0, iv 0] c.cells = h7 at *
      have k7 : ∀ b, b < h20.nx → b ≠ h17.nx → h7.blk b = h20.blk b := fun b hbl hne => (y7.blk b (by omega)).trans (hk b hbl hne)
      have hmem := hC i hil
      by_cases hf : left.testBit i = true
      · have hnm : ¬ ((i : Nat) : Int) ∈ C := fun hm => by rw [hmem.1 hm] at hf; cases hf
        rw [decide_eq_false hnm, Bool.not_false, ifB_true]
        rw [hf, if_pos rfl] at hsnoc
        obtain ⟨v', h8, e9, a9, n9, k9, b9, hb9, hb9'⟩ := a7.push app29 app29 (bls29 c) rfl rfl (by simp [partL]; omega) (by omega)
        have nosv : ∀ b, b < h20.nx → AM.blkOf sv ≠ some b := fun b hbl e => by have := (a7.blkOf e).1; omega
        have g2' := (k9 h17.nx (by omega) (nosv _ hlt)).trans g2
        have hst : wrc 1 h8 h17.nx 1 v' = some (h8.set h17.nx (.row [iv n, v'] 31 true)) := by rw [wrc_one g2' a9.cells.1 a9.cells.2 (by simp)]; rfl
        refine ⟨[iv ((i : Int) + 1)], h8.set h17.nx (.row [iv n, v'] 31 true), ?_, by rw [nx_set]; omega, fun b hbl hne => ?_, trivial, v', blk_set_self _ _ _, ?_, rfl⟩
        · rw [d29, nx_eq, nx_eq, cell_of g2, show ([iv n, sv] : List Value)[off 0 1]? = some sv from rfl, Option.bind_some, d56, rd_all (n := 3) hcb rfl, Option.bind_some, show c.cells.toArray = #[.int .i64 c.a, .int .i64 c.b, .int .i64 c.t] from rfl, e9, w29, show off 0 1 = 1 from rfl, hst, Option.bind_some, asI_int, hadd]
          rfl
        · rw [blk_set_ne _ _ _ hne, k9 b (by omega) (nosv b hbl)]
          exact k7 b hbl hne
        · unfold partL
          rw [hsnoc, List.map_append, List.map_append]
          refine AqR.keep (h := h8) a9 (by rw [nx_set]; omega) fun b hb => blk_set_ne _ _ _ ?_
          rw [hb9] at hb; cases hb; omega
      · have hf' : left.testBit i = false := by simpa using hf
        have hm : ((i : Nat) : Int) ∈ C := hmem.2 hf'
        rw [decide_eq_true hm, Bool.not_true, ifB_false]
        rw [hf', if_neg (by simp), List.append_nil] at hsnoc
        refine ⟨[iv ((i : Int) + 1)], h7, ?_, by omega, k7, trivial, sv, g2, by unfold partL; rw [hsnoc]; exact a7, rfl⟩
        rw [asI_int, hadd]
        rfl)
  rw [List.take_length] at hap
  exact ⟨_, g', sv, hl, hn, hk', hsv, hap.slR⟩

end Go.AM

end

section

/- Best ways, arrivals and the news. -/
namespace Go.AM
open Go.Proofs
theorem best_fold (ofP : List Int → Int) : ∀ (ws : List (List Int)) (σ : Option (List Int)),
    match ws.foldl (betterP ofP) σ with
    | none => σ = none ∧ ws = []
    | some b => (σ = some b ∨ b ∈ ws) ∧ (∀ w ∈ ws, ofP b ≤ ofP w) ∧ ∀ a, σ = some a → ofP b ≤ ofP a := by
  intro ws
  induction ws with
  | nil =>
    intro σ
    cases σ with
    | none => exact ⟨rfl, rfl⟩
    | some b => exact ⟨.inl rfl, by simp, fun a h => by cases h; exact Int.le_refl _⟩
  | cons w ws ih =>
    intro σ
    have := ih (betterP ofP σ w)
    rw [List.foldl_cons]
    cases hf : ws.foldl (betterP ofP) (betterP ofP σ w) with
    | none =>
      rw [hf] at this
      have h1 := this.1
      unfold betterP at h1
      split at h1
      · cases h1
      · split at h1 <;> cases h1
    | some b =>
      rw [hf] at this
      obtain ⟨h1, h2, h3⟩ := this
      cases σ with
      | none =>
        have h4 := h3 w rfl
        refine ⟨.inr ?_, fun x hx => ?_, fun a h => by cases h⟩
        · rcases h1 with h1 | h1
          · cases h1; exact List.mem_cons_self
          · exact List.mem_cons_of_mem _ h1
        · rcases List.mem_cons.1 hx with rfl | hx
          · exact h4
          · exact h2 x hx
      | some a =>
        by_cases hlt : ofP w < ofP a
        · have e : betterP ofP (some a) w = some w := by simp [betterP, hlt]
          rw [e] at h1 h3
          have h4 := h3 w rfl
          refine ⟨.inr ?_, fun x hx => ?_, fun a' h => by cases h; omega⟩
          · rcases h1 with h1 | h1
            · cases h1; exact List.mem_cons_self
            · exact List.mem_cons_of_mem _ h1
          · rcases List.mem_cons.1 hx with rfl | hx
            · exact h4
            · exact h2 x hx
        · have e : betterP ofP (some a) w = some a := by simp [betterP, hlt]
          rw [e] at h1 h3
          have h4 := h3 a rfl
          refine ⟨?_, fun x hx => ?_, fun a' h => by cases h; exact h4⟩
          · rcases h1 with h1 | h1
            · exact .inl h1
            · exact .inr (List.mem_cons_of_mem _ h1)
          · rcases List.mem_cons.1 hx with rfl | hx
            · omega
            · exact h2 x hx

theorem best_some {ofP : List Int → Int} {l : List Kl} {s t : Int} {b : List Int} (h : bestP ofP l s t = some b) : b ∈ allWays l s t ∧ ∀ w ∈ allWays l s t, ofP b ≤ ofP w := by
  have := best_fold ofP (allWays l s t) none
  unfold bestP at h
  rw [h] at this
  exact ⟨this.1.resolve_left (by simp), this.2.1⟩

end Go.AM

end

section

/- CallsMenger: the whole law. -/
namespace Go.AM
open Go.Proofs
theorem l121 {n : Nat} {s t : Int} {h0 h5 : H} {sl v4 v9 : Value} {l : List Kl} {vs : List Value} {W : List (List Int)} (hp : pairP n l s t = true) (b0 : h5.blk h0.nx = some (.row [iv n, sl] 24 true)) (hlt : h0.nx < h5.nx) (hs : SlR h5 59 3 sl (l.map Kl.cells))
    (h4 : SlR h5 25 1 v4 (cellsV vs)) (hss : SsR h5 vs W) (ap : AprR l s t W) (h9 : SlR h5 3 1 v9 (cellsI (cutP l s t))) :
    ∃ ws g, lpGo (f12_l1 rn 1000 s t h0 v4 v9 W.length) 1000 [.bool false, .slice none 0 0, iv 0] h5 = some (.exit 0, ws, g) ∧ Ext h5 g := by
  obtain ⟨hv, hsn, htn, hst⟩ := pairP_parts hp
  have v := vp_iff.1 hv
  have l24 := v.len
  have hl : l.take 26 = l := List.take_of_length_le (by omega)
  have hWl : W.length ≤ 24 := by have := mcP_le (l := l) hst 0; have := ap.len; omega
  have fl : W.flatten.Nodup := by
    rw [List.nodup_iff_pairwise_ne, List.pairwise_flatten]
    exact ⟨fun w hw => List.nodup_iff_pairwise_ne.1 (way_nodup v hsn hst (ap.ways w hw)), ap.dis.imp fun h i hi j hj e => h i hi (by rw [e]; exact hj)⟩
  have fsub : ∀ x ∈ W.flatten, x ∈ (List.range 24).map fun (j : Nat) => (j : Int) := fun x hx => by
    obtain ⟨w, hw, hx⟩ := List.mem_flatten.1 hx
    have := (allWays_ok w (ap.ways w hw)).2.2 x hx
    exact List.mem_map.2 ⟨x.toNat, List.mem_range.2 (by omega), by omega⟩
  have flen : W.flatten.length ≤ 24 := by
    have := nodup_le fl fsub
    rwa [List.length_map, List.length_range] at this
  obtain ⟨ws', g, q1, m1, met, m2, r, rfl⟩ := lp_for (k := 1000) (l := W) (F := f12_l1 rn 1000 s t h0 v4 v9 W.length) (σ := Unit) (fun _ _ s => s)
    (fun i _ ws g => Ext h5 g ∧ ∃ met, AqR h5.nx g 3 1 met (cellsI (W.take i).flatten) ∧ ∃ r, ws = [r, met, iv i]) 0 (ws := [.bool false, .slice none 0 0, iv 0]) (h := h5) (s0 := ())
    ⟨.refl _, _, .nil, _, rfl⟩ (by omega)
    (fun _ ws g hI => by
      obtain ⟨_, met, _, r, rfl⟩ := hI
      unfold f12_l1
      simp only [gv, List.getD_cons_zero, List.getD_cons_succ, asI_int]
      rw [lt_f (by omega), ifB_false]; rfl)
    (fun i w _ ws g hw hI => by
      obtain ⟨hx, met, hM, r, rfl⟩ := hI
      have hi := (List.getElem?_eq_some_iff.1 hw).1
      have hwm := List.mem_of_getElem? hw
      have hvl : i < vs.length := by rw [hss.1]; exact hi
      have hvi : vs[i]? = some vs[i] := List.getElem?_eq_getElem hvl
      have sw := hss.2 i _ w hvi hw
      generalize vs[i] = wv at hvi sw
      obtain ⟨la, g9, e9, x9, s9⟩ := s18 (n := (n : Int)) (hs.ext hx)
      rw [hl] at s9
      have x59 := hx.trans x9
      have c27 := s27 (n := (n : Int)) (s := s) (t := t) s9 (sw.ext x59)
      have hck : checkP l s t w = true := (mem_all hv hst w).1 (ap.ways w hwm)
      rw [hp, hck] at c27
      have hwk := (allWays_ok w (ap.ways w hwm)).2.1
      have hsplit : W.flatten = ((W.take i).flatten ++ w) ++ (W.drop (i + 1)).flatten := by
        obtain ⟨h1, h2⟩ := List.getElem?_eq_some_iff.1 hw
        rw [List.append_assoc, ← List.flatten_cons, ← h2, ← List.drop_eq_getElem_cons h1, ← List.flatten_append, List.take_append_drop]
      have hnd : ((W.take i).flatten ++ w).Nodup := by rw [hsplit] at fl; exact (List.nodup_append.1 fl).1
      have hln : ((W.take i).flatten ++ w).length ≤ 24 := by
        rw [hsplit, List.length_append] at flen; omega
      rw [List.length_append] at hln
      obtain ⟨met', g10, q2, a10, n10, f10⟩ := l122 (lo := h5.nx) (k := 1000) (n := 0) (h9.ext x59) (sw.ext x59) (fun b hb => slR_bel h9 hb) (fun b hb => slR_bel sw hb) x59.nx (hM.ext x9) hnd (by omega) (by omega) (by omega) r
      have hone := ways_cut v hsn hst ap w hwm
      rw [Nat.zero_add, hone] at q2
      refine ⟨[r, met', iv (i + 1 : Nat)], g10, ?_, ⟨by have := x59.nx; omega, fun b hb => by rw [f10 b hb, x59.blk b hb]⟩, met', ?_, r, rfl⟩
      · unfold f12_l1
        simp only [gv, List.getD_cons_zero, List.getD_cons_succ, asI_int, asK_int]
        rw [lt_t (by omega), ifB_true]
        simp only [d25]
        rw [(h4.ext hx).c0 (by omega) (x := [wv]) (by rw [Int.toNat_natCast, List.getElem?_map, hvi]; rfl) rfl, d24, nx_eq, rd_all (n := 2) ((hx.blk _ hlt).trans b0) rfl, Option.bind_some]
        refine (calls_eq (xs := [_]) e9).trans ?_
        refine (calls_eq (xs := [_, _, _, _]) c27).trans ?_
        rw [ext20, asB_bool, ext21]
        simp only [if_true, Bool.and_self, Bool.not_true, ifB_false, asI_int]
        rw [eq_t rfl, Bool.not_true, ifB_false, (sw.ext x59).len, List.length_map]
        refine (lp_eq q2).trans ?_
        rw [onE_exit, if_pos rfl]
        simp only [gv, List.getD_cons_zero, List.getD_cons_succ, asI_int]
        rw [show eq ((1 : Nat) : Int) 1 = true from rfl, Bool.not_true, ifB_false, add64 (by omega) (by omega)]
        rfl
      · rw [List.take_add_one, hw, List.flatten_append]
        simpa using a10)
  exact ⟨_, g, q1, m1⟩

theorem s12 {n s t : Int} {sl : Value} {l : List Kl} {h : H} (hs : SlR h 59 3 sl (l.map Kl.cells)) : ∃ h', rn 12 #[.agg #[iv n, sl], iv s, iv t] h = some (.bool true, h') := by
  have x1 : Ext h (h.new (.row [iv n, sl] 24 true)) := .new _ _
  have b1 : (h.new (.row [iv n, sl] 24 true)).blk h.nx = some (.row [iv n, sl] 24 true) := blk_new_self _ _
  have n1 : h.nx < (h.new (.row [iv n, sl] 24 true)).nx := Nat.lt_succ_self _
  have start : ∃ h1, f12 rn 1000 (.agg #[iv n, sl]) s t h = some (.bool true, h1) := by
    unfold f12
    rw [bx_eq, nx_eq, show (Value.agg #[iv n, sl]).cells.toList = [iv n, sl] from rfl]
    generalize h.new (.row [iv n, sl] 24 true) = h1 at *
    have ld1 : ∀ (g : H), Ext h1 g → ∀ (K : Value → Option (Value × H)), ld Try.prog g 24 h.nx 0 K = K (.agg #[iv n, sl]) := fun g x K => by
      rw [d24, rd_all (n := 2) ((x.blk _ n1).trans b1) rfl]; rfl
    have ldn : ∀ (g : H), Ext h1 g → ∀ (K : Value → Option (Value × H)), ld Try.prog g 3 h.nx 0 K = K (iv n) := fun g x K => by
      rw [d3, cell_of ((x.blk _ n1).trans b1)]; rfl
    obtain ⟨la, h2, e2, x2, s2⟩ := s18 (n := n) (hs.ext x1)
    rw [ld1 _ (.refl _), calls_eq (xs := [_]) e2]
    cases hp : pairP n l s t with
    | false =>
      have hp' : pairP n (l.take 26) s t = false := by rw [pairP_take]; exact hp
      obtain ⟨h3, e3, x3⟩ := s48_bad s2 hp'
      rw [calls_eq (xs := [_, _, _]) e3, ext20, ext21, asI_int]
      have x13 := x2.trans x3
      rw [ld1 _ x13]
      obtain ⟨lb, h4, e4, x4, s4⟩ := s18 (n := n) (hs.ext (x1.trans x13))
      rw [calls_eq (xs := [_]) e4]
      obtain ⟨h5, e5, x5⟩ := s49_bad s4 hp'
      rw [calls_eq (xs := [_, _, _]) e5, ext20, ext21, asI_int, eq_f (by omega), Bool.not_false, ifB_true, eq_t rfl, ifB_true, ifB_true, k22]
      exact ⟨_, rfl⟩
    | true =>
      obtain ⟨hv, hsn, htn, hst⟩ := pairP_parts hp
      obtain ⟨hn1, hn7, l24, _⟩ := validP_ok hv
      obtain ⟨m, rfl⟩ := Int.eq_ofNat_of_zero_le (show 0 ≤ n by omega)
      have v := vp_iff.1 hv
      have hl : l.take 26 = l := List.take_of_length_le (by omega)
      rw [hl] at s2
      obtain ⟨v4, vs, W, h3, e3, x3, a4, ss, ap⟩ := s48 s2 hp
      rw [calls_eq (xs := [_, _, _]) e3, ext20, ext21, asI_int]
      have x13 := x2.trans x3
      rw [ld1 _ x13]
      obtain ⟨lb, h4, e4, x4, s4⟩ := s18 (n := (m : Int)) (hs.ext (x1.trans x13))
      rw [calls_eq (xs := [_]) e4]
      rw [hl] at s4
      obtain ⟨v9, h5, e5, x5, a9⟩ := s49 s4 hp
      have x35 := x4.trans x5
      have x15 := x13.trans x35
      obtain ⟨c1, c2, c3, c4⟩ := cut_facts (l := l) (s := s) (t := t) hst (by omega)
      have hmc := mcP_le (l := l) hst 0
      have lv4 : ∀ {T : Type} (K : Int → Option T), len v4 K = K (W.length : Int) := fun K => by rw [a4.len]; simp [ss.1]
      have lv9 : ∀ {T : Type} (K : Int → Option T), len v9 K = K (W.length : Int) := fun K => by rw [a9.len]; simp [c3, ap.len]
      rw [calls_eq (xs := [_, _, _]) e5, ext20, ext21, asI_int, eq_t rfl, Bool.not_true, ifB_false, ifB_false, lv4, lv9, eq_t rfl, Bool.not_true, ifB_false]
      rw [calls_eq (xs := [_]) (s60 a9 (by omega) c1), asB_bool, Bool.not_true, ifB_false, lv4]
      obtain ⟨ws, g, q1, xg⟩ := l121 (h0 := h) hp ((x15.blk _ n1).trans b1) (Nat.lt_of_lt_of_le n1 x15.nx) (hs.ext (x1.trans x15)) (a4.ext x35) (ss.keep x35.nx fun v hv b hb => x35.blk b (ss.bel hv hb)) ap a9
      rw [lp_eq q1, onE_exit, if_pos rfl]
      have x1g := x15.trans xg
      rw [ldn _ x1g, asI_int, kbld31, al_st (zs := [.int .i64 0, .slice none 0 0]) (xs := [iv m, .slice none 0 0]) sz31 rfl rfl]
      have y9 := (Ext.refl g).fresh 31 [.int .i64 0, .slice none 0 0] [iv m, .slice none 0 0]
      have b9 := blk_fresh g 31 [.int .i64 0, .slice none 0 0] [iv m, .slice none 0 0]
      have n9 : (g.fresh 31 [.int .i64 0, .slice none 0 0] [iv m, .slice none 0 0]).nx = g.nx + 1 := rfl
      generalize g.fresh 31 [.int .i64 0, .slice none 0 0] [iv m, .slice none 0 0] = h19 at *
      have x119 := x1g.trans y9
      rw [ld1 _ x119]
      obtain ⟨lc, h20, e20, x20, s20⟩ := s18 (n := (m : Int)) (hs.ext (x1.trans x119))
      rw [hl] at s20
      have llc : ∀ {T : Type} (K : Int → Option T), len lc K = K (l.length : Int) := fun K => by rw [s20.len]; simp
      rw [calls_eq (xs := [_]) e20, kfld31, llc]
      have hlt : g.nx < h20.nx := Nat.lt_of_lt_of_le (by omega) x20.nx
      have b20 := (x20.blk g.nx (by omega)).trans b9
      have hC : ∀ j : Nat, j < l.length → (((j : Nat) : Int) ∈ cutP l s t ↔ (leftS (2 ^ 24 - 1) (cutP l s t)).testBit j = false) := by
        intro j hj
        rw [leftS_bit, Nat.testBit_two_pow_sub_one, decide_eq_true (show j < 24 by omega), Bool.true_and]
        constructor
        · intro hm
          rw [Bool.not_eq_false', List.any_eq_true]
          exact ⟨_, hm, by simp⟩
        · intro hm
          rw [Bool.not_eq_false', List.any_eq_true] at hm
          obtain ⟨x, hx, e⟩ := hm
          have := (c2 x hx).1
          rw [beq_iff_eq] at e
          rw [show (j : Int) = x by omega]
          exact hx
      obtain ⟨w2, g2, sv, hl2, hgn2, hgk, hg2, hsg⟩ := l123 (left := leftS (2 ^ 24 - 1) (cutP l s t)) hC hlt b20 (a9.ext (xg.trans (y9.trans x20))) s20 l24 1000 (by omega)
      rw [lp_eq hl2, onE_exit, if_pos rfl, d31, nx_eq, rd_all (n := 2) hg2 rfl, Option.bind_some]
      have hpl : pairP (m : Int) (partL l (leftS (2 ^ 24 - 1) (cutP l s t))) s t = true := by
        unfold pairP
        rw [vp_iff.2 (v.part _), decide_eq_true hsn, decide_eq_true htn]
        simp [hst]
      obtain ⟨v17, e17, h29, c17, x29, best⟩ := s17 hsg hpl
      have hnone : bestP (ofK (partL l (leftS (2 ^ 24 - 1) (cutP l s t))) 0) (partL l (leftS (2 ^ 24 - 1) (cutP l s t))) s t = none := by
        cases hb : bestP (ofK (partL l (leftS (2 ^ 24 - 1) (cutP l s t))) 0) (partL l (leftS (2 ^ 24 - 1) (cutP l s t))) s t with
        | none => rfl
        | some w =>
          exfalso
          have hw := (best_some hb).1
          have := no_way (v.part _) hsn hst hw (d := goneD 0) (fun i _ => by simp)
          have h0 : mcP (partL l (leftS (2 ^ 24 - 1) (cutP l s t))) s t 0 = mcP l s t (maskN (cutP l s t)) := by
            rw [part_mc]
            unfold mcP
            congr 1
            refine List.ext_getElem? fun j => ?_
            rw [maskL_get, maskL_get]
            cases hj : l[j]? with
            | none => rfl
            | some c =>
              have hjl := (List.getElem?_eq_some_iff.1 hj).1
              have h7 : (!(leftS (2 ^ 24 - 1) (cutP l s t)).testBit j) = goneD (maskN (cutP l s t)) j := by
                have h8 := hC j hjl
                rw [Bool.eq_iff_iff, Bool.not_eq_true', ← h8]
                show _ ↔ (maskN (cutP l s t)).testBit j = true
                rw [maskN_bit]
                constructor
                · intro hm; exact ⟨_, hm, by simp⟩
                · rintro ⟨x, hx, e⟩
                  have := (c2 x hx).1
                  rw [show (j : Int) = x by omega]
                  exact hx
              simp only [Option.map_some, h7]
          have h1 : 0 < mcP (partL l (leftS (2 ^ 24 - 1) (cutP l s t))) s t 0 := this
          omega
      rw [hnone] at best
      obtain ⟨rfl, rfl⟩ := best
      refine ⟨h29, ?_⟩
      refine (calls_eq (xs := [_, _, _]) c17).trans ?_
      rw [ext20, ext21, asI_int, eq_t rfl, ifB_true, k22]
      rfl
  obtain ⟨h1, e⟩ := start
  exact ⟨_, t12 e⟩

end Go.AM

end

section

/- The logs that a statement is handed, in the abstract heap. -/
namespace Go.AM
open Go.Proofs Go.ChangeShapes
variable {HH : Type} {enc : TypeId × Value → HH} {w : World} {base : Nat} {held : Bool}
noncomputable def fields59 : Array Field := match Try.prog.underlying 59 with
  | some (.struct fs) => fs
  | _ => #[]

theorem under59 : Try.prog.underlying 59 = some (.struct fields59) := by kernel_rfl

theorem fields59_types : fields59.toList.map (fun f => (f.type, f.offset)) = [(3, 0), (3, 1), (3, 2)] := by kernel_rfl

theorem cellsOf3 : Try.prog.cellsOf 3 = 1 := by kernel_rfl

theorem cellsOf59 : Try.prog.cellsOf 59 = 3 := by kernel_rfl

theorem flat59 (n : Nat) (cs : List Value) (x : DataW HH × List MemPlace) (h : DataW.trod enc Try.prog w base (fun _ => true) held n 59 cs = some x) : ∃ c : Kl, cs = c.cells := by
  obtain ⟨a, b, t, e⟩ := trod_three under59 fields59_types (show Try.prog.underlying 3 = some (.int .i64) from by kernel_rfl) cellsOf3 cellsOf59 h
  exact ⟨⟨a, b, t⟩, e⟩

/-- Rows that are cells of calls are the cells of a list of calls. -/
theorem calls_of : ∀ (l : List (List Value)), (∀ x ∈ l, ∃ c : Kl, x = c.cells) → ∃ l' : List Kl, l = l'.map Kl.cells := by
  intro l
  induction l with
  | nil => intro _; exact ⟨[], rfl⟩
  | cons x l ih =>
    intro h
    obtain ⟨c, hc⟩ := h x (by simp)
    obtain ⟨l', hl⟩ := ih (fun y hy => h y (List.mem_cons_of_mem _ hy))
    exact ⟨c :: l', by rw [hc, hl]; rfl⟩

noncomputable def fields24 : Array Field := match Try.prog.underlying 24 with
  | some (.struct fs) => fs
  | _ => #[]

noncomputable def field24 (i : Nat) : Field := fields24[i]!

theorem under24s : Try.prog.underlying 24 = some (.struct fields24) := by kernel_rfl

theorem fields24_eq : fields24 = #[field24 0, field24 1] := by kernel_rfl

theorem field24_0 : ((field24 0).type, (field24 0).offset) = (3, 0) := by kernel_rfl

theorem field24_1 : ((field24 1).type, (field24 1).offset) = (22, 1) := by kernel_rfl

theorem under3 : Try.prog.underlying 3 = some (.int .i64) := by kernel_rfl

theorem under22L : Try.prog.underlying 22 = some (.slice 59) := by kernel_rfl

theorem cellsOf24 : Try.prog.cellsOf 24 = 2 := by kernel_rfl

theorem cellsOf22 : Try.prog.cellsOf 22 = 1 := by kernel_rfl

theorem bytes59 : Try.prog.bytesOf 59 = 24 := by kernel_rfl

theorem types24 : Try.prog.cellTypes Try.prog.depth 24 = some [3, 22] := by kernel_rfl

set_option maxRecDepth 100000 in
/-- A log that came in. -/
theorem open_log {rr : Reach} {b0 : Nat} {v : Value} {d : DataW HH} {ps : List MemPlace} (hv : Value.okWide Try.prog w rr b0 24 v) (hwt : ∀ x ∈ d.weights Try.prog 24, x ≤ reachBytes)
    (hd : DataW.Trod enc Try.prog w base (fun _ => true) held 24 v d ps) {ι : Nat → Emb} {h : H} (r : Rel Try.prog E0 ι h w) (hro : ∀ b k, h.blk b = some k → k.own = false) :
    ∃ (n : Int) (sl sl0 : Value) (ι' : Nat → Emb) (h' : H) (l : List Kl), v = .agg #[iv n, sl] ∧ (Lit.int .i64 n).wf = true ∧ Rel Try.prog E0 ι' h' w ∧ (∀ b k, h'.blk b = some k → k.own = false) ∧ Ext h h' ∧ (∀ b, b < h.nx → ι' b = ι b) ∧
      VR ι' h'.nx sl0 sl ∧ SlR h' 59 3 sl0 (l.map Kl.cells) := by
  obtain ⟨n, a, len, cap, d1, p1, rfl, hn, hw1, hhas, hd1⟩ := open_numslice under24s fields24_eq (Prod.mk.inj field24_0) (Prod.mk.inj field24_1) under3 under22L cellsOf24 cellsOf3 cellsOf22 types24 hv hwt hd
  obtain ⟨ι', h', v0, l, g1, g2, g3, g4, g5, g6, g7⟩ := open_flat r hro under22L sz59 cellsOf59 (by decide) (Q := fun x => ∃ c : Kl, x = c.cells) flat59 (by
    rintro cs ⟨c, rfl⟩
    exact ⟨rfl, fun v hv => by simp [Kl.cells] at hv; rcases hv with rfl | rfl | rfl <;> exact ⟨_, _, rfl⟩⟩) (by rw [bytes59]; exact Nat.succ_pos _) hw1 hhas hd1
  obtain ⟨l', rfl⟩ := calls_of l g7
  exact ⟨n, _, v0, ι', h', l', rfl, hn, g1, g2, g3, g4, g5, g6⟩

end Go.AM

end
