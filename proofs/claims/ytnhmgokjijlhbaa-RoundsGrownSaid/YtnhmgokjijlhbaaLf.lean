/- The lives of states: what is said of them, that they are the only ones, and that a queue finds them. -/
import Derived.LoopN
namespace Go.Lives

/-- What is said of lives: -1 has no end. -/
def IsLife (D : Nat) (tos : Nat → List Nat) (L : Nat → Int) : Prop :=
  ∀ c, c < D → (L c = -1 → ∃ t ∈ tos c, L t = -1) ∧ (L c ≠ -1 → 0 ≤ L c ∧ (∀ t ∈ tos c, 0 ≤ L t ∧ L t < L c) ∧ (L c = 0 ∨ ∃ t ∈ tos c, L t = L c - 1))

theorem life_unique {D : Nat} {tos : Nat → List Nat} (hD : ∀ c, c < D → ∀ t ∈ tos c, t < D) {L M : Nat → Int} (hL : IsLife D tos L) (hM : IsLife D tos M) : ∀ c, c < D → L c = M c := by
  have key : ∀ {L M : Nat → Int}, IsLife D tos L → IsLife D tos M → ∀ (n : Nat) (c : Nat), c < D → L c = (n : Int) → M c = (n : Int) := by
    intro L M hL hM n
    induction n using Nat.strongRecOn with
    | ind n ih =>
      intro c hc h
      obtain ⟨_, h2⟩ := hL c hc
      obtain ⟨_, h3, h4⟩ := h2 (by omega)
      obtain ⟨m1, m2⟩ := hM c hc
      have same : ∀ t ∈ tos c, M t = L t := fun t ht => by
        obtain ⟨q1, q2⟩ := h3 t ht
        obtain ⟨k, hk⟩ := Int.eq_ofNat_of_zero_le q1
        rw [hk]
        exact ih k (by omega) t (hD c hc t ht) hk
      have hne : M c ≠ -1 := fun e => by
        obtain ⟨t, ht, e2⟩ := m1 e
        rw [same t ht] at e2
        have := (h3 t ht).1
        omega
      obtain ⟨k1, k2, k3⟩ := m2 hne
      rcases h4 with h4 | ⟨t, ht, h4⟩
      · have hn : n = 0 := by omega
        subst hn
        rcases k3 with k3 | ⟨t, ht, _⟩
        · simpa using k3
        · have := (h3 t ht); omega
      · have e1 := k2 t ht
        rw [same t ht] at e1
        rcases k3 with k3 | ⟨t', ht', k3⟩
        · omega
        · rw [same t' ht'] at k3
          have := (h3 t' ht').2
          omega
  intro c hc
  by_cases h : L c = -1
  · by_cases h' : M c = -1
    · omega
    · obtain ⟨k, hk⟩ := Int.eq_ofNat_of_zero_le ((hM c hc).2 h').1
      have := key hM hL k c hc hk
      omega
  · obtain ⟨k, hk⟩ := Int.eq_ofNat_of_zero_le ((hL c hc).2 h).1
    have := key hL hM k c hc hk
    omega

/-- A function changed at one place. -/
def upd (f : Nat → Int) (i : Nat) (x : Int) : Nat → Int := fun j => if j = i then x else f j

/-- What one entry of those that came before the head does. -/
def bstep (q : Nat) (s : (Nat → Int) × (Nat → Int) × List Nat) (c : Nat) : (Nat → Int) × (Nat → Int) × List Nat :=
  if s.1 c - 1 = 0 then (upd s.1 c (s.1 c - 1), upd s.2.1 c (s.2.1 q + 1), s.2.2 ++ [c]) else (upd s.1 c (s.1 c - 1), s.2.1, s.2.2)

/-- How many of the states that come have not been dealt with. -/
def left (tos : Nat → List Nat) (P : List Nat) (c : Nat) : Nat := (tos c).countP fun t => decide (t ∉ P)

/-- The state of the queue: P has been dealt with, R waits. -/
structure QI (D : Nat) (tos : Nat → List Nat) (P R : List Nat) (opn life : Nat → Int) : Prop where
  nodup : (P ++ R).Nodup
  lt : ∀ c ∈ P ++ R, c < D
  cnt : ∀ c, c < D → opn c = left tos P c
  iff_ : ∀ c, c < D → (c ∈ P ++ R ↔ opn c = 0)
  out : ∀ c, c < D → c ∉ P ++ R → life c = -1
  ins : ∀ c, c < D → c ∈ P ++ R → 0 ≤ life c ∧ (∀ t ∈ tos c, t ∈ P ∧ life t < life c) ∧ (life c = 0 ∨ ∃ t ∈ tos c, life t = life c - 1)
  sorted : (P ++ R).Pairwise fun x y => life x ≤ life y
  near : ∀ x ∈ R, ∀ y ∈ R.head?, life x ≤ life y + 1

theorem QI.done {D : Nat} {tos : Nat → List Nat} (hD : ∀ c, c < D → ∀ t ∈ tos c, t < D) {P : List Nat} {opn life : Nat → Int} (h : QI D tos P [] opn life) : IsLife D tos life := by
  intro c hc
  have hPP : P ++ [] = P := List.append_nil P
  constructor
  · intro hl
    have hn : c ∉ P ++ [] := fun hm => by have := (h.ins c hc hm).1; omega
    have h0 : ¬ opn c = 0 := fun e => hn ((h.iff_ c hc).2 e)
    rw [h.cnt c hc] at h0
    have hpos : 0 < left tos P c := by omega
    obtain ⟨t, ht, hp⟩ := List.countP_pos_iff.1 hpos
    refine ⟨t, ht, h.out t (hD c hc t ht) ?_⟩
    rw [hPP]
    simpa using hp
  · intro hl
    have hm : c ∈ P ++ [] := by
      rcases Classical.em (c ∈ P ++ []) with h1 | h1
      · exact h1
      · exact absurd (h.out c hc h1) hl
    obtain ⟨h1, h2, h3⟩ := h.ins c hc hm
    refine ⟨h1, fun t ht => ?_, h3⟩
    obtain ⟨h4, h5⟩ := h2 t ht
    exact ⟨(h.ins t (hD c hc t ht) (by rw [hPP]; exact h4)).1, h5⟩

/-- While the head is dealt with: some of those before it have been counted down. -/
structure QJ (D : Nat) (tos : Nat → List Nat) (P : List Nat) (q : Nat) (R B1 N : List Nat) (opn life : Nat → Int) : Prop where
  nodup : (P ++ q :: (R ++ N)).Nodup
  lt : ∀ c ∈ N, c < D
  cnt : ∀ c, c < D → opn c + (B1.count c : Nat) = left tos P c
  iff_ : ∀ c, c < D → (c ∈ P ++ q :: (R ++ N) ↔ opn c = 0)
  out : ∀ c, c < D → c ∉ P ++ q :: (R ++ N) → life c = -1
  new : ∀ c ∈ N, life c = life q + 1 ∧ q ∈ tos c ∧ ∀ t ∈ tos c, t ∈ P ∨ t = q

theorem left_head {tos : Nat → List Nat} {P : List Nat} {q c : Nat} (hq : q ∉ P) : left tos P c = left tos (P ++ [q]) c + (tos c).count q := by
  unfold left
  generalize tos c = l
  induction l with
  | nil => rfl
  | cons t l ih =>
    rw [List.countP_cons, List.countP_cons, List.count_cons]
    generalize l.countP (fun t => decide (t ∉ P)) = a at *
    generalize l.countP (fun t => decide (t ∉ P ++ [q])) = b at *
    generalize l.count q = d at *
    by_cases h1 : t = q
    · subst h1
      have e1 : decide (t ∉ P) = true := decide_eq_true hq
      have e2 : decide (t ∉ P ++ [t]) = false := decide_eq_false (by simp)
      rw [e1, e2]
      simp
      omega
    · by_cases h2 : t ∈ P
      · have e1 : decide (t ∉ P) = false := decide_eq_false (by simp [h2])
        have e2 : decide (t ∉ P ++ [q]) = false := decide_eq_false (by simp [h2])
        rw [e1, e2]
        simp [h1]
        omega
      · have e1 : decide (t ∉ P) = true := decide_eq_true h2
        have e2 : decide (t ∉ P ++ [q]) = true := decide_eq_true (by simp [h2, h1])
        rw [e1, e2]
        simp [h1]
        omega

theorem QJ.step {D : Nat} {tos : Nat → List Nat} {P : List Nat} {q : Nat} {R R1 B1 B2 N : List Nat} {opn life opn0 life0 : Nat → Int} {c : Nat} (hI : QI D tos P (q :: R) opn0 life0) (hc : c < D)
    (hcB : (B1 ++ c :: B2).count c = (tos c).count q) (hJ : QJ D tos P q R B1 N opn life) (hold : ∀ x, x ∈ P ++ q :: R → life x = life0 x) :
    ∃ N' opn' life', bstep q (opn, life, R1 ++ N) c = (opn', life', R1 ++ N') ∧ QJ D tos P q R (B1 ++ [c]) N' opn' life' ∧ ∀ x, x ∈ P ++ q :: R → life' x = life0 x := by
  have hqP : q ∉ P := fun hm => by
    have := hI.nodup
    rw [List.nodup_append] at this
    exact this.2.2 q hm q (by simp) rfl
  have hl := left_head (tos := tos) (c := c) hqP
  have hcnt := hJ.cnt c hc
  have hB : B1.count c + 1 + B2.count c = (tos c).count q := by
    rw [← hcB, List.count_append, List.count_cons_self]; omega
  have hcn : c ∉ P ++ q :: (R ++ N) := fun hm => by
    have := (hJ.iff_ c hc).1 hm
    omega
  have hq : q ∈ P ++ q :: (R ++ N) := by simp
  by_cases h0 : opn c - 1 = 0
  · refine ⟨N ++ [c], upd opn c (opn c - 1), upd life c (life q + 1), by simp [bstep, h0, upd], ?_, fun x hx => ?_⟩
    · have hPR : P ++ q :: (R ++ (N ++ [c])) = (P ++ q :: (R ++ N)) ++ [c] := by simp
      have hcq : q ≠ c := fun e => hcn (e ▸ hq)
      refine ⟨?_, fun x hx => ?_, fun x hx => ?_, fun x hx => ?_, fun x hx hn => ?_, fun x hx => ?_⟩
      · rw [hPR, List.nodup_append]
        refine ⟨hJ.nodup, by simp, fun x hx y hy => ?_⟩
        simp at hy
        subst hy
        exact fun e => hcn (e ▸ hx)
      · rcases List.mem_append.1 hx with h | h
        · exact hJ.lt x h
        · simp at h; subst h; exact hc
      · by_cases hxc : x = c
        · subst hxc
          simp only [upd, ↓reduceIte, List.count_append, List.count_cons_self, List.count_nil]
          omega
        · have := hJ.cnt x hx
          have h2 : List.count x [c] = 0 := by simp [List.count_cons, Ne.symm hxc]
          simp only [upd, if_neg hxc, List.count_append, h2]
          omega
      · rw [hPR, List.mem_append]
        by_cases hxc : x = c
        · subst hxc
          simp only [upd, ↓reduceIte]
          exact ⟨fun _ => h0, fun _ => .inr (by simp)⟩
        · simp only [upd, if_neg hxc, ← hJ.iff_ x hx]
          exact ⟨fun h => h.resolve_right (by simpa using hxc), .inl⟩
      · rw [hPR, List.mem_append, not_or] at hn
        have hxc : x ≠ c := by simpa using hn.2
        simp only [upd, if_neg hxc]
        exact hJ.out x hx hn.1
      · rcases List.mem_append.1 hx with h | h
        · have hxc : x ≠ c := fun e => hcn (by subst e; simp [h])
          simp only [upd, if_neg hxc, if_neg hcq]
          exact hJ.new x h
        · simp at h
          subst h
          simp only [upd, ↓reduceIte, if_neg hcq]
          refine ⟨trivial, ?_, fun t ht => ?_⟩
          · exact List.count_pos_iff.1 (by omega)
          · have hz : left tos (P ++ [q]) x = 0 := by omega
            unfold left at hz
            have := List.countP_eq_zero.1 hz t ht
            rcases Classical.em (t ∈ P) with h5 | h5
            · exact .inl h5
            · exact .inr (by simpa [h5] using this)
    · have hxc : x ≠ c := fun e => hcn (by
        subst e
        simp only [List.mem_append, List.mem_cons] at hx ⊢
        rcases hx with h | h | h
        · exact .inl h
        · exact .inr (.inl h)
        · exact .inr (.inr (.inl h)))
      simp only [upd, if_neg hxc]
      exact hold x hx
  · refine ⟨N, upd opn c (opn c - 1), life, by simp [bstep, h0], ?_, hold⟩
    refine ⟨hJ.nodup, hJ.lt, fun x hx => ?_, fun x hx => ?_, hJ.out, hJ.new⟩
    · by_cases hxc : x = c
      · subst hxc
        simp only [upd, ↓reduceIte, List.count_append, List.count_cons_self, List.count_nil]
        omega
      · have := hJ.cnt x hx
        have h2 : List.count x [c] = 0 := by simp [List.count_cons, Ne.symm hxc]
        simp only [upd, if_neg hxc, List.count_append, h2]
        omega
    · by_cases hxc : x = c
      · subst hxc
        simp only [upd, ↓reduceIte]
        exact ⟨fun h => absurd h hcn, fun h => absurd h h0⟩
      · simp only [upd, if_neg hxc]
        exact hJ.iff_ x hx

/-- The head of the queue is dealt with. -/
theorem QI.step {D : Nat} {tos : Nat → List Nat} {P : List Nat} {q : Nat} {R B : List Nat} {opn0 life0 : Nat → Int} (hI : QI D tos P (q :: R) opn0 life0) (hBD : ∀ c ∈ B, c < D) (hB : ∀ c, c < D → B.count c = (tos c).count q) :
    ∃ N opn life, B.foldl (bstep q) (opn0, life0, q :: R) = (opn, life, q :: R ++ N) ∧ QI D tos (P ++ [q]) (R ++ N) opn life := by
  have key : ∀ (B2 B1 N : List Nat) (opn life : Nat → Int), B1 ++ B2 = B → QJ D tos P q R B1 N opn life → (∀ x, x ∈ P ++ q :: R → life x = life0 x) →
      ∃ N' opn' life', B2.foldl (bstep q) (opn, life, q :: R ++ N) = (opn', life', q :: R ++ N') ∧ QJ D tos P q R B N' opn' life' ∧ ∀ x, x ∈ P ++ q :: R → life' x = life0 x := by
    intro B2
    induction B2 with
    | nil =>
      intro B1 N opn life hb hJ hold
      rw [List.append_nil] at hb
      subst hb
      exact ⟨N, opn, life, rfl, hJ, hold⟩
    | cons c B2 ih =>
      intro B1 N opn life hb hJ hold
      have hc : c < D := hBD c (by rw [← hb]; simp)
      obtain ⟨N1, opn1, life1, e, hJ1, hold1⟩ := QJ.step (R1 := q :: R) hI hc (by rw [hb]; exact hB c hc) hJ hold
      rw [List.foldl_cons, e]
      exact ih (B1 ++ [c]) N1 opn1 life1 (by rw [← hb]; simp) hJ1 hold1
  obtain ⟨N, opn, life, e, hJ, hold⟩ := key B [] [] opn0 life0 rfl
    ⟨by simpa using hI.nodup, by simp, fun c hc => by simpa using hI.cnt c hc, fun c hc => by simpa using hI.iff_ c hc, fun c hc hn => hI.out c hc (by simpa using hn), by simp⟩ (fun _ _ => rfl)
  rw [List.append_nil] at e
  have hPR : (P ++ [q]) ++ (R ++ N) = P ++ q :: (R ++ N) := by simp
  have hPR2 : P ++ q :: (R ++ N) = (P ++ q :: R) ++ N := by simp
  have hqm : q ∈ P ++ q :: R := by simp
  have hqP : q ∉ P := fun hm => by
    have := hI.nodup
    rw [List.nodup_append] at this
    exact this.2.2 q hm q (by simp) rfl
  have hqD := hI.lt q hqm
  have hlq := hold q hqm
  have hq0 := (hI.ins q hqD hqm).1
  have hsrt := List.pairwise_append.1 hI.sorted
  have hPq : ∀ x ∈ P, life x ≤ life q := fun x hx => by
    rw [hold x (by simp [hx]), hlq]
    exact hsrt.2.2 x hx q (by simp)
  have hqR : ∀ x ∈ R, life q ≤ life x := fun x hx => by
    rw [hold x (by simp [hx]), hlq]
    exact (List.pairwise_cons.1 hsrt.2.1).1 x hx
  have hnear : ∀ x ∈ R, life x ≤ life q + 1 := fun x hx => by
    rw [hold x (by simp [hx]), hlq]
    exact hI.near x (by simp [hx]) q (by simp)
  refine ⟨N, opn, life, e, ?_, fun c hc => ?_, fun c hc => ?_, fun c hc => ?_, fun c hc hn => ?_, fun c hc hm => ?_, ?_, fun x hx y hy => ?_⟩
  · rw [hPR]; exact hJ.nodup
  · rw [hPR, hPR2, List.mem_append] at hc
    rcases hc with h | h
    · exact hI.lt c h
    · exact hJ.lt c h
  · have h1 := hJ.cnt c hc
    have h2 := left_head (tos := tos) (c := c) hqP
    have h3 := hB c hc
    omega
  · rw [hPR]; exact hJ.iff_ c hc
  · rw [hPR] at hn; exact hJ.out c hc hn
  · rw [hPR, hPR2, List.mem_append] at hm
    rcases hm with h | h
    · obtain ⟨h1, h2, h3⟩ := hI.ins c hc h
      rw [hold c h]
      refine ⟨h1, fun t ht => ?_, ?_⟩
      · obtain ⟨h4, h5⟩ := h2 t ht
        rw [hold t (by simp [h4])]
        exact ⟨by simp [h4], h5⟩
      · rcases h3 with h3 | ⟨t, ht, h3⟩
        · exact .inl h3
        · refine .inr ⟨t, ht, ?_⟩
          rw [hold t (by simp [(h2 t ht).1])]
          exact h3
    · obtain ⟨h1, h2, h3⟩ := hJ.new c h
      refine ⟨by omega, fun t ht => ?_, .inr ⟨q, h2, by omega⟩⟩
      rcases h3 t ht with h4 | h4
      · have := hPq t h4
        exact ⟨by simp [h4], by omega⟩
      · subst h4
        exact ⟨by simp, by omega⟩
  · rw [hPR, hPR2, List.pairwise_append]
    refine ⟨hI.sorted.imp_of_mem fun {a b} ha hb h => by rw [hold a ha, hold b hb]; exact h, ?_, fun x hx y hy => ?_⟩
    · rw [List.pairwise_iff_forall_sublist]
      intro a b hab
      have ha := hJ.new a (hab.subset (by simp))
      have hb := hJ.new b (hab.subset (by simp))
      omega
    · have hy := (hJ.new y hy).1
      rcases List.mem_append.1 hx with h | h
      · have := hPq x h; omega
      · rcases List.mem_cons.1 h with h | h
        · subst h; omega
        · have := hnear x h; omega
  · have hx2 : life x ≤ life q + 1 := by
      rcases List.mem_append.1 hx with h | h
      · exact hnear x h
      · have := (hJ.new x h).1; omega
    have hy1 : y ∈ R ++ N := List.mem_of_mem_head? hy
    have hy2 : life q ≤ life y := by
      rcases List.mem_append.1 hy1 with h | h
      · exact hqR y h
      · have := (hJ.new y h).1; omega
    omega

/-- The first queue: those from which no state comes. -/
theorem QI.start {D : Nat} {tos : Nat → List Nat} {R : List Nat} {opn life : Nat → Int} (hR : R.Nodup) (hm : ∀ c, c ∈ R ↔ c < D ∧ tos c = []) (ho : ∀ c, c < D → opn c = (tos c).length) (hl : ∀ c, c < D → life c = if tos c = [] then 0 else -1) :
    QI D tos [] R opn life := by
  have hleft : ∀ c, left tos [] c = (tos c).length := fun c => by
    unfold left
    rw [List.countP_eq_length]
    simp
  refine ⟨by simpa using hR, fun c hc => ((hm c).1 (by simpa using hc)).1, fun c hc => by rw [hleft]; exact ho c hc, fun c hc => ?_, fun c hc hn => ?_, fun c hc h => ?_, ?_, fun x hx y hy => ?_⟩
  · rw [List.nil_append, hm, ho c hc]
    constructor
    · rintro ⟨_, h⟩; rw [h]; rfl
    · intro h; exact ⟨hc, List.length_eq_zero_iff.1 (by omega)⟩
  · rw [List.nil_append, hm] at hn
    rw [hl c hc, if_neg (fun e => hn ⟨hc, e⟩)]
  · rw [List.nil_append, hm] at h
    rw [hl c hc, if_pos h.2, h.2]
    exact ⟨by decide, by simp, .inl rfl⟩
  · rw [List.nil_append, List.pairwise_iff_forall_sublist]
    intro a b hab
    have ha := (hm a).1 (hab.subset (by simp))
    have hb := (hm b).1 (hab.subset (by simp))
    rw [hl a ha.1, hl b hb.1, if_pos ha.2, if_pos hb.2]
    exact Int.le_refl _
  · have ha := (hm x).1 hx
    have hb := (hm y).1 (List.mem_of_mem_head? hy)
    rw [hl x ha.1, hl y hb.1, if_pos ha.2, if_pos hb.2]
    decide

end Go.Lives
