/- Regions that draw their order: whatever order comes up, it comes to what the text's order comes to. -/
import Derived.Test.YthmfjfblndophaaAmDraw2
namespace Go.AM

def isMod : FP → Bool
  | .st _ _ _ => true
  | .md => true
  | _ => false

section
variable {P : Program} {E : Env} {rec : Rec} {all : Array Oper} {T : Nat → Array Value} {Hs : Nat → H} {V : Nat → Value} {W : Nat → Bool} {F : Nat → FP}

def Mod (W : Nat → Bool) (F : Nat → FP) (j : Nat) : Prop := W j = true ∧ isMod (F j) = true

/-- A run in the text's order, with all that was looked at. -/
structure Good (P : Program) (E : Env) (rec : Rec) (all : Array Oper) (T : Nat → Array Value) (Hs : Nat → H) (V : Nat → Value) (W : Nat → Bool) (F : Nat → FP) : Prop where
  ok : OkD all
  run : Run P E rec all T Hs V W F 0
  chk : ∀ j, j < all.size → W j = true → ∀ i, i < j → W i = true → ((Region.before all).getD j 0).testBit i = true ∨ free (did Hs F i) (did Hs F j) = true
  rec_ : SoundR P E rec

theorem Good.const (g : Good P E rec all T Hs V W F) {j : Nat} (hj : j < all.size) (hm : ¬ Mod W F j) : Hs (j + 1) = Hs j := by
  obtain ⟨h1, h2, h3, h4⟩ := g.run.step j _ (Nat.zero_le _) (Array.getElem?_eq_getElem hj)
  cases hW : W j with
  | false => exact (h4 hW).2
  | true =>
    obtain ⟨hf, ho⟩ := h3 hW
    cases hF : F j with
    | pure => rw [hF] at hf; exact (pure_op hf ho).1
    | ld b q n => rw [hF] at hf; exact (ld_op hf ho).1
    | rd => rw [hF] at hf; exact rd_op hf ho
    | rb b => rw [hF] at hf; exact (rb_op hf ho).1
    | st b q n => exact absurd ⟨hW, by rw [hF]; rfl⟩ hm
    | md => exact absurd ⟨hW, by rw [hF]; rfl⟩ hm

theorem Good.grow (g : Good P E rec all T Hs V W F) {j : Nat} (hj : j < all.size) : Grow (Hs j) (Hs (j + 1)) := by
  obtain ⟨h1, h2, h3, h4⟩ := g.run.step j _ (Nat.zero_le _) (Array.getElem?_eq_getElem hj)
  cases hW : W j with
  | false => rw [(h4 hW).2]; exact .refl _
  | true => exact op_grows g.rec_ (h3 hW).2

theorem Good.hs_eq (g : Good P E rec all T Hs V W F) : ∀ (d a : Nat), a + d ≤ all.size → (∀ i, a ≤ i → i < a + d → ¬ Mod W F i) → Hs (a + d) = Hs a := by
  intro d
  induction d with
  | zero => intro a _ _; rfl
  | succ d ih =>
    intro a hle hno
    rw [← Nat.add_assoc, g.const (j := a + d) (by omega) (hno _ (by omega) (by omega))]
    exact ih a (by omega) (fun i h1 h2 => hno i h1 (by omega))

/-- What the slots hold when some operations have been done. -/
def Sl (all : Array Oper) (V : Nat → Value) (t : Array Value) (S : Nat → Prop) (tS : Array Value) : Prop :=
  tS.size = t.size ∧ ∀ u, (∀ i o, all[i]? = some o → S i → o.dst = some u → u < t.size → tS[u]? = some (V i)) ∧
    ((∀ i o, all[i]? = some o → S i → o.dst ≠ some u) → tS[u]? = t[u]?)

theorem Sl.put {t : Array Value} {S : Nat → Prop} {tS : Array Value} (ok : OkD all) (h : Sl all V t S tS) {j : Nat} {o : Oper} (ho : all[j]? = some o) :
    Sl all V t (fun i => S i ∨ i = j) (AM.put tS o.dst (V j)) := by
  refine ⟨?_, fun u => ⟨fun i p hp hS hd hu => ?_, fun hno => ?_⟩⟩
  · cases o.dst <;> simp [AM.put, h.1]
  · by_cases hij : i = j
    · subst hij
      rw [ho] at hp
      cases hp
      rw [hd]
      simp only [AM.put]
      rw [Array.getElem?_setIfInBounds, if_pos rfl, if_pos (by rw [h.1]; exact hu)]
    · have hSi : S i := by rcases hS with hS | hS; exact hS; exact absurd hS hij
      have h1 := (h.2 u).1 i p hp hSi hd hu
      cases hod : o.dst with
      | none => exact h1
      | some d =>
        simp only [AM.put]
        rw [Array.getElem?_setIfInBounds, if_neg, h1]
        intro hdu
        subst hdu
        exact ok.dst j o i p d ho hp hij hd hod
  · have h1 := (h.2 u).2 (fun i p hp hS => hno i p hp (.inl hS))
    have h2 := hno j o ho (.inr rfl)
    cases hod : o.dst with
    | none => exact h1
    | some d =>
      rw [hod] at h2
      simp only [AM.put]
      rw [Array.getElem?_setIfInBounds, if_neg (fun e => h2 (by rw [e])), h1]

theorem Good.slots (g : Good P E rec all T Hs V W F) : ∀ j, j ≤ all.size → Sl all V (T 0) (· < j) (T j) := by
  intro j
  induction j with
  | zero => intro _; exact ⟨rfl, fun u => ⟨fun i o _ h => by omega, fun _ => rfl⟩⟩
  | succ j ih =>
    intro hj
    have ho := Array.getElem?_eq_getElem (show j < all.size by omega)
    have h1 := (ih (by omega)).put (V := V) g.ok ho
    rw [(g.run.step j _ (Nat.zero_le _) ho).2.1]
    have : (fun i => i < j ∨ i = j) = (fun i => i < j + 1) := by
      funext i
      apply propext
      omega
    rw [this] at h1
    exact h1

/-- What has been done, and what the world is then. -/
structure Inv (P : Program) (E : Env) (all : Array Oper) (T : Nat → Array Value) (Hs : Nat → H) (V : Nat → Value) (W : Nat → Bool) (F : Nat → FP) (ι0 : Nat → Emb) (w0 : World) (d : List Deferred)
    (S : Nat → Prop) (a : Act) (w : World) (k : Nat) (ι : Nat → Emb) (tS : Array Value) : Prop where
  hk : k ≤ all.size
  mods : ∀ j, j < all.size → Mod W F j → (S j ↔ j < k)
  rel : Rel P E ι (Hs k) w
  tr : Tr ι0 (Hs 0) w0 ι (Hs k) w
  sl : Sl all V (T 0) S tS
  ar : AR ι (Hs k).nx tS a.tmps
  defers : a.defers = d
  closed : ∀ j, j < all.size → S j → ∀ i, ((Region.before all).getD j 0).testBit i = true → S i

/-- A slot that an operation reads holds what it held in the text's order. -/
theorem Good.same_slot (g : Good P E rec all T Hs V W F) {S : Nat → Prop} {tS : Array Value} (hsl : Sl all V (T 0) S tS) (hcl : ∀ j, j < all.size → S j → ∀ i, ((Region.before all).getD j 0).testBit i = true → S i)
    {j : Nat} {o : Oper} (ho : all[j]? = some o) (hj : j < all.size) (hS : ¬ S j) (hpre : ∀ i, ((Region.before all).getD j 0).testBit i = true → S i) {u : Tmp} (hu : u ∈ reads o) : tS[u]? = (T j)[u]? := by
  have hT := g.slots j (Nat.le_of_lt hj)
  have key : ∀ i p, all[i]? = some p → p.dst = some u → i ≠ j → (S i ↔ i < j) := by
    intro i p hp hd hne
    rcases g.ok.rd j o i p u ho hp hne hd hu with h | h
    · exact ⟨fun _ => before_lt all g.ok.back j hj i h, fun _ => hpre i h⟩
    · have hi : i < all.size := (Array.getElem?_eq_some_iff.1 hp).1
      have hlt := before_lt all g.ok.back i hi j h
      exact ⟨fun hSi => absurd (hcl i hi hSi j h) hS, fun h2 => by omega⟩
  by_cases hex : ∃ i p, all[i]? = some p ∧ p.dst = some u ∧ i ≠ j ∧ i < j
  · obtain ⟨i, p, hp, hd, hne, hlt⟩ := hex
    by_cases hus : u < (T 0).size
    · rw [(hsl.2 u).1 i p hp ((key i p hp hd hne).2 hlt) hd hus, (hT.2 u).1 i p hp hlt hd hus]
    · rw [Array.getElem?_eq_none (show tS.size ≤ u by have h9 : tS.size = (T 0).size := hsl.1; rw [h9]; exact Nat.not_lt.1 hus), Array.getElem?_eq_none (show (T j).size ≤ u by have h9 : (T j).size = (T 0).size := hT.1; rw [h9]; exact Nat.not_lt.1 hus)]
  · rw [(hsl.2 u).2, (hT.2 u).2]
    · intro i p hp hlt hd
      exact hex ⟨i, p, hp, hd, by omega, hlt⟩
    · intro i p hp hSi hd
      by_cases hne : i = j
      · subst hne; exact hS hSi
      · exact hex ⟨i, p, hp, hd, hne, (key i p hp hd hne).1 hSi⟩

theorem reads_mem {o : Oper} {u : Tmp} (h : Operand.tmp u ∈ o.op.operands) : u ∈ reads o := by
  unfold reads
  rw [List.mem_filterMap]
  exact ⟨.tmp u, by simpa using h, rfl⟩

theorem Good.same_ev (g : Good P E rec all T Hs V W F) {S : Nat → Prop} {tS : Array Value} (hsl : Sl all V (T 0) S tS) (hcl : ∀ j, j < all.size → S j → ∀ i, ((Region.before all).getD j 0).testBit i = true → S i)
    {j : Nat} {o : Oper} (ho : all[j]? = some o) (hj : j < all.size) (hS : ¬ S j) (hpre : ∀ i, ((Region.before all).getD j 0).testBit i = true → S i) :
    ∀ x ∈ o.op.operands, ev (T j) x = ev tS x := by
  intro x hx
  cases x with
  | tmp u =>
    have := g.same_slot hsl hcl ho hj hS hpre (reads_mem hx)
    simp only [ev, Array.getD_eq_getD_getElem?, this]
  | const v => rfl
  | global v => rfl
  | func v => rfl

theorem Good.same_wanted (g : Good P E rec all T Hs V W F) {S : Nat → Prop} {tS : Array Value} (hsl : Sl all V (T 0) S tS) {j : Nat} {o : Oper} (ho : all[j]? = some o) (hj : j < all.size)
    (hpre : ∀ i, ((Region.before all).getD j 0).testBit i = true → S i) : Region.wanted o (yielded all tS) = W j := by
  rw [(g.run.step j o (Nat.zero_le _) ho).1]
  unfold Region.wanted
  cases hg : o.guard with
  | none => rfl
  | some q =>
    obtain ⟨gi, b⟩ := q
    simp only
    obtain ⟨hb, hlt⟩ := g.ok.guard j o ho gi b hg
    have hSg := hpre gi hb
    have hT := g.slots j (Nat.le_of_lt hj)
    have : yielded all tS gi = yielded all (T j) gi := by
      unfold yielded
      have hog := Array.getElem?_eq_getElem (show gi < all.size by omega)
      rw [hog]
      simp only [Option.bind_some]
      cases hd : all[gi].dst with
      | none => rfl
      | some d =>
        simp only [Option.bind_some]
        have : tS[d]? = (T j)[d]? := by
          by_cases hus : d < (T 0).size
          · rw [(hsl.2 d).1 gi _ hog hSg hd hus, (hT.2 d).1 gi _ hog hlt hd hus]
          · rw [Array.getElem?_eq_none (show tS.size ≤ d by have h9 : tS.size = (T 0).size := hsl.1; rw [h9]; exact Nat.not_lt.1 hus), Array.getElem?_eq_none (show (T j).size ≤ d by have h9 : (T j).size = (T 0).size := hT.1; rw [h9]; exact Nat.not_lt.1 hus)]
        rw [this]
    rw [this]

/-- An operation that is ordered with all that changes something sees the very heap. -/
theorem Good.same_heap (g : Good P E rec all T Hs V W F) {S : Nat → Prop} {k : Nat} (hk : k ≤ all.size) (hmods : ∀ j, j < all.size → Mod W F j → (S j ↔ j < k))
    (hcl : ∀ j, j < all.size → S j → ∀ i, ((Region.before all).getD j 0).testBit i = true → S i) {j : Nat} (hj : j < all.size) (hW : W j = true) (hS : ¬ S j)
    (hpre : ∀ i, ((Region.before all).getD j 0).testBit i = true → S i) (hF : F j = .rd ∨ isMod (F j) = true) : Hs k = Hs j ∧ ∀ i, i < all.size → Mod W F i → (S i ↔ i < j) := by
  have key : ∀ i, i < all.size → Mod W F i → (S i ↔ i < j) := by
    intro i hi hm
    have nofree1 : free (did Hs F i) (did Hs F j) = false := by
      have h1 := hm.2
      unfold free did
      simp only
      rcases hF with h2 | h2
      · rw [h2]; cases hFi : F i <;> rw [hFi] at h1 <;> first | rfl | cases h1
      · cases hFi : F i <;> rw [hFi] at h1 <;> first | (cases h1; done) | (cases hFj : F j <;> rw [hFj] at h2 <;> first | rfl | cases h2)
    have nofree2 : free (did Hs F j) (did Hs F i) = false := by
      have h1 := hm.2
      unfold free did
      simp only
      rcases hF with h2 | h2
      · rw [h2]; cases hFi : F i <;> rw [hFi] at h1 <;> first | rfl | cases h1
      · cases hFi : F i <;> rw [hFi] at h1 <;> first | (cases h1; done) | (cases hFj : F j <;> rw [hFj] at h2 <;> first | rfl | cases h2)
    rcases Nat.lt_trichotomy i j with h | h | h
    · refine ⟨fun _ => h, fun _ => ?_⟩
      rcases g.chk j hj hW i h hm.1 with h1 | h1
      · exact hpre i h1
      · rw [nofree1] at h1; cases h1
    · subst h
      exact ⟨fun h => absurd h hS, fun h => by omega⟩
    · refine ⟨fun hSi => ?_, fun h2 => by omega⟩
      rcases g.chk i hi hm.1 j h hW with h1 | h1
      · exact absurd (hcl i hi hSi j h1) hS
      · rw [nofree2] at h1; cases h1
  refine ⟨?_, key⟩
  rcases Nat.le_total k j with h | h
  · obtain ⟨d, rfl⟩ := Nat.exists_eq_add_of_le h
    refine (g.hs_eq d k (by omega) fun i h1 h2 hm => ?_).symm
    have hi : i < all.size := by omega
    have a := hmods i hi hm
    have b := key i hi hm
    have : i < k := a.1 (b.2 (by omega))
    omega
  · obtain ⟨d, rfl⟩ := Nat.exists_eq_add_of_le h
    refine g.hs_eq d j (by omega) fun i h1 h2 hm => ?_
    have hi : i < all.size := by omega
    have a := hmods i hi hm
    have b := key i hi hm
    have : i < j := b.1 (a.2 (by omega))
    omega

/-- A load sees the same cells in whatever heap it may come upon. -/
theorem Good.same_cells (g : Good P E rec all T Hs V W F) {S : Nat → Prop} {k : Nat} (hk : k ≤ all.size) (hmods : ∀ j, j < all.size → Mod W F j → (S j ↔ j < k))
    (hcl : ∀ j, j < all.size → S j → ∀ i, ((Region.before all).getD j 0).testBit i = true → S i) {j : Nat} (hj : j < all.size) (hW : W j = true) (hS : ¬ S j)
    (hpre : ∀ i, ((Region.before all).getD j 0).testBit i = true → S i) {b q n : Nat} (hF : F j = .ld b q n) : ∀ i, i < n → (Hs k).cell b (q + i) = (Hs j).cell b (q + i) := by
  intro c hc
  have step : ∀ i, i < all.size → (Mod W F i → (free (did Hs F i) (did Hs F j) = true ∨ free (did Hs F j) (did Hs F i) = true)) → (Hs (i + 1)).cell b (q + c) = (Hs i).cell b (q + c) := by
    intro i hi hfree
    by_cases hm : Mod W F i
    · obtain ⟨h1, h2, h3, h4⟩ := g.run.step i _ (Nat.zero_le _) (Array.getElem?_eq_getElem hi)
      obtain ⟨hf, ho⟩ := h3 hm.1
      cases hFi : F i with
      | st b' q' n' =>
        rw [hFi] at hf
        have hdis : b ≠ b' ∨ q + n ≤ q' ∨ q' + n' ≤ q := by
          rcases hfree hm with h | h <;>
          · unfold free did at h
            simp only [hFi, hF, Bool.and_eq_true, decide_eq_true_eq] at h
            exact h.2
        refine st_op hf ho b (q + c) ?_
        rcases hdis with h | h | h
        · exact .inl h
        · exact .inr (.inl (by omega))
        · exact .inr (.inr (by omega))
      | md =>
        have hq : b < (Hs i).nx ∧ (Hs (i + 1)).wr = (Hs i).wr := by
          rcases hfree hm with h | h <;>
          · unfold free did at h
            simp only [hFi, hF, Bool.and_eq_true, decide_eq_true_eq] at h
            exact h
        simp only [H.cell, (g.grow hi).2.2 hq.2 b hq.1]
      | pure => have := hm.2; rw [hFi] at this; cases this
      | ld _ _ _ => have := hm.2; rw [hFi] at this; cases this
      | rb _ => have := hm.2; rw [hFi] at this; cases this
      | rd => have := hm.2; rw [hFi] at this; cases this
    · rw [g.const hi hm]
  have up : ∀ d a, a + d ≤ all.size → (∀ i, a ≤ i → i < a + d → Mod W F i → (free (did Hs F i) (did Hs F j) = true ∨ free (did Hs F j) (did Hs F i) = true)) →
      (Hs (a + d)).cell b (q + c) = (Hs a).cell b (q + c) := by
    intro d
    induction d with
    | zero => intro a _ _; rfl
    | succ d ih =>
      intro a hle hfr
      rw [← Nat.add_assoc, step (a + d) (by omega) (hfr _ (by omega) (by omega))]
      exact ih a (by omega) (fun i h1 h2 => hfr i h1 (by omega))
  rcases Nat.le_total k j with h | h
  · obtain ⟨d, rfl⟩ := Nat.exists_eq_add_of_le h
    refine (up d k (by omega) fun i h1 h2 hm => ?_).symm
    have hi : i < all.size := by omega
    have hnS : ¬ S i := fun hSi => by have := (hmods i hi hm).1 hSi; omega
    rcases g.chk _ hj hW i h2 hm.1 with h3 | h3
    · exact absurd (hpre i h3) hnS
    · exact .inl h3
  · obtain ⟨d, rfl⟩ := Nat.exists_eq_add_of_le h
    refine up d j (by omega) fun i h1 h2 hm => ?_
    have hi : i < all.size := by omega
    have hSi : S i := (hmods i hi hm).2 h2
    rcases Nat.lt_or_ge j i with h4 | h4
    · rcases g.chk i hi hm.1 j h4 hW with h3 | h3
      · exact absurd (hcl i hi hSi j h3) hS
      · exact .inr h3
    · obtain rfl : i = j := by omega
      have := hm.2
      rw [hF] at this
      cases this

/-- An operation that looks at a block sees the same block in whatever heap it may come upon. -/
theorem Good.same_blk (g : Good P E rec all T Hs V W F) {S : Nat → Prop} {k : Nat} (hk : k ≤ all.size) (hmods : ∀ j, j < all.size → Mod W F j → (S j ↔ j < k))
    (hcl : ∀ j, j < all.size → S j → ∀ i, ((Region.before all).getD j 0).testBit i = true → S i) {j : Nat} (hj : j < all.size) (hW : W j = true) (hS : ¬ S j)
    (hpre : ∀ i, ((Region.before all).getD j 0).testBit i = true → S i) {b : Nat} (hF : F j = .rb b) : (Hs k).blk b = (Hs j).blk b := by
  have step : ∀ i, i < all.size → (Mod W F i → (free (did Hs F i) (did Hs F j) = true ∨ free (did Hs F j) (did Hs F i) = true)) → (Hs (i + 1)).blk b = (Hs i).blk b := by
    intro i hi hfree
    by_cases hm : Mod W F i
    · cases hFi : F i with
      | st b' q' n' =>
        rcases hfree hm with h | h <;>
        · unfold free did at h
          simp [hFi, hF] at h
      | md =>
        have hq : b < (Hs i).nx ∧ (Hs (i + 1)).wr = (Hs i).wr := by
          rcases hfree hm with h | h <;>
          · unfold free did at h
            simp only [hFi, hF, Bool.and_eq_true, decide_eq_true_eq] at h
            exact h
        exact (g.grow hi).2.2 hq.2 b hq.1
      | pure => have := hm.2; rw [hFi] at this; cases this
      | ld _ _ _ => have := hm.2; rw [hFi] at this; cases this
      | rb _ => have := hm.2; rw [hFi] at this; cases this
      | rd => have := hm.2; rw [hFi] at this; cases this
    · rw [g.const hi hm]
  have up : ∀ d a, a + d ≤ all.size → (∀ i, a ≤ i → i < a + d → Mod W F i → (free (did Hs F i) (did Hs F j) = true ∨ free (did Hs F j) (did Hs F i) = true)) →
      (Hs (a + d)).blk b = (Hs a).blk b := by
    intro d
    induction d with
    | zero => intro a _ _; rfl
    | succ d ih =>
      intro a hle hfr
      rw [← Nat.add_assoc, step (a + d) (by omega) (hfr _ (by omega) (by omega))]
      exact ih a (by omega) (fun i h1 h2 => hfr i h1 (by omega))
  rcases Nat.le_total k j with h | h
  · obtain ⟨d, rfl⟩ := Nat.exists_eq_add_of_le h
    refine (up d k (by omega) fun i h1 h2 hm => ?_).symm
    have hi : i < all.size := by omega
    have hnS : ¬ S i := fun hSi => by have := (hmods i hi hm).1 hSi; omega
    rcases g.chk _ hj hW i h2 hm.1 with h3 | h3
    · exact absurd (hpre i h3) hnS
    · exact .inl h3
  · obtain ⟨d, rfl⟩ := Nat.exists_eq_add_of_le h
    refine up d j (by omega) fun i h1 h2 hm => ?_
    have hi : i < all.size := by omega
    have hSi : S i := (hmods i hi hm).2 h2
    rcases Nat.lt_or_ge j i with h4 | h4
    · rcases g.chk i hi hm.1 j h4 hW with h3 | h3
      · exact absurd (hcl i hi hSi j h3) hS
      · exact .inr h3
    · obtain rfl : i = j := by omega
      have := hm.2
      rw [hF] at this
      cases this

theorem fp_congr {t t2 : Array Value} {o : Oper} (he : ∀ x ∈ o.op.operands, ev t x = ev t2 x) : fp P t o = fp P t2 o := by
  obtain ⟨dst, opn, type, pos, after, guard⟩ := o
  simp only at he
  cases opn <;> simp only [fp]
  case load T x => rw [he x (by simp [Op.operands])]
  case store T x y => rw [he x (by simp [Op.operands])]
  case lookup T m k ok => rw [he m (by simp [Op.operands])]
  case slice T x lo hi mx => rw [he x (by simp [Op.operands])]

/-- One operation more. -/
theorem Good.next (g : Good P E rec all T Hs V W F) {ι0 : Nat → Emb} {w0 : World} {d : List Deferred} {S : Nat → Prop} {a : Act} {w : World} {k : Nat} {ι : Nat → Emb} {tS : Array Value}
    (inv : Inv P E all T Hs V W F ι0 w0 d S a w k ι tS) {j : Nat} (hj : j < all.size) (hS : ¬ S j) (hpre : ∀ i, ((Region.before all).getD j 0).testBit i = true → S i)
    {K : Act → World → Prop} {Q : Exit → Act → World → Prop} (hK : ∀ a' w' k' ι' tS', Inv P E all T Hs V W F ι0 w0 d (fun i => S i ∨ i = j) a' w' k' ι' tS' → K a' w') : wpOp P all Q j K a w := by
  have ho := Array.getElem?_eq_getElem hj
  unfold wpOp
  simp only [ho]
  rw [← wanted_rel inv.ar all all[j], g.same_wanted inv.sl ho hj hpre]
  obtain ⟨_, _, h3, h4⟩ := g.run.step j _ (Nat.zero_le _) ho
  have hclosed : ∀ i, i < all.size → (S i ∨ i = j) → ∀ m, ((Region.before all).getD i 0).testBit m = true → S m ∨ m = j := by
    intro i hi hSi m hm
    rcases hSi with h | h
    · exact .inl (inv.closed i hi h m hm)
    · subst h; exact .inl (hpre m hm)
  have hsl' := inv.sl.put (V := V) g.ok ho
  have keep : ¬ Mod W F j → ∀ i, i < all.size → Mod W F i → ((S i ∨ i = j) ↔ i < k) := by
    intro hnm i hi hm
    have hne : i ≠ j := fun e => hnm (e ▸ hm)
    rw [← inv.mods i hi hm]
    exact ⟨fun h => h.resolve_right hne, .inl⟩
  cases hW : W j with
  | false =>
    rw [if_neg (by simp)]
    obtain ⟨hv, hh⟩ := h4 hW
    rw [hv] at hsl'
    refine hK _ _ k ι _ ⟨inv.hk, keep (fun hm => by have h9 := hm.1; rw [hW] at h9; cases h9), inv.rel, inv.tr, hsl', put_rel inv.ar _ .undef, ?_, hclosed⟩
    rw [put_defers]; exact inv.defers
  | true =>
    rw [if_pos rfl]
    refine .inl ?_
    obtain ⟨hf, hop⟩ := h3 hW
    rw [op_congr (Hs j) (g.same_ev inv.sl inv.closed ho hj hS hpre)] at hop
    have hfS : fp P tS all[j] = some (F j) := by rw [← fp_congr (g.same_ev inv.sl inv.closed ho hj hS hpre)]; exact hf
    -- an operation that changes nothing
    have quiet : ¬ Mod W F j → op P E rec tS all[j] (Hs k) = some (V j, Hs k) → Oper.wp P all[j] a w K Q := by
      intro hnm hq
      refine op_wp g.rec_ hq inv.rel inv.ar fun v' ι' w' q1 q2 q3 => ?_
      refine hK _ _ k ι' _ ⟨inv.hk, keep hnm, q2, inv.tr.trans q1, hsl', put_rel (inv.ar.mono q1.nx q1.ext) _ q3, ?_, hclosed⟩
      rw [put_defers]; exact inv.defers
    cases hF : F j with
    | pure =>
      rw [hF] at hfS
      exact quiet (fun hm => by have := hm.2; rw [hF] at this; cases this) ((pure_op hfS hop).2 _)
    | ld b q n =>
      rw [hF] at hfS
      refine quiet (fun hm => by have := hm.2; rw [hF] at this; cases this) ((ld_op hfS hop).2.2.2 _ fun i hi _ => ?_)
      exact g.same_cells inv.hk inv.mods inv.closed hj hW hS hpre hF i hi
    | rb b =>
      rw [hF] at hfS
      exact quiet (fun hm => by have := hm.2; rw [hF] at this; cases this) ((rb_op hfS hop).2 _ (g.same_blk inv.hk inv.mods inv.closed hj hW hS hpre hF))
    | rd =>
      rw [hF] at hfS
      have h1 := rd_op hfS hop
      obtain ⟨h2, _⟩ := g.same_heap inv.hk inv.mods inv.closed hj hW hS hpre (.inl hF)
      refine quiet (fun hm => by have := hm.2; rw [hF] at this; cases this) ?_
      rw [h2]
      rw [h1] at hop
      exact hop
    | _ =>
      obtain ⟨h2, h5⟩ := g.same_heap inv.hk inv.mods inv.closed hj hW hS hpre (.inr (by rw [hF]; rfl))
      rw [← h2] at hop
      refine op_wp g.rec_ hop inv.rel inv.ar fun v' ι' w' q1 q2 q3 => ?_
      refine hK _ _ (j + 1) ι' _ ⟨hj, fun i hi hm => ?_, q2, inv.tr.trans q1, hsl', put_rel (inv.ar.mono q1.nx q1.ext) _ q3, ?_, hclosed⟩
      · rw [h5 i hi hm]; omega
      · rw [put_defers]; exact inv.defers

theorem ready_mem {listed : Array Bool} {i : Nat} : i ∈ Region.ready .any all listed ↔ i < all.size ∧ listed.getD i true = false ∧ ∃ o, all[i]? = some o ∧ ∀ e ∈ o.after.toList, Region.binds .any e = true → listed.getD e.on false = true := by
  unfold Region.ready
  rw [List.mem_filter, List.mem_range]
  constructor
  · rintro ⟨h1, h2⟩
    simp only [Bool.and_eq_true, Bool.not_eq_true'] at h2
    have ho := Array.getElem?_eq_getElem h1
    refine ⟨h1, h2.1, _, ho, fun e he hb => ?_⟩
    have h3 := h2.2
    rw [ho] at h3
    simp only [Option.map_some, Option.getD_some] at h3
    have := Array.all_eq_true_iff_forall_mem.1 h3 e (by simpa using he)
    simpa [hb] using this
  · rintro ⟨h1, h2, o, ho, h3⟩
    refine ⟨h1, ?_⟩
    simp only [Bool.and_eq_true, Bool.not_eq_true']
    refine ⟨h2, ?_⟩
    rw [ho]
    simp only [Option.map_some, Option.getD_some]
    refine Array.all_eq_true_iff_forall_mem.2 fun e he => ?_
    cases hb : Region.binds .any e with
    | false => rfl
    | true => simpa [hb] using h3 e (by simpa using he) hb

theorem Good.all_done (g : Good P E rec all T Hs V W F) {listed : Array Bool} (hsz : listed.size = all.size) (hr : Region.ready .any all listed = []) : ∀ j, j < all.size → listed.getD j false = true := by
  intro j
  induction j using Nat.strongRecOn with
  | _ j ih =>
    intro hj
    cases hl : listed.getD j false with
    | true => rfl
    | false =>
      have ho := Array.getElem?_eq_getElem hj
      have hl' : listed.getD j true = false := by
        rw [Array.getD_eq_getD_getElem?] at hl ⊢
        rw [Array.getElem?_eq_getElem (by omega)] at hl ⊢
        exact hl
      have : j ∈ Region.ready .any all listed := ready_mem.2 ⟨hj, hl', _, ho, fun e he hb => ih e.on (g.ok.back j _ ho e he hb) (by have := g.ok.back j _ ho e he hb; omega)⟩
      rw [hr] at this
      cases this

theorem Good.any (g : Good P E rec all T Hs V W F) {ι0 : Nat → Emb} {w0 : World} {d : List Deferred} {Q : Exit → Act → World → Prop} (hQ : Post P E ι0 (Hs 0) w0 d (T all.size) (Hs all.size) (Q .normal)) :
    ∀ (fuel : Nat) (listed : Array Bool) (a : Act) (w : World) (k : Nat) (ι : Nat → Emb) (tS : Array Value), listed.size = all.size → listed.toList.count false ≤ fuel →
      Inv P E all T Hs V W F ι0 w0 d (fun i => listed.getD i false = true) a w k ι tS → wpAny P .any all Q fuel listed a w := by
  have fin : ∀ (listed : Array Bool) (a : Act) (w : World) (k : Nat) (ι : Nat → Emb) (tS : Array Value), listed.size = all.size →
      Inv P E all T Hs V W F ι0 w0 d (fun i => listed.getD i false = true) a w k ι tS → Region.ready .any all listed = [] → Q .normal a w := by
    intro listed a w k ι tS hsz inv hr
    have hall := g.all_done hsz hr
    have hk : Hs all.size = Hs k := by
      obtain ⟨m, hm⟩ := Nat.exists_eq_add_of_le inv.hk
      rw [hm]
      refine g.hs_eq m k (by omega) fun i h1 h2 hm' => ?_
      have := (inv.mods i (by omega) hm').1 (hall i (by omega))
      omega
    have hslT := g.slots all.size (Nat.le_refl _)
    have ht : tS = T all.size := by
      apply Array.ext_getElem?
      intro u
      by_cases hex : ∃ (i : Nat) (p : Oper), all[i]? = some p ∧ p.dst = some u
      · obtain ⟨i, p, hp, hd⟩ := hex
        have hi : i < all.size := (Array.getElem?_eq_some_iff.1 hp).1
        by_cases hus : u < (T 0).size
        · rw [(inv.sl.2 u).1 i p hp (hall i hi) hd hus, (hslT.2 u).1 i p hp hi hd hus]
        · rw [Array.getElem?_eq_none (show tS.size ≤ u by have h9 : tS.size = (T 0).size := inv.sl.1; rw [h9]; exact Nat.not_lt.1 hus), Array.getElem?_eq_none (show (T all.size).size ≤ u by have h9 : (T all.size).size = (T 0).size := hslT.1; rw [h9]; exact Nat.not_lt.1 hus)]
      · rw [(inv.sl.2 u).2 (fun i p hp _ hd => hex ⟨i, p, hp, hd⟩), (hslT.2 u).2 (fun i p hp _ hd => hex ⟨i, p, hp, hd⟩)]
    refine hQ ι a w ?_ ?_ ?_ inv.defers
    · rw [hk]; exact inv.tr
    · rw [hk]; exact inv.rel
    · rw [hk, ← ht]; exact inv.ar
  intro fuel
  induction fuel with
  | zero =>
    intro listed a w k ι tS hsz hc inv
    have hr : Region.ready .any all listed = [] := by
      apply List.eq_nil_iff_forall_not_mem.2
      intro i hi
      obtain ⟨h1, h2, _⟩ := ready_mem.1 hi
      have h3 : listed.toList.count false = 0 := by omega
      rw [List.count_eq_zero] at h3
      apply h3
      rw [Array.getD_eq_getD_getElem?, Array.getElem?_eq_getElem (by omega)] at h2
      simp only [Option.getD_some] at h2
      rw [← h2]
      simp
    exact ⟨hr, fin listed a w k ι tS hsz inv hr⟩
  | succ fuel ih =>
    intro listed a w k ι tS hsz hc inv
    refine ⟨fin listed a w k ι tS hsz inv, fun i hi => ?_⟩
    obtain ⟨h1, h2, o, ho, h3⟩ := ready_mem.1 hi
    have hil : i < listed.size := by omega
    have hli : listed[i]? = some false := by
      rw [Array.getD_eq_getD_getElem?, Array.getElem?_eq_getElem hil] at h2
      simp only [Option.getD_some] at h2
      rw [Array.getElem?_eq_getElem hil, h2]
    have hnS : ¬ (listed.getD i false = true) := by
      rw [Array.getD_eq_getD_getElem?, hli]
      simp
    have hpre : ∀ m, ((Region.before all).getD i 0).testBit m = true → listed.getD m false = true := by
      intro m hm
      obtain ⟨e, he, hb, hx⟩ := before_spec all g.ok.back ho hm
      have hlt := g.ok.back i o ho e he hb
      rcases hx with rfl | hx
      · exact h3 e he hb
      · exact inv.closed e.on (by omega) (h3 e he hb) m hx
    refine g.next inv h1 hnS hpre fun a' w' k' ι' tS' inv' => ?_
    refine ih _ a' w' k' ι' tS' (by simp [hsz]) ?_ ?_
    · rw [Array.toList_setIfInBounds, List.count_set (by simpa using hil)]
      have hmem : listed.toList[i]? = some false := by simpa using hli
      have hget : listed.toList[i]'(by simpa using hil) = false := by
        have := List.getElem?_eq_getElem (l := listed.toList) (i := i) (by simpa using hil)
        rw [this] at hmem
        exact Option.some.inj hmem
      have hpos : 0 < listed.toList.count false := List.count_pos_iff.2 (List.mem_of_getElem? hmem)
      simp [hget]
      simp only [Array.count_toList] at *
      omega
    · have : (fun m => (listed.setIfInBounds i true).getD m false = true) = (fun m => listed.getD m false = true ∨ m = i) := by
        funext m
        apply propext
        rw [Array.getD_eq_getD_getElem?, Array.getD_eq_getD_getElem?, Array.getElem?_setIfInBounds]
        by_cases hm : i = m
        · subst hm; rw [if_pos rfl, if_pos hil]; simp
        · rw [if_neg hm]
          exact ⟨.inl, fun h => h.resolve_right (fun e => hm e.symm)⟩
      rw [this]
      exact inv'

/-- REGIONS THAT DRAW THEIR ORDER. -/
theorem draw_ok (hmix : P.follows .mixedOrders = true) (hrec : SoundR P E rec) : DrawOk P E rec := by
  intro id all t t' h h' hd
  unfold draw at hd
  split at hd
  · rename_i hok
    have okd := okDraw_spec hok
    obtain ⟨T, Hs, V, W, F, q1, q2, q3, q4, q5, q6⟩ := drawGo_run all.toList 0 [] t t' h h' rfl (Nat.zero_le _) hd
    have g : Good P E rec all T Hs V W F := ⟨okd, q5, fun j hj hW i hi hWi => (q6 j (Nat.zero_le _) hj hW).2 i (Nat.zero_le _) hi hWi, hrec⟩
    refine ⟨?_, fun ι w a Q r ht hQ => ?_⟩
    · have : ∀ j, j ≤ all.size → Grow (Hs 0) (Hs j) := by
        intro j
        induction j with
        | zero => intro _; exact .refl _
        | succ j ih => intro hj; exact (ih (by omega)).trans (g.grow (by omega))
      have h1 := this all.size (Nat.le_refl _)
      rw [q2, q4] at h1
      exact h1
    · refine wp_region_any hmix ?_
      rw [← q2] at r ht hQ
      rw [← q3, ← q4] at hQ
      rw [← q1] at ht
      have hQ' : Post P E ι (Hs 0) { w with drawn := w.drawn + 1 } a.defers (T all.size) (Hs all.size) (Q .normal) := fun ι' a' w' t1 t2 t3 t4 => hQ ι' a' w' t1.drew t2 t3 t4
      have hnone : ∀ i, (Array.replicate all.size false).getD i false = false := by
        intro i
        rw [Array.getD_eq_getD_getElem?, Array.getElem?_replicate]
        split <;> rfl
      refine g.any hQ' all.size _ a _ 0 ι (T 0) (by simp) (by simp) ⟨Nat.zero_le _, fun j _ _ => ?_, r.drew _, .refl _ _ _, ⟨rfl, fun u => ⟨fun i o _ hS => ?_, fun _ => rfl⟩⟩, ht, rfl, fun j _ hS => ?_⟩
      · simp only [hnone]; simp
      · simp only [hnone] at hS; cases hS
      · simp only [hnone] at hS; cases hS
  · cases hd

/-- THE SOUNDNESS OF THE ABSTRACT MACHINE. -/
theorem sound (hmix : P.follows .mixedOrders = true) (n : Nat) : SoundR P E (call P E n) := call_sound (fun _ h => draw_ok hmix h) n

end
end Go.AM
