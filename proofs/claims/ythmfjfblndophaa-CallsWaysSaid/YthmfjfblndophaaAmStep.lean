/- What a step does to the abstract heap and to the world. -/
import Derived.Test.YthmfjfblndophaaAmRel
import Derived.Laws.CopyRow
import Derived.Laws.Cells
import Derived.Laws.World
namespace Go.AM

section
variable {P : Program} {E : Env} {ι : Nat → Emb} {h : H} {w : World}

/-- A new block. -/
def Emb.new (ι : Nat → Emb) (n : Nat) (e : Emb) : Nat → Emb := fun b => if b = n then e else ι b

theorem Emb.new_at (ι : Nat → Emb) (n : Nat) (e : Emb) : Emb.new ι n e n = e := by simp [Emb.new]
theorem Emb.new_lt (ι : Nat → Emb) (n : Nat) (e : Emb) {b : Nat} (hb : b < n) : Emb.new ι n e b = ι b := by simp [Emb.new, Nat.ne_of_lt hb]

theorem heap_push_lt (w : World) (o : Obj) {k : Nat} (hk : k < w.heap.size) : (w.alloc o).heap[k]? = w.heap[k]? := by
  show (w.heap.push o)[k]? = _
  rw [Array.getElem?_push, if_neg (by omega)]

theorem heap_push_at (w : World) (o : Obj) : (w.alloc o).heap[w.heap.size]? = some o := by
  show (w.heap.push o)[w.heap.size]? = _
  rw [Array.getElem?_push, if_pos rfl]

theorem heap_push_size (w : World) (o : Obj) : (w.alloc o).heap.size = w.heap.size + 1 := by
  show (w.heap.push o).size = _
  simp

/-- A new block of whatever kind. -/
theorem Rel.alloc (r : Rel P E ι h w) (k : Blk) (o : Obj) (e : Emb) (he : e.g = w.heap.size)
    (hb : BlkR P (Emb.new ι h.nx e) (h.nx + 1) (w.alloc o) h.nx k) :
    Tr ι h w (Emb.new ι h.nx e) (h.new k) (w.alloc o) ∧ Rel P E (Emb.new ι h.nx e) (h.new k) (w.alloc o) := by
  have hlt : ∀ {b}, b < h.nx → Emb.new ι h.nx e b = ι b := fun hb => Emb.new_lt ι _ e hb
  have hsz : w.heap.size ≤ (w.alloc o).heap.size := by rw [heap_push_size]; omega
  have hold : ∀ b k', h.blk b = some k' → (ι b).g < w.heap.size := fun b k' hb => (r.blk b k' hb).lt
  refine ⟨⟨by simp [H.new], fun b hb => hlt hb, rfl, rfl, rfl, hsz, fun g hg _ => heap_push_lt w o hg, fun b k' hb' ho => ?_⟩, ⟨?_, ?_, ?_, ?_, ?_, ?_, ?_⟩⟩
  · simp only [H.new] at hb'
    split at hb'
    · rename_i hbn
      subst hbn
      exact .inr (by rw [Emb.new_at, he]; exact Nat.le_refl _)
    · exact .inl ⟨b, k', hb', ho, by rw [hlt (r.dom b k' hb')]⟩
  · intro b k' hb'
    simp only [H.new] at hb' ⊢
    split at hb'
    · omega
    · have := r.dom b k' hb'; omega
  · intro b k' hb'
    simp only [H.new] at hb' ⊢
    split at hb'
    · rename_i hbn; subst hbn; cases hb'; exact hb
    · have hbl := r.dom b k' hb'
      have h1 := (r.blk b k' hb').mono (Nat.le_succ h.nx) (fun b hb => hlt hb) (hlt hbl)
      exact h1.congr (by rw [hlt hbl]; exact heap_push_lt w o (hold b k' hb')) hsz
  · intro b b' k1 k2 h1 h2 hne ho
    simp only [H.new] at h1 h2
    split at h1 <;> split at h2
    · omega
    · rename_i e1 e2
      subst e1
      rw [Emb.new_at, hlt (r.dom b' k2 h2), he]
      exact Nat.ne_of_gt (hold b' k2 h2)
    · rename_i e1 e2
      subst e2
      rw [Emb.new_at, hlt (r.dom b k1 h1), he]
      exact Nat.ne_of_lt (hold b k1 h1)
    · rw [hlt (r.dom b k1 h1), hlt (r.dom b' k2 h2)]
      exact r.inj b b' k1 k2 h1 h2 hne ho
  · simp only [H.new]; exact Nat.le_succ_of_le r.ng
  · intro g hg
    rw [hlt (Nat.lt_of_lt_of_le hg r.ng)]
    exact r.glob g hg
  · intro g hg
    simp only [H.new]
    rw [if_neg (by have := r.ng; omega)]
    exact r.globB g hg
  · intro g k' hg hk'
    obtain ⟨h1, h2⟩ := r.globO g k' hg hk'
    have hgl := Nat.lt_of_lt_of_le hg r.ng
    refine ⟨h1, ?_⟩
    have h3 := h2.mono (Nat.le_refl _) (fun b hb => hlt (Nat.lt_of_lt_of_le hb r.ng)) (hlt hgl)
    exact h3.congr (by rw [hlt hgl]; exact heap_push_lt w o h2.lt) hsz

/-- A new row: each cell stands for one. -/
theorem Rel.row (r : Rel P E ι h w) (c : List Value) (C : Array Value) (t T : TypeId) (s : Nat) (hs : size? P t = some s) (hl : c.length ≤ C.size)
    (hv : ∀ (i : Nat) (v : Value), c[i]? = some v → ∃ v', C[i]? = some v' ∧ VR ι h.nx v v') :
    ∃ ι', Tr ι h w ι' (h.new (.row c t true)) (w.alloc (.cells C T (0, 0))) ∧ Rel P E ι' (h.new (.row c t true)) (w.alloc (.cells C T (0, 0))) ∧
      ι' h.nx = ⟨w.heap.size, 0, C.size, s⟩ := by
  refine ⟨Emb.new ι h.nx ⟨w.heap.size, 0, C.size, s⟩, ?_⟩
  have := r.alloc (.row c t true) (.cells C T (0, 0)) ⟨w.heap.size, 0, C.size, s⟩ rfl ?_
  · exact ⟨this.1, this.2, Emb.new_at _ _ _⟩
  · refine ⟨C, T, ?_, ?_, ?_, ?_, ?_⟩
    · rw [Emb.new_at]; exact heap_push_at w _
    · rw [Emb.new_at]; exact hs
    · rw [Emb.new_at]; exact hl
    · rw [Emb.new_at]; simp
    · intro i v hi
      obtain ⟨v', h1, h2⟩ := hv i v hi
      exact ⟨v', by rw [Emb.new_at]; simpa using h1, h2.mono (Nat.le_succ _) (fun b hb => Emb.new_lt _ _ _ hb)⟩

/-- One block of one's own is laid anew in its place; another block id may stand for it from now on. -/
theorem Rel.upd (r : Rel P E ι h w) {b : Nat} {k : Blk} (hb : h.blk b = some k) (ho : k.own = true) (h' : H) (ι' : Nat → Emb) (w' : World) (b' : Nat) (k' : Blk)
    (hh : ∀ i, h'.blk i = if i = b' then some k' else if i = b then none else h.blk i) (hn : h.nx ≤ h'.nx) (hb' : b' < h'.nx) (hbb : b' = b ∨ h.nx ≤ b')
    (hι : ∀ i, i < h.nx → ι' i = ι i) (hg : (ι' b').g = (ι b).g) (hsz : w'.heap.size = w.heap.size) (hw : ∀ g, g ≠ (ι b).g → w'.heap[g]? = w.heap[g]?)
    (hos : w'.os = w.os) (htp : w'.tape = w.tape) (hout : w'.output = w.output) (hR : BlkR P ι' h'.nx w' b' k') :
    Tr ι h w ι' h' w' ∧ Rel P E ι' h' w' := by
  have hbl := r.dom b k hb
  have hother : ∀ i j, h'.blk i = some j → i ≠ b' → i ≠ b ∧ h.blk i = some j := by
    intro i j hi hne
    rw [hh, if_neg hne] at hi
    split at hi
    · cases hi
    · exact ⟨by assumption, hi⟩
  have hgne : ∀ i j, h.blk i = some j → i ≠ b → (ι i).g ≠ (ι b).g := fun i j hi hne he => r.inj b i k j hb hi (Ne.symm hne) ho he.symm
  have hnown : ∀ g k2, g < E.NG → E.G g = some k2 → g ≠ b := by
    intro g k2 hgl hG he
    subst he
    have h1 := r.globB g hgl
    rw [hG, hb] at h1
    cases h1
    rw [(r.globO g k hgl hG).1] at ho
    cases ho
  refine ⟨⟨hn, hι, hos, htp, hout, Nat.le_of_eq hsz.symm, fun g hgl hno => hw g fun he => hno b k hb ho he.symm, fun i j hi hjo => ?_⟩, ⟨?_, ?_, ?_, ?_, ?_, ?_, ?_⟩⟩
  · by_cases hib : i = b'
    · subst hib; exact .inl ⟨b, k, hb, ho, hg.symm⟩
    · obtain ⟨h1, h2⟩ := hother i j hi hib
      exact .inl ⟨i, j, h2, hjo, by rw [hι i (r.dom i j h2)]⟩
  · intro i j hi
    by_cases hib : i = b'
    · subst hib; exact hb'
    · exact Nat.lt_of_lt_of_le (r.dom i j (hother i j hi hib).2) hn
  · intro i j hi
    by_cases hib : i = b'
    · subst hib
      rw [hh, if_pos rfl] at hi
      cases hi
      exact hR
    · obtain ⟨h1, h2⟩ := hother i j hi hib
      have hil := r.dom i j h2
      exact ((r.blk i j h2).mono hn hι (hι i hil)).congr (by rw [hι i hil]; exact hw _ (hgne i j h2 h1)) (Nat.le_of_eq hsz.symm)
  · intro i i2 j j2 hi hi2 hne hjo
    by_cases e1 : i = b' <;> by_cases e2 : i2 = b'
    · omega
    · subst e1
      obtain ⟨h1, h2⟩ := hother i2 j2 hi2 e2
      rw [hg, hι i2 (r.dom i2 j2 h2)]
      exact (hgne i2 j2 h2 h1).symm
    · subst e2
      obtain ⟨h1, h2⟩ := hother i j hi e1
      rw [hg, hι i (r.dom i j h2)]
      exact hgne i j h2 h1
    · obtain ⟨h1, h2⟩ := hother i j hi e1
      obtain ⟨h3, h4⟩ := hother i2 j2 hi2 e2
      rw [hι i (r.dom i j h2), hι i2 (r.dom i2 j2 h4)]
      exact r.inj i i2 j j2 h2 h4 hne hjo
  · exact Nat.le_trans r.ng hn
  · intro g hgl
    rw [hι g (Nat.lt_of_lt_of_le hgl r.ng)]
    exact r.glob g hgl
  · intro g hgl
    have hgn := Nat.lt_of_lt_of_le hgl r.ng
    cases hG : E.G g with
    | none =>
      have h1 := r.globB g hgl
      rw [hG] at h1
      rw [hh]
      have h2 : g ≠ b := fun e => by subst e; rw [h1] at hb; cases hb
      rw [if_neg (by rcases hbb with e | e <;> omega), if_neg h2, h1]
    | some k2 =>
      have h2 := hnown g k2 hgl hG
      rw [hh, if_neg (by rcases hbb with e | e <;> omega), if_neg h2, r.globB g hgl, hG]
  · intro g k2 hgl hG
    obtain ⟨h1, h2⟩ := r.globO g k2 hgl hG
    have hgn := Nat.lt_of_lt_of_le hgl r.ng
    refine ⟨h1, ?_⟩
    have h3 := h2.mono (Nat.le_refl _) (fun i hi => hι i (Nat.lt_of_lt_of_le hi r.ng)) (hι g hgn)
    refine h3.congr ?_ (Nat.le_of_eq hsz.symm)
    rw [hι g hgn]
    have h4 := r.globB g hgl
    rw [hG] at h4
    exact hw _ (hgne g k2 h4 (hnown g k2 hgl hG))

theorem setRow_size (w : World) (g : Nat) (cs : Array Value) : (w.setRow g cs).heap.size = w.heap.size := by simp [World.setRow]

/-- A row of one's own is written. -/
theorem Rel.set (r : Rel P E ι h w) {b : Nat} {c c' : List Value} {e : TypeId} (hb : h.blk b = some (.row c e true)) {C : Array Value} {T : TypeId}
    (hC : w.heap[(ι b).g]? = some (.cells C T (0, 0))) (C' : Array Value) (hsz : C'.size = C.size) (hl : c'.length ≤ (ι b).lim)
    (hv : ∀ (i : Nat) (v : Value), c'[i]? = some v → ∃ v', C'[(ι b).base + i]? = some v' ∧ VR ι h.nx v v') :
    Tr ι h w ι (h.set b (.row c' e true)) (w.setRow (ι b).g C') ∧ Rel P E ι (h.set b (.row c' e true)) (w.setRow (ι b).g C') := by
  have hR := r.blk b _ hb
  obtain ⟨C0, T0, h1, h2, h3, h4, h5⟩ := hR
  rw [hC] at h1
  cases h1
  refine r.upd hb rfl _ ι _ b (.row c' e true) (fun i => ?_) (Nat.le_refl _) (r.dom b _ hb) (.inl rfl) (fun _ _ => rfl) rfl (setRow_size _ _ _) (fun g hg => setRow_other w _ _ _ hg) rfl rfl rfl ?_
  · simp only [H.set]
    split <;> rfl
  · refine ⟨C', T, setRow_heap w _ _ _ _ _ hC, h2, hl, by rw [hsz]; exact h4, fun i v hi => ?_⟩
    exact hv i v hi

end
end Go.AM
