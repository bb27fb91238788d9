/- The operations that make memory or write it. -/
import Derived.Test.YthmfjfblndophaaAmOps
namespace Go.AM

section
variable {P : Program} {E : Env} {ι : Nat → Emb} {h : H} {w : World}

/-- What an operation on the world comes to. -/
def Out (P : Program) (E : Env) (ι : Nat → Emb) (h : H) (w : World) (s : Sem Value) (v : Value) (h' : H) : Prop :=
  ∃ v' ι' w', s.run P w = .ok v' w' ∧ Tr ι h w ι' h' w' ∧ Rel P E ι' h' w' ∧ VR ι' h'.nx v v'

theorem Out.same (r : Rel P E ι h w) {s : Sem Value} {v v' : Value} (hr : s.run P w = .ok v' w) (hv : VR ι h.nx v v') : Out P E ι h w s v h :=
  ⟨v', ι, w, hr, .refl _ _ _, r, hv⟩

theorem size_of_zero {t : TypeId} {z : Value} (hz : zero? P t = some z) : ∃ s, size? P t = some s := by
  unfold zero? at hz
  cases hi : P.info? t with
  | none => rw [hi] at hz; cases hz
  | some i => exact ⟨i.size, by simp [size?, hi]⟩

theorem size_of_info {t : TypeId} {i : TypeInfo} (hi : P.info? t = some i) : size? P t = some i.size := by simp [size?, hi]

/-- A new row out of a row of values that stand for others. -/
theorem Rel.newRow (r : Rel P E ι h w) {c c' : List Value} (hc : LR ι h.nx c c') (t : TypeId) {s : Nat} (hs : size? P t = some s) :
    ∃ ι', (Go.newRow t c'.toArray).run P w = .ok ⟨w.heap.size, 0, none⟩ (w.alloc (.cells c'.toArray t (0, 0))) ∧
      Tr ι h w ι' (h.new (.row c t true)) (w.alloc (.cells c'.toArray t (0, 0))) ∧ Rel P E ι' (h.new (.row c t true)) (w.alloc (.cells c'.toArray t (0, 0))) ∧
      ι' h.nx = ⟨w.heap.size, 0, c'.length, s⟩ := by
  obtain ⟨ι', h1, h2, h3⟩ := r.row c c'.toArray t t s hs (by simp [hc.1]) (fun i v hv => by
    obtain ⟨v', a, b⟩ := hc.get hv
    exact ⟨v', by simpa using a, b⟩)
  exact ⟨ι', by simp only [Go.newRow, Sem.run_bind, run_newObj, Result.andThen_ok, Sem.run_pure]; rfl, h1, h2, by simpa using h3⟩

theorem alloc_run (r : Rel P E ι h w) {t : TypeId} {v : Value} {h' : H} (ha : alloc P t h = some (v, h')) : Out P E ι h w (Instr.alloc t true (.tuple #[])) v h' := by
  unfold alloc at ha
  obtain ⟨z, hz, ha⟩ := map_some ha
  cases ha
  obtain ⟨s, hs⟩ := size_of_zero hz
  obtain ⟨ι', h1, h2, h3, h4⟩ := r.newRow (VR.cells (zero_rel (ι := ι) (n := h.nx) hz)).toList t hs
  refine ⟨.pointer (some ⟨w.heap.size, 0, none⟩), ι', _, ?_, h2, h3, ?_⟩
  · simp only [Instr.alloc, Sem.run_bind, run_zero hz, Result.andThen_ok, newVar]
    rw [Array.toArray_toList] at h1
    simp only [h1, Result.andThen_ok, Sem.run_pure, Array.toArray_toList]
  · have := VR.ptr (ι := ι') (n := (h.new (.row z.cells.toList t true)).nx) (b := h.nx) (o := 0) (by simp [H.new])
    rw [h4] at this
    exact this

theorem box_run (r : Rel P E ι h w) {t : TypeId} {x x' v : Value} {h' : H} (hx : VR ι h.nx x x') (ha : box P t x h = some (v, h')) : Out P E ι h w (Instr.box t x') v h' := by
  unfold box at ha
  obtain ⟨s, hs, ha⟩ := map_some ha
  cases ha
  obtain ⟨ι', h1, h2, h3, h4⟩ := r.newRow hx.cells.toList t hs
  refine ⟨.pointer (some ⟨w.heap.size, 0, none⟩), ι', _, ?_, h2, h3, ?_⟩
  · simp only [Instr.box, Sem.run_bind, newVar]
    rw [Array.toArray_toList] at h1
    simp only [h1, Result.andThen_ok, Sem.run_pure, Array.toArray_toList]
  · have := VR.ptr (ι := ι') (n := (h.new (.row x.cells.toList t true)).nx) (b := h.nx) (o := 0) (by simp [H.new])
    rw [h4] at this
    exact this

/-- A new slice's value. -/
theorem new_slice {ι' : Nat → Emb} {h' : H} {g lim s l c c' : Nat} (hn : h.nx < h'.nx) (h4 : ι' h.nx = ⟨g, 0, lim, s⟩) (hc : CapR c c') (hk : l ≤ capK c) (hl : c' * s ≤ lim) :
    VR ι' h'.nx (.slice (some ⟨h.nx, 0, none⟩) l c) (.slice (some ⟨g, 0, none⟩) l c') := by
  have := VR.sl (ι := ι') (n := h'.nx) (b := h.nx) (o := 0) (l := l) (c := c) (c' := c') hn hc hk (by rw [h4]; simpa using hl)
  rw [h4] at this
  simpa using this

theorem range0 (f : Nat → Value) : (Array.range 0).map f = #[] := by simp

theorem foldl_set_size (off : Nat) : ∀ (L : List (Value × Nat)) (c : Array Value), (L.foldl (fun cs (cj : Value × Nat) => cs.setIfInBounds (off + cj.2) cj.1) c).size = c.size := by
  intro L
  induction L with
  | nil => intro c; rfl
  | cons q L ih => intro c; simp only [List.foldl_cons]; rw [ih]; simp

theorem fill_size (place : Nat → Option (Nat × Nat)) : ∀ (ps : List (Nat × Value)) (c r : Array Value), Instr.fill place c ps = some r → r.size = c.size := by
  intro ps
  induction ps with
  | nil => intro c r h; cases h; rfl
  | cons p ps ih =>
    intro c r h
    obtain ⟨i, x⟩ := p
    simp only [Instr.fill] at h
    split at h
    · cases h
    · split at h
      · cases h
      · rw [ih _ _ h, ← Array.foldl_toList]
        exact foldl_set_size _ _ _

theorem buildSlice_run (r : Rel P E ι h w) {t : TypeId} {len : Nat} (l : List (Nat × Operand)) (e e' : Operand → Value) {v : Value} {h' : H} (he : ∀ p ∈ l, VR ι h.nx (e p.2) (e' p.2))
    (hb : buildSlice P t len (l.map fun (i, x) => (i, e x)) h = some (v, h')) : Out P E ι h w (Instr.buildSlice t len (l.map fun (i, x) => (i, e' x)).toArray) v h' := by
  unfold buildSlice at hb
  split at hb
  · rename_i el hu
    obtain ⟨s, hs, hb⟩ := bind_some hb
    obtain ⟨z, hz, hb⟩ := bind_some hb
    split at hb
    · rename_i hc
      obtain ⟨cs, hf, hb⟩ := map_some hb
      cases hb
      have hzr := VR.cells (zero_rel (ι := ι) (n := h.nx) hz)
      have hlen : ((Array.range (len * s)).map (z.cells[· % z.cells.size]!)).size = len * s := by simp
      obtain ⟨cs', hf', hr⟩ := fill_rel (ι := ι) (n := h.nx) _ e e' l _ ((Array.range (len * s)).map (z.cells[· % z.cells.size]!)) cs he ⟨by simp, fun i v v' hv hv' => by
        rw [hv] at hv'; cases hv'
        simp only [Array.getElem?_map] at hv
        cases hi : (Array.range (len * s))[i]? with
        | none => rw [hi] at hv; cases hv
        | some j =>
          rw [hi] at hv
          simp only [Option.map_some, Option.some.injEq] at hv
          have hlt : j % z.cells.size < z.cells.size := Nat.mod_lt _ (by omega)
          subst hv
          rw [getElem!_pos z.cells _ hlt]
          exact hzr.2 (j % z.cells.size) _ _ (Array.getElem?_eq_getElem hlt) (Array.getElem?_eq_getElem hlt)⟩ hf
      obtain ⟨ι', h1, h2, h3, h4⟩ := r.newRow hr.toList el hs
      refine ⟨.slice (some ⟨w.heap.size, 0, none⟩) len len, ι', _, ?_, h2, h3, ?_⟩
      · simp only [Instr.buildSlice, Sem.run_bind, run_underlying hu, Result.andThen_ok, run_sizeOf' hs]
        rw [if_neg (by omega)]
        rw [Array.toArray_toList] at h1
        by_cases h0 : len * s = 0
        · rw [if_pos h0]
          rw [h0] at hf'
          simp only [range0] at hf'
          simp only [Sem.run_bind, Sem.run_pure, Result.andThen_ok, h0, range0, hf', h1, Array.toArray_toList]
        · rw [if_neg h0]
          simp only [Sem.run_bind, Sem.run_pure, run_zero hz, Result.andThen_ok, hf', h1, Array.toArray_toList]
      · refine new_slice (by simp [H.new]) h4 ?_ ?_ ?_
        · by_cases hU : len < U
          · exact .inl ⟨hU, rfl⟩
          · exfalso
            have h5 : len * 1 ≤ len * s := Nat.mul_le_mul_left _ hc.2.1
            unfold U at hU
            omega
        · unfold capK
          split
          · exact Nat.le_refl _
          · exfalso
            rename_i hU
            have h5 : len * 1 ≤ len * s := Nat.mul_le_mul_left _ hc.2.1
            unfold U at hU
            omega
        · have := fill_size _ _ _ _ hf'
          simp only [Array.length_toList]
          omega
    · cases hb
  · cases hb

theorem makeSlice_run (r : Rel P E ι h w) {t : TypeId} {a a' b b' v : Value} {h' : H} (ha : VR ι h.nx a a') (hb : VR ι h.nx b b')
    (hm : makeSlice P t a b h = some (v, h')) : Out P E ι h w (Instr.makeSlice t a' b') v h' := by
  unfold makeSlice at hm
  split at hm
  · rename_i e k l k' c hu
    obtain ⟨i, hi, hm⟩ := bind_some hm
    obtain ⟨z, hz, hm⟩ := bind_some hm
    split at hm
    · rename_i hc
      obtain ⟨c1, c2, c3, c4, c5, c6⟩ := hc
      cases hm
      cases ha; cases hb
      have hzr := VR.cells (zero_rel (ι := ι) (n := h.nx) hz)
      have hw1 : IntKind.i64.wrap l = l := by
        have : IntKind.i64.bits = 64 := rfl
        simp only [IntKind.wrap, IntKind.signed, IntKind.bits]
        simp
        omega
      have hw2 : IntKind.i64.wrap c = c := by
        simp only [IntKind.wrap, IntKind.signed, IntKind.bits]
        simp
        omega
      have hLR : LR ι h.nx ((List.range (c.toNat * i.size)).map (z.cells[· % z.cells.size]!)) ((List.range (c.toNat * i.size)).map (z.cells[· % z.cells.size]!)) := by
        refine LR.map _ _ _ fun j _ => ?_
        have hlt : j % z.cells.size < z.cells.size := Nat.mod_lt _ (by omega)
        rw [getElem!_pos z.cells _ hlt]
        exact hzr.2 (j % z.cells.size) _ _ (Array.getElem?_eq_getElem hlt) (Array.getElem?_eq_getElem hlt)
      obtain ⟨ι', h1, h2, h3, h4⟩ := r.newRow hLR e (size_of_info hi)
      refine ⟨.slice (some ⟨w.heap.size, 0, none⟩) l.toNat c.toNat, ι', _, ?_, h2, h3, ?_⟩
      · simp only [Instr.makeSlice, Sem.run_bind, run_underlying hu, Result.andThen_ok, asInt, asIntOf, Sem.run_pure, run_typeInfo hi, hw1, hw2]
        have hby : (i.bytes : Int) * c ≤ 2 ^ 48 := by
          have h1 : (i.bytes : Int) * c ≤ 4096 * c := Int.mul_le_mul_of_nonneg_right (by omega) (by omega)
          omega
        rw [if_neg (by simp; omega)]
        simp only [Sem.run_bind, run_askRoom, Result.andThen_ok, run_sizeOf' (size_of_info hi)]
        by_cases h0 : c.toNat * i.size = 0
        · rw [if_pos h0]
          rw [h0] at h1 ⊢
          simp only [Sem.run_bind, Sem.run_pure, Result.andThen_ok, range0, List.range_zero, List.map_nil] at h1 ⊢
          simp only [h1, Result.andThen_ok]
        · rw [if_neg h0]
          have hmap : ((Array.range (c.toNat * i.size)).map (z.cells[· % z.cells.size]!)) = ((List.range (c.toNat * i.size)).map (z.cells[· % z.cells.size]!)).toArray := by
            apply Array.ext'
            simp
          simp only [Sem.run_bind, Sem.run_pure, run_zero hz, Result.andThen_ok, hmap, h1]
      · refine new_slice (by simp [H.new]) h4 (.inl ⟨by unfold U; omega, rfl⟩) ?_ (by simp)
        unfold capK
        rw [if_pos (by unfold U; omega)]
        omega
    · cases hm
  · cases hm

theorem scal_eq (v : Value) : scal v = v.oneCell' := by cases v <;> rfl

theorem setAt_eq : ∀ (vs c : List Value) (o : Nat), o + vs.length ≤ c.length → setAt c o vs = c.take o ++ vs ++ c.drop (o + vs.length) := by
  intro vs
  induction vs with
  | nil => intro c o _; simp [setAt]
  | cons v vs ih =>
    intro c o h
    simp only [List.length_cons] at h
    simp only [setAt, List.length_cons]
    rw [ih (c.set o v) (o + 1) (by simp; omega)]
    exact list_seg_step c o v vs (by omega)

theorem setAt_length (vs : List Value) : ∀ (c : List Value) (o : Nat), (setAt c o vs).length = c.length := by
  induction vs with
  | nil => intro c o; rfl
  | cons v vs ih => intro c o; simp only [setAt]; rw [ih]; simp

theorem setAt_get : ∀ (vs c : List Value) (o i : Nat), o + vs.length ≤ c.length → (setAt c o vs)[i]? = if o ≤ i ∧ i < o + vs.length then vs[i - o]? else c[i]? := by
  intro vs
  induction vs with
  | nil => intro c o i _; simp [setAt]; omega
  | cons v vs ih =>
    intro c o i h
    simp only [List.length_cons] at h
    simp only [setAt, List.length_cons]
    rw [ih (c.set o v) (o + 1) i (by simp; omega)]
    by_cases h1 : i = o
    · subst h1
      rw [if_neg (by omega), if_pos (by omega)]
      rw [List.getElem?_set_self (by omega)]
      simp
    · by_cases h2 : o + 1 ≤ i ∧ i < o + 1 + vs.length
      · rw [if_pos h2, if_pos (by omega)]
        obtain ⟨j, hj⟩ : ∃ j, i - o = j + 1 := ⟨i - o - 1, by omega⟩
        rw [hj, List.getElem?_cons_succ]
        congr 1
        omega
      · rw [if_neg h2, if_neg (by omega)]
        rw [List.getElem?_set_ne (by omega)]

/-- Values are stored side by side into a row of one's own. -/
theorem Rel.stores (r : Rel P E ι h w) {b o : Nat} {c vs vs' : List Value} {e : TypeId} (hb : h.blk b = some (.row c e true)) (hv : LR ι h.nx vs vs') (hl : o + vs.length ≤ c.length)
    (hs : vs.all scal = true) :
    ∃ w', (storeCells ⟨(ι b).g, (ι b).base + o, none⟩ vs' 0).run P w = .ok () w' ∧ Tr ι h w ι (h.set b (.row (setAt c o vs) e true)) w' ∧
      Rel P E ι (h.set b (.row (setAt c o vs) e true)) w' := by
  obtain ⟨C, T, h1, h2, h3, h4, h5⟩ := r.blk b _ hb
  have hs' : ∀ v ∈ vs', v.oneCell' = true := by
    intro v hm
    obtain ⟨i, hi⟩ := List.mem_iff_getElem?.1 hm
    have hi' : i < vs.length := by
      have := hv.1
      rcases Nat.lt_or_ge i vs'.length with h | h
      · omega
      · rw [List.getElem?_eq_none h] at hi; cases hi
    have := hv.2 i vs[i] v (List.getElem?_eq_getElem hi') hi
    rw [← scal_eq, this.scal]
    exact List.all_eq_true.1 hs _ (List.getElem_mem hi')
  have hrun := run_storeCells_at P (ι b).g ((ι b).base + o) T vs' 0 C w h1 (by have := hv.1; omega) hs'
  simp only [Nat.add_zero] at hrun
  refine ⟨_, hrun, ?_⟩
  have hlv := hv.1
  refine r.set hb h1 _ (by simp; omega) (by rw [setAt_length]; exact h3) fun i v hi => ?_
  rw [setAt_get vs c o i hl] at hi
  split at hi
  · rename_i hin
    obtain ⟨v', a, b'⟩ := hv.get hi
    refine ⟨v', ?_, b'⟩
    simp only [List.getElem?_toArray]
    rw [List.getElem?_append_left (by simp; omega), List.getElem?_append_right (by simp; omega)]
    rw [← a]
    congr 1
    simp
    omega
  · rename_i hout
    obtain ⟨v', a, b'⟩ := h5 i v hi
    refine ⟨v', ?_, b'⟩
    simp only [List.getElem?_toArray]
    have hCi : (ι b).base + i < C.size := (Array.getElem?_eq_some_iff.1 a).1
    by_cases hlo : i < o
    · rw [List.getElem?_append_left (by simp; omega), List.getElem?_append_left (by simp; omega), List.getElem?_take_of_lt (by omega)]
      simpa using a
    · rw [List.getElem?_append_right (by simp; omega)]
      rw [List.getElem?_drop]
      simp only [List.length_append, List.length_take, Array.length_toList]
      rw [show (ι b).base + o + vs'.length + ((ι b).base + i - (min ((ι b).base + o) C.size + vs'.length)) = (ι b).base + i by omega]
      simpa using a

theorem store_run (r : Rel P E ι h w) {t : TypeId} {a a' x x' : Value} {h' : H} (ha : VR ι h.nx a a') (hx : VR ι h.nx x x') (hs : store P t a x h = some h') :
    ∃ w', (Instr.storeAt t a' x').run P w = .ok () w' ∧ Tr ι h w ι h' w' ∧ Rel P E ι h' w' := by
  unfold store at hs
  split at hs
  · rename_i b o
    split at hs
    · rename_i c e hb
      split at hs
      · rename_i hc
        cases hs
        cases ha
        obtain ⟨w', h1, h2, h3⟩ := r.stores (P := P) (E := E) hb hx.cells.toList (by simpa using hc.2.1) hc.2.2
        refine ⟨w', ?_, h2, h3⟩
        simp only [Instr.storeAt, Instr.sureAddr, Sem.run_bind, Sem.run_pure, Result.andThen_ok, storeVar, run_sizeOf' hc.1]
        rw [if_neg (by rw [hx.cells.1]; simp)]
        simpa using h1
      · cases hs
    · cases hs
  · cases hs

end
end Go.AM
