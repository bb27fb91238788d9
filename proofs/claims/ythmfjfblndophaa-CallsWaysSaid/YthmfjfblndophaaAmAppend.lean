/- Appending. -/
import Derived.Test.YthmfjfblndophaaAmHeap2
namespace Go.AM

section
variable {P : Program} {E : Env} {ι : Nat → Emb} {h : H} {w : World}

theorem Tr.drew {ι' : Nat → Emb} {h' : H} {w' : World} {k : Nat} (t : Tr ι h { w with drawn := k } ι' h' w') : Tr ι h w ι' h' w' :=
  ⟨t.nx, t.ext, t.os, t.tape, t.output, t.size, t.fr, t.own⟩

theorem Rel.kill (r : Rel P E ι h w) {b : Nat} {k : Blk} (hb : h.blk b = some k) (ho : k.own = true) : Tr ι h w ι (h.kill b) w ∧ Rel P E ι (h.kill b) w := by
  have hsub : ∀ i j, (h.kill b).blk i = some j → i ≠ b ∧ h.blk i = some j := by
    intro i j hi
    simp only [H.kill] at hi
    split at hi
    · cases hi
    · exact ⟨by assumption, hi⟩
  refine ⟨⟨Nat.le_refl _, fun _ _ => rfl, rfl, rfl, rfl, Nat.le_refl _, fun _ _ _ => rfl, fun i j hi hj => .inl ⟨i, j, (hsub i j hi).2, hj, rfl⟩⟩, ⟨?_, ?_, ?_, ?_, ?_, ?_, ?_⟩⟩
  · intro i j hi; exact r.dom i j (hsub i j hi).2
  · intro i j hi; exact r.blk i j (hsub i j hi).2
  · intro i i' j j' hi hi' hne hj; exact r.inj i i' j j' (hsub i j hi).2 (hsub i' j' hi').2 hne hj
  · exact r.ng
  · exact r.glob
  · intro g hg
    have h1 := r.globB g hg
    have : g ≠ b := by
      intro e
      subst e
      rw [hb] at h1
      rw [(r.globO g k hg h1.symm).1] at ho
      cases ho
    simp only [H.kill]
    rw [if_neg this, h1]
  · exact r.globO

theorem growBy_le (need M : Nat) (hM : M = need + (need + 768) / 4) : ∀ (r c : Nat), c ≤ M → Builtin.growBy need r c ≤ M := by
  intro r
  induction r with
  | zero => intro c hc; exact hc
  | succ r ih =>
    intro c hc
    simp only [Builtin.growBy]
    split
    · exact hc
    · refine ih _ ?_
      omega

theorem nextcap_le {need cap : Nat} (h : ¬ need ≤ cap) : Builtin.nextslicecap need cap ≤ 2 * need + 768 := by
  unfold Builtin.nextslicecap
  split
  · omega
  · split
    · omega
    · have := growBy_le need _ rfl 4 cap (by omega)
      omega

theorem src_run (r : Rel P E ι h w) {x x' : Value} {s k : Nat} {xs : List Value} (hx : VR ι h.nx x x') (hk : lenOf x = some k) (hs : srcCells s x h = some xs) :
    xs.length = k * s ∧ (Builtin.lenOf x').run P w = .ok k w ∧ ∃ xs', (∀ d, (Builtin.firstCells s k x').run P { w with drawn := d } = .ok xs'.toArray { w with drawn := d }) ∧ LR ι h.nx xs xs' := by
  unfold srcCells at hs
  split at hs
  · cases hs
    simp only [lenOf] at hk
    cases hk
    cases hx
    exact ⟨by simp, rfl, [], fun _ => rfl, .nil⟩
  · rename_i b o n c
    simp only [lenOf] at hk
    cases hk
    split at hs
    · rename_i h0
      cases hs
      refine ⟨by simp [h0], ?_, [], fun d => ?_, .nil⟩
      · cases hx <;> rfl
      · cases hx <;> (simp only [Builtin.firstCells, h0]; rfl)
    · rename_i h0
      obtain ⟨h1, l', h2, h3⟩ := r.rd hs
      cases hx with
      | sl hb hc hk' hl =>
        refine ⟨h1, rfl, l', fun d => ?_, h2⟩
        have hrun := run_loadCells_list (P := P) { w with drawn := d } ⟨(ι b).g, (ι b).base + o, none⟩ l' (fun j v hv => by rw [addr_add]; exact h3 j v hv)
        rw [← h2.1, h1] at hrun
        simpa only [Builtin.firstCells] using hrun
      | sl0 hb hc => simp at h0
  · cases hs

theorem zeroCells_size (z : Array Value) (n : Nat) : (Builtin.zeroCells z n).size = n * z.size := by simp [Builtin.zeroCells]

/-- The kinds of the operands of an append. -/
structure AppT (P : Program) (tys : Array TypeId) (e : TypeId) (i : TypeInfo) (z : Value) : Prop where
  st : ∃ t, tys[0]? = some t ∧ P.underlying t = some (.slice e)
  xt : ∃ t e', tys[1]? = some t ∧ P.underlying t = some (.slice e')
  info : P.info? e = some i
  zero : zero? P e = some z
  bytes : i.bytes ≤ 4096
  pos : 0 < i.size
  zs : z.cells.size = i.size

/-- An append with room. -/
theorem append_room {tys : Array TypeId} {e : TypeId} {i : TypeInfo} {z : Value} (ht : AppT P tys e i z) {T : TypeId} {x' : Value} {base : Option Addr} {n k cap : Nat} {xs' : List Value} {w' : World}
    (hk : (Builtin.lenOf x').run P w = .ok k w) (hf : (Builtin.firstCells i.size k x').run P w = .ok xs'.toArray w) (hroom : n + k ≤ cap)
    (hst : (match base with | some a => storeCells (a.add (n * i.size)) xs' | none => pure () : Sem Unit).run P w = .ok () w') :
    (Builtin.append_ tys T #[.slice base n cap, x']).run P w = .ok (.slice base (n + k) cap) w' := by
  obtain ⟨st, h1, h2⟩ := ht.st
  obtain ⟨xt, e', h3, h4⟩ := ht.xt
  unfold Builtin.append_
  simp only [h1, h3, List.getElem?_toArray, List.getElem?_cons_zero, List.getElem?_cons_succ, Sem.run_bind, run_underlying h2, run_underlying h4, Result.andThen_ok, run_sizeOf' (size_of_info ht.info), Sem.run_pure,
    Bool.false_eq_true, if_false, hk, Bool.not_false, if_true]
  rw [if_pos hroom]
  cases base with
  | none =>
    simp only [Sem.run_bind, hf, Result.andThen_ok, Sem.run_pure] at hst ⊢
    cases hst
    rfl
  | some a =>
    simp only [Sem.run_bind, hf, Result.andThen_ok, hst, Sem.run_pure]

/-- An append without room. -/
theorem append_grow (r : Rel P E ι h w) {tys : Array TypeId} {e : TypeId} {i : TypeInfo} {z : Value} (ht : AppT P tys e i z) {T : TypeId} {x' : Value} {base : Option Addr} {n k cap : Nat}
    {old old' xs xs' : List Value} (ho : ∀ d, (Builtin.firstCells i.size n (.slice base n cap)).run P { w with drawn := d } = .ok old'.toArray { w with drawn := d }) (hol : old.length = n * i.size) (hor : LR ι h.nx old old')
    (hk : (Builtin.lenOf x').run P w = .ok k w) (hf : ∀ d, (Builtin.firstCells i.size k x').run P { w with drawn := d } = .ok xs'.toArray { w with drawn := d }) (hxl : xs.length = k * i.size) (hxr : LR ι h.nx xs xs')
    (hroom : ¬ n + k ≤ cap) (hbig : n + k < 2 ^ 30) :
    ∃ newCap ι' w', (Builtin.append_ tys T #[.slice base n cap, x']).run P w = .ok (.slice (some ⟨w.heap.size, 0, none⟩) (n + k) newCap) w' ∧ n + k ≤ newCap ∧
      Tr ι h w ι' (h.new (.row (old ++ xs) e true)) w' ∧ Rel P E ι' (h.new (.row (old ++ xs) e true)) w' ∧ ι' h.nx = ⟨w.heap.size, 0, newCap * i.size, i.size⟩ := by
  obtain ⟨st, h1, h2⟩ := ht.st
  obtain ⟨xt, e', h3, h4⟩ := ht.xt
  have hq : (Question.appendCap (n + k) cap e).forced = false := rfl
  let q := Question.appendCap (n + k) cap e
  let newCap := q.cut (w.tape w.drawn q)
  have hnc : n + k ≤ newCap := by
    show n + k ≤ (n + k) + _ % _
    omega
  let w1 : World := { w with drawn := w.drawn + 1 }
  have r1 : Rel P E ι h w1 := r.drew _
  have hc' : (old' ++ xs').length = (n + k) * i.size := by
    have := hor.1
    have := hxr.1
    simp only [List.length_append, Nat.add_mul]
    omega
  let C : Array Value := (old' ++ xs').toArray ++ Builtin.zeroCells z.cells (newCap - (n + k))
  have hCs : C.size = newCap * i.size := by
    show ((old' ++ xs').toArray ++ Builtin.zeroCells z.cells (newCap - (n + k))).size = _
    rw [Array.size_append, zeroCells_size, ht.zs, List.size_toArray, hc', ← Nat.add_mul]
    congr 1
    omega
  obtain ⟨ι', t1, t2, t3⟩ := r1.row (old ++ xs) C e e i.size (size_of_info ht.info) (by
      rw [hCs]
      simp only [List.length_append, hol, hxl, ← Nat.add_mul]
      exact Nat.mul_le_mul_right _ hnc) (fun j v hv => by
    obtain ⟨v', a, b⟩ := (hor.append hxr).get hv
    refine ⟨v', ?_, b⟩
    have hj : j < (old' ++ xs').length := by
      rcases Nat.lt_or_ge j (old' ++ xs').length with h | h
      · exact h
      · rw [List.getElem?_eq_none h] at a; cases a
    show ((old' ++ xs').toArray ++ Builtin.zeroCells z.cells (newCap - (n + k)))[j]? = _
    rw [Array.getElem?_append_left (by simpa using hj)]
    simpa using a)
  refine ⟨newCap, ι', w1.alloc (.cells C e (0, 0)), ?_, hnc, t1.drew, t2, by rw [t3, hCs]⟩
  have hby : ¬ (Builtin.nextslicecap (n + k) cap * i.bytes > 2 ^ 48) := by
    have h5 := nextcap_le hroom
    have h6 : Builtin.nextslicecap (n + k) cap * i.bytes ≤ (2 * (n + k) + 768) * 4096 := Nat.mul_le_mul h5 ht.bytes
    omega
  have hne : ¬ (((n + k : Nat) : Int) > IntKind.i64.max ∧ ((false = true) ∨ i.bytes = 0)) := by
    intro hc
    have := hc.1
    simp [IntKind.max, IntKind.signed, IntKind.bits] at this
    omega
  unfold Builtin.append_
  simp only [h1, h3, List.getElem?_toArray, List.getElem?_cons_zero, List.getElem?_cons_succ, Sem.run_bind, run_underlying h2, run_underlying h4, Result.andThen_ok, run_sizeOf' (size_of_info ht.info), Sem.run_pure,
    Bool.false_eq_true, if_false, hk, Bool.not_false, if_true]
  rw [if_neg hroom]
  simp only [Sem.run_bind, run_typeInfo ht.info, Result.andThen_ok]
  rw [if_neg (by simpa using hne)]
  simp only [Sem.run_bind, run_typeInfo ht.info, Result.andThen_ok]
  rw [if_neg hby]
  have hchoose : (choose (Question.appendCap (n + k) cap e)).run P w = .ok newCap w1 := by
    rw [run_choose, hq]
    rfl
  have hw1o : (Builtin.firstCells i.size n (.slice base n cap)).run P w1 = .ok old'.toArray w1 := ho _
  have hw1x : (Builtin.firstCells i.size k x').run P w1 = .ok xs'.toArray w1 := hf _
  simp only [Sem.run_bind, hchoose, Result.andThen_ok, run_typeInfo ht.info, run_askRoom, hw1o, hw1x, run_zero ht.zero]
  have hcells : old'.toArray ++ xs'.toArray ++ Builtin.zeroCells z.cells (newCap - (n + k)) = C := by
    show _ = (old' ++ xs').toArray ++ Builtin.zeroCells z.cells (newCap - (n + k))
    simp
  rw [hcells]
  simp only [Go.newRow, Sem.run_bind, run_newObj, Result.andThen_ok, Sem.run_pure]
  rfl

/-- An append whose row may have had room: the row's block goes on under a new name. -/
theorem append_here (r : Rel P E ι h w) {b o n k c' : Nat} {cs : List Value} {e : TypeId} {tys : Array TypeId} {T : TypeId} {i : TypeInfo} {z x' : Value} {xs xs' : List Value}
    (hblk : h.blk b = some (.row cs e true)) (hfit : o + n * i.size ≤ cs.length) (hlim : o + c' * (ι b).sz ≤ (ι b).lim) (hroom : n + k ≤ c') (ht : AppT P tys e i z)
    (hrun : ∀ (T : TypeId) {w' : World}, (storeCells ((⟨(ι b).g, (ι b).base + o, none⟩ : Addr).add (n * i.size)) xs').run P w = .ok () w' →
      (Builtin.append_ tys T #[.slice (some ⟨(ι b).g, (ι b).base + o, none⟩) n c', x']).run P w = .ok (.slice (some ⟨(ι b).g, (ι b).base + o, none⟩) (n + k) c') w')
    (hxl : xs.length = k * i.size) (hxr : LR ι h.nx xs xs') (hsc : xs.all scal = true) :
    Out P E ι h w (Builtin.append_ tys T #[.slice (some ⟨(ι b).g, (ι b).base + o, none⟩) n c', x']) (.slice (some ⟨h.nx, 0, none⟩) (n + k) (U + (n + k)))
      ((h.kill b).new (.row ((cs.drop o).take (n * i.size) ++ xs) e true)) := by
  obtain ⟨C, T0, h1, h2, h3, h4, h5⟩ := r.blk b _ hblk
  have hsz : i.size = (ι b).sz := by
    rw [size_of_info ht.info] at h2
    exact Option.some.inj h2
  have hlx := hxr.1
  have hmul : (n + k) * i.size ≤ c' * (ι b).sz := by rw [hsz]; exact Nat.mul_le_mul_right _ hroom
  rw [Nat.add_mul] at hmul
  have hs' : ∀ v ∈ xs', v.oneCell' = true := by
    intro v hm
    obtain ⟨j, hj⟩ := List.mem_iff_getElem?.1 hm
    have hj' : j < xs.length := by
      rcases Nat.lt_or_ge j xs'.length with h | h
      · omega
      · rw [List.getElem?_eq_none h] at hj; cases hj
    have := hxr.2 j xs[j] v (List.getElem?_eq_getElem hj') hj
    rw [← scal_eq, this.scal]
    exact List.all_eq_true.1 hsc _ (List.getElem_mem hj')
  have hst := run_storeCells_at P (ι b).g ((ι b).base + o + n * i.size) T0 xs' 0 C w h1 (by omega) hs'
  simp only [Nat.add_zero] at hst
  have happ := hrun T (by rw [addr_add]; exact hst)
  have hold : ∀ j, j < n * i.size → ∃ v', C[(ι b).base + (o + j)]? = some v' ∧ VR ι h.nx (cs.getD (o + j) Go.undef) v' := by
    intro j hj
    have hlt : o + j < cs.length := by omega
    exact h5 (o + j) _ (by simp [List.getD, hlt])
  let ι' := Emb.new ι h.nx ⟨(ι b).g, (ι b).base + o, (ι b).lim - o, i.size⟩
  have hat : ι' h.nx = ⟨(ι b).g, (ι b).base + o, (ι b).lim - o, i.size⟩ := Emb.new_at _ _ _
  have hlt' : ∀ j, j < h.nx → ι' j = ι j := fun j hj => Emb.new_lt _ _ _ hj
  have hup := r.upd hblk rfl ((h.kill b).new (.row ((cs.drop o).take (n * i.size) ++ xs) e true)) ι' (w.setRow (ι b).g (C.toList.take ((ι b).base + o + n * i.size) ++ xs' ++ C.toList.drop ((ι b).base + o + n * i.size + xs'.length)).toArray) h.nx
    (.row ((cs.drop o).take (n * i.size) ++ xs) e true) (fun j => rfl) (by simp [H.new, H.kill]) (by simp [H.new, H.kill]) (.inr (Nat.le_refl _)) hlt' (by rw [hat]) (setRow_size _ _ _)
    (fun g hg => setRow_other w _ _ _ hg) rfl rfl rfl (by
      refine ⟨(C.toList.take ((ι b).base + o + n * i.size) ++ xs' ++ C.toList.drop ((ι b).base + o + n * i.size + xs'.length)).toArray, T0, ?_, ?_, ?_, ?_, ?_⟩
      · rw [hat]; exact setRow_heap w _ _ _ _ _ h1
      · rw [hat]; exact size_of_info ht.info
      · rw [hat]
        simp only [List.length_append, List.length_take, List.length_drop]
        omega
      · rw [hat]
        simp only [List.size_toArray, List.length_append, List.length_take, List.length_drop, Array.length_toList]
        omega
      · intro j v hj
        rw [hat]
        by_cases hjn : j < n * i.size
        · rw [List.getElem?_append_left (by simp; omega), List.getElem?_take_of_lt hjn, List.getElem?_drop] at hj
          obtain ⟨v', a, q⟩ := h5 (o + j) v hj
          have hCj : (ι b).base + (o + j) < C.size := (Array.getElem?_eq_some_iff.1 a).1
          refine ⟨v', ?_, q.mono (Nat.le_succ _) hlt'⟩
          simp only [List.getElem?_toArray]
          rw [List.getElem?_append_left (by simp; omega), List.getElem?_append_left (by simp; omega), List.getElem?_take_of_lt (by omega), Nat.add_assoc]
          simpa using a
        · rw [List.getElem?_append_right (by simp; omega)] at hj
          obtain ⟨v', a, q⟩ := hxr.get hj
          refine ⟨v', ?_, q.mono (Nat.le_succ _) hlt'⟩
          have hjx : j - n * i.size < xs'.length := by
            have hl : ((cs.drop o).take (n * i.size)).length = n * i.size := by simp; omega
            rw [hl] at a
            rcases Nat.lt_or_ge (j - n * i.size) xs'.length with h | h
            · exact h
            · rw [List.getElem?_eq_none h] at a; cases a
          simp only [List.getElem?_toArray]
          rw [List.getElem?_append_left (by simp; omega), List.getElem?_append_right (by simp; omega), ← a]
          congr 1
          simp only [List.length_take, List.length_drop, Array.length_toList]
          omega)
  refine ⟨_, ι', _, happ, hup.1, hup.2, ?_⟩
  have := VR.sl (ι := ι') (n := ((h.kill b).new (.row ((cs.drop o).take (n * i.size) ++ xs) e true)).nx) (b := h.nx) (o := 0) (l := n + k) (c := U + (n + k)) (c' := c') (by simp [H.new, H.kill]) (.inr ⟨by omega, by omega⟩)
    (by unfold capK; rw [if_neg (by omega)]; omega) (by rw [hat]; simp only [Nat.zero_add, hsz]; omega)
  rw [hat] at this
  simpa using this

/-- What the abstract machine's append is good for. -/
theorem append_run (r : Rel P E ι h w) {tys : Array TypeId} {T : TypeId} {s s' x x' v : Value} {h' : H} (hs : VR ι h.nx s s') (hx : VR ι h.nx x x')
    (ha : append P tys.toList s x h = some (v, h')) : Out P E ι h w (Builtin.append_ tys T #[s', x']) v h' := by
  unfold append at ha
  split at ha
  · rename_i st xt htys
    split at ha
    · rename_i e e' hu1 hu2
      obtain ⟨i, hi, ha1⟩ := bind_some ha
      clear ha
      obtain ⟨z, hz, ha2⟩ := bind_some ha1
      clear ha1
      obtain ⟨k, hk, ha3⟩ := bind_some ha2
      clear ha2
      obtain ⟨xs, hxs, ha⟩ := bind_some ha3
      clear ha3
      split at ha
      · rename_i hc
        have ht : AppT P tys e i z := by
          have g0 : tys[0]? = some st := by rw [← Array.getElem?_toList, htys]; rfl
          have g1 : tys[1]? = some xt := by rw [← Array.getElem?_toList, htys]; rfl
          exact ⟨⟨st, g0, hu1⟩, ⟨xt, e', g1, hu2⟩, hi, hz, hc.1, hc.2.1, hc.2.2⟩
        obtain ⟨hxl, hlen, xs', hf, hxr⟩ := src_run r hx hk hxs
        have hf0 : (Builtin.firstCells i.size k x').run P w = .ok xs'.toArray w := hf w.drawn
        have empty : k = 0 → xs' = [] := by
          intro hk0
          subst hk0
          have h1 : xs.length = 0 := by simpa using hxl
          have h2 := hxr.1
          exact List.length_eq_zero_iff.1 (by omega)
        split at ha
        · cases hs
          split at ha
          · rename_i hk0
            cases ha
            have he := empty hk0
            subst hk0
            subst he
            exact .same r (append_room ht hlen hf0 (Nat.le_refl _) rfl) .slNil
          · rename_i hk0
            split at ha
            · rename_i hk30
              cases ha
              obtain ⟨nc, ι', w', h1, h2, h3, h4, h5⟩ := append_grow (T := T) (old := []) (old' := []) (base := none) (n := 0) (cap := 0) r ht (fun _ => rfl) (by simp) .nil hlen hf hxl hxr (by omega) (by omega)
              simp only [Nat.zero_add, List.nil_append] at h1 h2 h3 h4
              exact ⟨_, ι', w', h1, h3, h4, new_slice (by simp [H.new]) h5 (.inr ⟨by omega, by omega⟩) (by unfold capK; rw [if_neg (by omega)]; omega) (Nat.le_refl _)⟩
            · cases ha
        · rename_i b o n c
          split at ha
          · rename_i hk0
            cases ha
            have he := empty hk0
            subst hk0
            subst he
            cases hs with
            | sl hb hcap hkk hlim => exact .same r (append_room ht hlen hf0 (by have := capK_le hcap; omega) rfl) (.sl hb hcap hkk hlim)
            | sl0 hb hc0 => exact .same r (append_room ht hlen hf0 (Nat.le_refl _) rfl) (.sl0 hb hc0)
          · rename_i hk0
            split at ha
            · rename_i hroom
              split at ha
              · rename_i cs e2 hblk
                split at ha
                · rename_i hcc
                  obtain ⟨rfl, hfit, hsc⟩ := hcc
                  cases ha
                  cases hs with
                  | sl hb hcap hkk hlim =>
                    obtain ⟨w', s1, s2, s3⟩ := r.stores (o := o + n * i.size) hblk hxr (by rw [hxl, Nat.add_assoc, ← Nat.add_mul]; exact hfit) hsc
                    refine ⟨_, ι, w', append_room ht hlen hf0 (Nat.le_trans hroom (capK_le hcap)) ?_, s2, s3, .sl hb hcap hroom hlim⟩
                    simp only [addr_add]
                    rw [Nat.add_assoc]
                    exact s1
                  | sl0 hb hc0 => omega
                · cases ha
              · cases ha
            · rename_i hnroom
              split at ha
              · rename_i hbig
                split at ha
                · rename_i hcU
                  obtain ⟨old, hold, ha⟩ := bind_some ha
                  cases ha
                  cases hs with
                  | @sl _ _ _ _ c' hb hcap hkk hlim =>
                    have hcc : c' = c := by rcases hcap with ⟨_, h2⟩ | ⟨h1, _⟩; exact h2; omega
                    have hKc : capK c = c := by unfold capK; rw [if_pos hcU]
                    have hlo : old.length = n * i.size ∧ ∃ old', (∀ d, (Builtin.firstCells i.size n (.slice (some ⟨(ι b).g, (ι b).base + o, none⟩) n c')).run P { w with drawn := d } = .ok old'.toArray { w with drawn := d }) ∧ LR ι h.nx old old' := by
                      split at hold
                      · rename_i hn0
                        cases hold
                        subst hn0
                        exact ⟨by simp, [], fun d => by simp only [Builtin.firstCells, Nat.zero_mul]; rfl, .nil⟩
                      · obtain ⟨g1, l', g2, g3⟩ := r.rd hold
                        refine ⟨g1, l', fun d => ?_, g2⟩
                        have hrun := run_loadCells_list (P := P) { w with drawn := d } ⟨(ι b).g, (ι b).base + o, none⟩ l' (fun j v hv => by rw [addr_add]; exact g3 j v hv)
                        rw [← g2.1, g1] at hrun
                        simpa only [Builtin.firstCells] using hrun
                    obtain ⟨hol, old', ho, hor⟩ := hlo
                    obtain ⟨nc, ι', w', h1, h2, h3, h4, h5⟩ := append_grow (T := T) r ht ho hol hor hlen hf hxl hxr (by omega) hbig
                    exact ⟨_, ι', w', h1, h3, h4, new_slice (by simp [H.new]) h5 (.inr ⟨by omega, by omega⟩) (by unfold capK; rw [if_neg (by omega)]; omega) (Nat.le_refl _)⟩
                  | @sl0 _ _ _ ad hb hc0 =>
                    rw [if_pos rfl] at hold
                    cases hold
                    obtain ⟨nc, ι', w', h1, h2, h3, h4, h5⟩ := append_grow (T := T) (old := []) (old' := []) (base := some ad) (n := 0) (cap := 0) r ht (fun d => by simp only [Builtin.firstCells, Nat.zero_mul]; rfl) (by simp) .nil hlen hf hxl hxr (by omega) (by omega)
                    exact ⟨_, ι', w', h1, h3, h4, new_slice (by simp [H.new]) h5 (.inr ⟨by omega, by omega⟩) (by unfold capK; rw [if_neg (by omega)]; omega) (Nat.le_refl _)⟩
                · rename_i hcU
                  split at ha
                  · rename_i cs e2 hblk
                    split at ha
                    · rename_i hcc
                      obtain ⟨rfl, hfit, hsc⟩ := hcc
                      cases ha
                      have hfin : ∀ {ι' : Nat → Emb} {g lim nc : Nat}, ι' h.nx = ⟨g, 0, lim, i.size⟩ → n + k ≤ nc → nc * i.size ≤ lim →
                          VR ι' (h.nx + 1) (.slice (some ⟨h.nx, 0, none⟩) (n + k) (U + (n + k))) (.slice (some ⟨g, 0, none⟩) (n + k) nc) := by
                        intro ι' g lim nc h5 h2 h6
                        exact new_slice (h' := ⟨h.blk, h.nx + 1, 0⟩) (Nat.lt_succ_self _) h5 (.inr ⟨by omega, by omega⟩) (by unfold capK; rw [if_neg (by omega)]; omega) h6
                      obtain ⟨k1, k2⟩ := r.kill hblk rfl
                      have hdlen : ((cs.drop o).take (n * i.size)).length = n * i.size := by simp; omega
                      have hrd : h.rd b o (n * i.size) = some ((cs.drop o).take (n * i.size)) := by
                        simp only [H.rd, hblk]
                        rw [if_pos hfit]
                      obtain ⟨g1, l', g2, g3⟩ := r.rd hrd
                      cases hs with
                      | @sl _ _ _ _ c' hb hcap hkk hlim =>
                        have ho : ∀ d, (Builtin.firstCells i.size n (.slice (some ⟨(ι b).g, (ι b).base + o, none⟩) n c')).run P { w with drawn := d } = .ok l'.toArray { w with drawn := d } := by
                          intro d
                          have hrun := run_loadCells_list (P := P) { w with drawn := d } ⟨(ι b).g, (ι b).base + o, none⟩ l' (fun j v hv => by rw [addr_add]; exact g3 j v hv)
                          rw [← g2.1, g1] at hrun
                          simpa only [Builtin.firstCells] using hrun
                        by_cases hroom' : n + k ≤ c'
                        · -- in its place
                          exact append_here r hblk hfit hlim hroom' ht (fun T {_} hst => append_room (T := T) (base := some _) ht hlen hf0 hroom' hst) hxl hxr hsc
                        · obtain ⟨nc, ι', w', h1, h2, h3, h4, h5⟩ := append_grow (T := T) k2 ht ho hdlen g2 hlen hf hxl hxr hroom' hbig
                          exact ⟨_, ι', w', h1, k1.trans h3, h4, hfin h5 h2 (Nat.le_refl _)⟩
                      | @sl0 _ _ _ ad hb hc0 =>
                        obtain ⟨nc, ι', w', h1, h2, h3, h4, h5⟩ := append_grow (T := T) (old := []) (old' := []) (base := some ad) (n := 0) (cap := 0) k2 ht (fun d => by simp only [Builtin.firstCells, Nat.zero_mul]; rfl) (by simp) .nil hlen hf hxl hxr (by omega) (by omega)
                        simp only [Nat.zero_mul, List.take_zero] at *
                        exact ⟨_, ι', w', h1, k1.trans h3, h4, hfin h5 h2 (Nat.le_refl _)⟩
                    · cases ha
                  · cases ha
              · cases ha
        · cases ha
      · cases ha
    · cases ha
  · cases ha

end
end Go.AM
