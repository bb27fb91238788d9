/- Regions that draw their order: what each kind of operation does. -/
import Derived.Test.YthmfjfblndophaaAmDraw
namespace Go.AM

section
variable {P : Program} {E : Env} {rec : Rec}

theorem op_congr {t t2 : Array Value} {o : Oper} (h : H) (he : ∀ x ∈ o.op.operands, ev t x = ev t2 x) : op P E rec t o h = op P E rec t2 o h := by
  obtain ⟨dst, opn, type, pos, after, guard⟩ := o
  simp only at he
  have mapc : ∀ xs : Array Operand, (∀ x ∈ xs, ev t x = ev t2 x) → xs.map (ev t) = xs.map (ev t2) := fun xs hx => Array.map_congr_left hx
  have mapl : ∀ xs : List Operand, (∀ x ∈ xs, ev t x = ev t2 x) → xs.map (ev t) = xs.map (ev t2) := fun xs hx => List.map_congr_left hx
  have pairs : ∀ ps : List (Nat × Operand), (∀ p ∈ ps, ev t p.2 = ev t2 p.2) → (ps.map fun (i, x) => (i, ev t x)) = (ps.map fun (i, x) => (i, ev t2 x)) := fun ps hp =>
    List.map_congr_left fun p hm => by obtain ⟨i, x⟩ := p; simp only [hp (i, x) hm]
  have opt : ∀ q : Option Operand, (∀ x, q = some x → ev t x = ev t2 x) → q.map (ev t) = q.map (ev t2) := fun q hq => by
    cases q with
    | none => rfl
    | some x => simp only [Option.map_some, hq x rfl]
  unfold op
  simp only
  split
  · rfl
  · rename_i hneg
    clear hneg
    cases opn <;> simp only
    case move x => rw [he x (by simp [Op.operands])]
    case assign x => rw [he x (by simp [Op.operands])]
    case pick c x y => rw [he c (by simp [Op.operands]), he x (by simp [Op.operands]), he y (by simp [Op.operands])]
    case box e x => rw [he x (by simp [Op.operands])]
    case build T ps => rw [pairs _ (fun p hp => he p.2 (by simp only [Op.operands, List.mem_toArray, List.mem_map]; exact ⟨p, hp, rfl⟩))]
    case buildSlice T n ps => rw [pairs _ (fun p hp => he p.2 (by simp only [Op.operands, List.mem_toArray, List.mem_map]; exact ⟨p, hp, rfl⟩))]
    case load T x => rw [he x (by simp [Op.operands])]
    case store T x y => rw [he x (by simp [Op.operands]), he y (by simp [Op.operands])]
    case nilCheck x => rw [he x (by simp [Op.operands])]
    case binOp b T x y T2 => rw [he x (by simp [Op.operands]), he y (by simp [Op.operands])]
    case unOp b T x => rw [he x (by simp [Op.operands])]
    case convert s d x => rw [he x (by simp [Op.operands])]
    case makeFunc fn xs ys =>
      rw [mapc xs (fun x hx => he x (by simp only [Op.operands, Array.mem_append]; exact .inl hx)), mapc ys (fun x hx => he x (by simp only [Op.operands, Array.mem_append]; exact .inr hx))]
    case makeMap T rr => rw [opt rr (fun x hx => he x (by subst hx; simp [Op.operands]))]
    case makeSlice T l c => rw [he l (by simp [Op.operands]), he c (by simp [Op.operands])]
    case slice T x lo hi mx =>
      rw [he x (by simp [Op.operands]), opt lo (fun x hx => he x (by subst hx; simp [Op.operands])), opt hi (fun x hx => he x (by subst hx; simp [Op.operands])), opt mx (fun x hx => he x (by subst hx; simp [Op.operands]))]
    case fieldAddr s x f => rw [he x (by simp [Op.operands])]
    case field s x f => rw [he x (by simp [Op.operands])]
    case indexAddr s x i => rw [he x (by simp [Op.operands]), he i (by simp [Op.operands])]
    case index s x i => rw [he x (by simp [Op.operands]), he i (by simp [Op.operands])]
    case lookup T m k ok => rw [he m (by simp [Op.operands]), he k (by simp [Op.operands])]
    case mapUpdate T m k x => rw [he m (by simp [Op.operands]), he k (by simp [Op.operands]), he x (by simp [Op.operands])]
    case extract x i => rw [he x (by simp [Op.operands])]
    case call c =>
      obtain ⟨callee, args, argTypes⟩ := c
      cases callee with
      | invoke x m => rfl
      | builtin b =>
        simp only
        rw [mapl _ (fun x hx => he x (by simp only [Op.operands, Call.operands]; simpa using hx))]
      | value f =>
        simp only
        rw [he f (by simp [Op.operands, Call.operands]), mapc args (fun x hx => he x (by simp only [Op.operands, Call.operands]; simp [hx]))]

theorem len_pure {tys : List TypeId} {e : TypeId} (hd : (tys[0]?).bind P.underlying = some (.slice e)) {L : List Value} {h h' : H} {v : Value} (hb : builtin P .len tys L h = some (v, h')) :
    h' = h ∧ ∀ h2, builtin P .len tys L h2 = some (v, h2) := by
  rcases L with _ | ⟨x, _ | ⟨y, l⟩⟩
  · simp [builtin] at hb
  · cases x <;> simp only [builtin, hd, reduceCtorEq] at hb ⊢
    cases hb
    exact ⟨rfl, fun _ => rfl⟩
  · simp [builtin] at hb

theorem min_pure {tys : List TypeId} {L : List Value} {h h' : H} {v : Value} (hb : builtin P .min tys L h = some (v, h')) : h' = h ∧ ∀ h2, builtin P .min tys L h2 = some (v, h2) := by
  simp only [builtin] at hb ⊢
  obtain ⟨u, h1, h2⟩ := map_some hb
  cases h2
  exact ⟨rfl, fun h2 => by rw [h1]; rfl⟩

theorem max_pure {tys : List TypeId} {L : List Value} {h h' : H} {v : Value} (hb : builtin P .max tys L h = some (v, h')) : h' = h ∧ ∀ h2, builtin P .max tys L h2 = some (v, h2) := by
  simp only [builtin] at hb ⊢
  obtain ⟨u, h1, h2⟩ := map_some hb
  cases h2
  exact ⟨rfl, fun h2 => by rw [h1]; rfl⟩

/-- An operation that touches nothing answers the same over any heap. -/
theorem pure_op {t : Array Value} {o : Oper} {h h' : H} {v : Value} (hf : fp P t o = some .pure) (ho : op P E rec t o h = some (v, h')) : h' = h ∧ ∀ h2, op P E rec t o h2 = some (v, h2) := by
  obtain ⟨dst, opn, type, pos, after, guard⟩ := o
  have pm : ∀ {x : Option Value}, x.map (fun v => (v, h)) = some (v, h') → h' = h ∧ ∀ h2 : H, x.map (fun v => (v, h2)) = some (v, h2) := by
    intro x hx
    obtain ⟨_, h1, hb⟩ := map_some hx
    cases hb
    exact ⟨rfl, fun h2 => by rw [h1]; rfl⟩
  have atn : ∀ {st : Bool} {ty : TypeId} {a : Value} {q : FP}, (match a with
      | .pointer (some ⟨b, o, none⟩) => (size? P ty).bind fun n => if n = 0 then none else some (if st then FP.st b o n else .ld b o n)
      | _ => none) = some q → q ≠ .pure := by
    intro st ty a q hq
    split at hq
    · obtain ⟨n, _, hq⟩ := bind_some hq
      split at hq
      · cases hq
      · cases st <;> cases hq <;> simp
    · cases hq
  unfold op at ho ⊢
  simp only at ho ⊢
  split at ho
  · cases ho
  · rename_i hok
    simp only [hok, Bool.false_eq_true, if_false]
    cases opn <;> simp only [fp, reduceCtorEq, Option.some.injEq] at hf <;> simp only at ho ⊢ <;> try (exact pm ho; done)
    case move x => cases ho; exact ⟨rfl, fun _ => rfl⟩
    case assign x => cases ho; exact ⟨rfl, fun _ => rfl⟩
    case pick c x y =>
      split at ho
      · cases ho; exact ⟨rfl, fun _ => rfl⟩
      · cases ho; exact ⟨rfl, fun _ => rfl⟩
      · cases ho
    case load T x => exact absurd rfl (atn (st := false) hf)
    case lookup T m k ok => split at hf <;> cases hf
    case slice T x lo hi mx =>
      generalize ev t x = u at hf ho ⊢
      split at hf
      · cases hf
      · rename_i n c
        have hs : ∀ h2, slice P T (.slice none n c) (lo.map (ev t)) (hi.map (ev t)) (mx.map (ev t)) h2 = slice P T (.slice none n c) (lo.map (ev t)) (hi.map (ev t)) (mx.map (ev t)) h := by
          intro h2
          cases hu : P.underlying T with
          | none => simp only [slice, hu]
          | some d => cases d <;> first | (simp only [slice, hu]; done) | (cases n <;> cases c <;> simp only [slice, hu])
        obtain ⟨u, h1, h2⟩ := map_some ho
        cases h2
        exact ⟨rfl, fun h2 => by rw [hs h2, h1]; rfl⟩
      · cases hf
    case store T x y => exact absurd rfl (atn (st := true) hf)
    case nilCheck x =>
      split at ho
      · cases ho; exact ⟨rfl, fun _ => rfl⟩
      · cases ho; exact ⟨rfl, fun _ => rfl⟩
      · cases ho
    case makeFunc fn xs ys =>
      split at ho
      · cases ho; exact ⟨rfl, fun _ => rfl⟩
      · cases ho
    case extract x i =>
      split at ho
      · exact pm ho
      · cases ho
    case call c =>
      obtain ⟨callee, args, argTypes⟩ := c
      cases callee with
      | invoke x m => cases ho
      | value f => simp at hf
      | builtin b =>
        simp only at ho hf ⊢
        cases b <;> simp only [reduceCtorEq, Option.some.injEq] at hf
        case len =>
          split at hf
          · rename_i e hd
            exact len_pure (by rw [Array.getElem?_toList]; exact hd) ho
          · cases hf
        case min => exact min_pure ho
        case max => exact max_pure ho

/-- A load: where it looks. -/
theorem ld_op {t : Array Value} {o : Oper} {h h' : H} {v : Value} {b q n : Nat} (hf : fp P t o = some (.ld b q n)) (ho : op P E rec t o h = some (v, h')) :
    h' = h ∧ 0 < n ∧ (∃ i, i < n ∧ (h.cell b (q + i)).isSome = true) ∧ ∀ h2 : H, (∀ i, i < n → (h.cell b (q + i)).isSome = true → h2.cell b (q + i) = h.cell b (q + i)) → op P E rec t o h2 = some (v, h2) := by
  obtain ⟨dst, opn, type, pos, after, guard⟩ := o
  unfold op at ho ⊢
  simp only at ho ⊢
  split at ho
  · cases ho
  · rename_i hok
    simp only [hok, Bool.false_eq_true, if_false]
    cases opn <;> simp only [fp, reduceCtorEq, Option.some.injEq] at hf <;> simp only at ho ⊢
    case load T x =>
      generalize hx : ev t x = u at hf ho ⊢
      split at hf
      · rename_i bb qq
        obtain ⟨m, hm, hf1⟩ := bind_some hf
        clear hf
        split at hf1
        · cases hf1
        · rename_i hm0
          simp only [Option.some.injEq] at hf1
          have hf2 : FP.ld bb qq m = FP.ld b q n := hf1
          simp only [FP.ld.injEq] at hf2
          obtain ⟨rfl, rfl, rfl⟩ := hf2
          obtain ⟨u, h1, h2⟩ := map_some ho
          cases h2
          refine ⟨rfl, by omega, ?_⟩
          simp only [load] at h1 ⊢
          cases ha : aggT P T with
          | none => rw [ha] at h1; cases h1
          | some g =>
            rw [ha] at h1
            cases g with
            | true =>
              simp only [hm, Option.bind_some] at h1 ⊢
              obtain ⟨l, h3, h4⟩ := map_some h1
              unfold H.rd at h3
              split at h3
              · rename_i c e own hblk
                split at h3
                · rename_i hle
                  have hc : ∀ i, i < m → h.cell bb (qq + i) = some c[qq + i]! := fun i hi => by
                    simp only [H.cell, hblk]
                    rw [List.getElem?_eq_getElem (by omega), getElem!_pos c _ (by omega)]
                  refine ⟨⟨0, by omega, by rw [hc 0 (by omega)]; rfl⟩, fun h2 hs => ?_⟩
                  have hs' := fun i hi => hs i hi (by rw [hc i hi]; rfl)
                  have h0 := hs' (m - 1) (by omega)
                  rw [hc (m - 1) (by omega)] at h0
                  unfold H.cell at h0
                  split at h0
                  · rename_i c2 e2 own2 hblk2
                    have hlt := (List.getElem?_eq_some_iff.1 h0).1
                    have : h2.rd bb qq m = some l := by
                      simp only [H.rd, hblk2]
                      rw [if_pos (by omega), ← h3]
                      congr 1
                      apply List.ext_getElem?
                      intro i
                      by_cases hi : i < m
                      · rw [List.getElem?_take_of_lt hi, List.getElem?_take_of_lt hi, List.getElem?_drop, List.getElem?_drop]
                        have := hs' i hi
                        simp only [H.cell, hblk, hblk2] at this
                        exact this
                      · rw [List.getElem?_eq_none (by simp; omega), List.getElem?_eq_none (by simp; omega)]
                    rw [this]
                    simp only [Option.map_some, h4]
                  · cases h0
                · cases h3
              · cases h3
            | false =>
              simp only at h1 ⊢
              refine ⟨⟨0, by omega, by rw [Nat.add_zero, h1]; rfl⟩, fun h2 hs => ?_⟩
              have := hs 0 (by omega) (by rw [Nat.add_zero, h1]; rfl)
              rw [Nat.add_zero, h1] at this
              rw [this]
              rfl
      · cases hf
    case lookup T m k ok => split at hf <;> cases hf
    case slice T x lo hi mx => split at hf <;> cases hf
    case store T x y =>
      split at hf
      · obtain ⟨m, hm, hf⟩ := bind_some hf
        split at hf <;> simp at hf
      · cases hf
    case call c =>
      obtain ⟨callee, args, argTypes⟩ := c
      cases callee with
      | invoke x m => simp at hf
      | value f => simp at hf
      | builtin b =>
        simp only at hf
        cases b <;> simp only [reduceCtorEq, Option.some.injEq] at hf
        split at hf <;> cases hf

/-- An operation that looks at one block. -/
theorem rb_op {t : Array Value} {o : Oper} {h h' : H} {v : Value} {b : Nat} (hf : fp P t o = some (.rb b)) (ho : op P E rec t o h = some (v, h')) :
    h' = h ∧ ∀ h2 : H, h2.blk b = h.blk b → op P E rec t o h2 = some (v, h2) := by
  obtain ⟨dst, opn, type, pos, after, guard⟩ := o
  unfold op at ho ⊢
  simp only at ho ⊢
  split at ho
  · cases ho
  · rename_i hok
    simp only [hok, Bool.false_eq_true, if_false]
    cases opn <;> simp only [fp, reduceCtorEq, Option.some.injEq] at hf <;> simp only at ho ⊢
    case load T x =>
      split at hf
      · obtain ⟨m, hm, hf⟩ := bind_some hf
        split at hf <;> simp at hf
      · cases hf
    case lookup T m k ok =>
      generalize ev t m = u at hf ho ⊢
      split at hf
      · rename_i bb
        cases hf
        obtain ⟨u, h1, h2⟩ := map_some ho
        cases h2
        refine ⟨rfl, fun h2 he => ?_⟩
        have : lookup P T (.map (some b)) (ev t k) ok h2 = lookup P T (.map (some b)) (ev t k) ok h := by simp only [lookup, mapOf, he]
        rw [this, h1]; rfl
      · cases hf
    case slice T x lo hi mx =>
      generalize ev t x = u at hf ho ⊢
      split at hf
      · rename_i bb q n c
        cases hf
        obtain ⟨u, h1, h2⟩ := map_some ho
        cases h2
        refine ⟨rfl, fun h2 he => ?_⟩
        have : slice P T (.slice (some ⟨b, q, none⟩) n c) (lo.map (ev t)) (hi.map (ev t)) (mx.map (ev t)) h2 = slice P T (.slice (some ⟨b, q, none⟩) n c) (lo.map (ev t)) (hi.map (ev t)) (mx.map (ev t)) h := by
          cases hu : P.underlying T with
          | none => simp only [slice, hu]
          | some d => cases d <;> simp only [slice, hu, he]
        rw [this, h1]; rfl
      · cases hf
      · cases hf
    case store T x y =>
      split at hf
      · obtain ⟨m, hm, hf⟩ := bind_some hf
        split at hf <;> simp at hf
      · cases hf
    case call c =>
      obtain ⟨callee, args, argTypes⟩ := c
      cases callee with
      | invoke x m => simp at hf
      | value f => simp at hf
      | builtin b =>
        simp only at hf
        cases b <;> simp only [reduceCtorEq, Option.some.injEq] at hf
        split at hf <;> cases hf

theorem rd_op {t : Array Value} {o : Oper} {h h' : H} {v : Value} (hf : fp P t o = some .rd) (ho : op P E rec t o h = some (v, h')) : h' = h := by
  obtain ⟨dst, opn, type, pos, after, guard⟩ := o
  have pm : ∀ {x : Option Value}, x.map (fun v => (v, h)) = some (v, h') → h' = h := by
    intro x hx
    obtain ⟨_, h1, hb⟩ := map_some hx
    cases hb
    rfl
  unfold op at ho
  simp only at ho
  split at ho
  · cases ho
  · rename_i hneg
    clear hneg
    cases opn <;> simp only [fp, reduceCtorEq, Option.some.injEq] at hf <;> simp only at ho <;> try (exact pm ho; done)
    case store T x y =>
      split at hf
      · obtain ⟨m, hm, hf⟩ := bind_some hf
        split at hf <;> simp at hf
      · cases hf
    case call c =>
      obtain ⟨callee, args, argTypes⟩ := c
      cases callee with
      | invoke x m => cases ho
      | value f => simp at hf
      | builtin b =>
        simp only at ho hf
        cases b <;> simp only [reduceCtorEq, Option.some.injEq] at hf
        generalize List.map (ev t) args.toList = L at ho
        rcases L with _ | ⟨x, _ | ⟨y, l⟩⟩
        · simp [builtin] at ho
        · simp only [builtin] at ho
          split at ho
          · cases ho; rfl
          · cases ho; rfl
          · split at ho
            · cases ho; rfl
            · cases ho
          · cases ho
        · simp [builtin] at ho

theorem setAt_other (vs : List Value) : ∀ (c : List Value) (o i : Nat), (i < o ∨ o + vs.length ≤ i) → (setAt c o vs)[i]? = c[i]? := by
  induction vs with
  | nil => intro c o i _; rfl
  | cons v vs ih =>
    intro c o i hi
    simp only [setAt]
    simp only [List.length_cons] at hi
    rw [ih (c.set o v) (o + 1) i (by omega), List.getElem?_set_ne (by omega)]

/-- A store: the cells that it leaves. -/
theorem st_op {t : Array Value} {o : Oper} {h h' : H} {v : Value} {b q n : Nat} (hf : fp P t o = some (.st b q n)) (ho : op P E rec t o h = some (v, h')) :
    ∀ b2 q2, (b2 ≠ b ∨ q2 < q ∨ q + n ≤ q2) → h'.cell b2 q2 = h.cell b2 q2 := by
  obtain ⟨dst, opn, type, pos, after, guard⟩ := o
  unfold op at ho
  simp only at ho
  split at ho
  · cases ho
  · rename_i hneg
    clear hneg
    cases opn <;> simp only [fp, reduceCtorEq, Option.some.injEq] at hf <;> simp only at ho
    case lookup T m k ok => split at hf <;> cases hf
    case slice T x lo hi mx => split at hf <;> cases hf
    case load T x =>
      split at hf
      · obtain ⟨m, hm, hf⟩ := bind_some hf
        split at hf <;> simp at hf
      · cases hf
    case store T x y =>
      obtain ⟨h1, hs, he⟩ := map_some ho
      cases he
      generalize ev t x = u at hf hs
      split at hf
      · rename_i bb qq
        obtain ⟨m, hm, hf1⟩ := bind_some hf
        clear hf
        split at hf1
        · cases hf1
        · simp only [Option.some.injEq] at hf1
          have hf2 : FP.st bb qq m = FP.st b q n := hf1
          simp only [FP.st.injEq] at hf2
          obtain ⟨rfl, rfl, rfl⟩ := hf2
          simp only [store] at hs
          split at hs
          · rename_i c e hblk
            split at hs
            · rename_i hc
              simp only [Option.some.injEq] at hs
              subst hs
              intro b2 q2 hd
              simp only [H.cell, H.set]
              by_cases hb : b2 = bb
              · subst hb
                simp only [if_true, hblk]
                refine setAt_other _ _ _ _ ?_
                rw [hm] at hc
                have : m = (ev t y).cells.size := Option.some.inj hc.1
                simp only [Array.length_toList]
                omega
              · rw [if_neg hb]
            · cases hs
          · cases hs
      · cases hf
    case call c =>
      obtain ⟨callee, args, argTypes⟩ := c
      cases callee with
      | invoke x m => simp at hf
      | value f => simp at hf
      | builtin b =>
        simp only at hf
        cases b <;> simp only [reduceCtorEq, Option.some.injEq] at hf
        split at hf <;> cases hf

end
end Go.AM
