/- An operation: what the abstract machine answers, the machine comes to. -/
import Derived.Test.YthmfjfblndophaaAmOp
namespace Go.AM

section
variable {P : Program} {E : Env} {ι : Nat → Emb} {h : H} {w : World}

theorem ev_rel (r : Rel P E ι h w) {t : Array Value} {a : Act} (ht : AR ι h.nx t a.tmps) {x : Operand} (hx : okOperand E x = true) : VR ι h.nx (ev t x) (a.eval x) := by
  cases x with
  | tmp i =>
    simp only [ev, Act.eval, Array.getD_eq_getD_getElem?]
    cases hi : t[i]? with
    | none =>
      have : a.tmps[i]? = none := by
        rw [Array.getElem?_eq_none_iff] at hi ⊢
        have := ht.1
        omega
      rw [this]
      exact .undef
    | some v =>
      obtain ⟨v', h1, h2⟩ := ht.get hi
      rw [h1]
      exact h2
  | const v => exact closedV_rel 5 v hx
  | global g =>
    have hg : g < E.NG := of_decide_eq_true hx
    obtain ⟨h1, h2⟩ := r.glob g hg
    have := VR.ptr (ι := ι) (n := h.nx) (b := g) (o := 0) (Nat.lt_of_lt_of_le hg r.ng)
    rw [h1, h2] at this
    exact this
  | func f => exact .func rfl rfl (fun i v v' hv => by simp at hv) (fun i v v' hv => by simp at hv)

theorem evs_rel {l : List Operand} {e e' : Operand → Value} {n : Nat} (he : ∀ x ∈ l, VR ι n (e x) (e' x)) : LR ι n (l.map e) (l.map e') := LR.map e e' l he

theorem evs_rel' {l : Array Operand} {e e' : Operand → Value} {n : Nat} (he : ∀ x ∈ l, VR ι n (e x) (e' x)) : AR ι n (l.map e) (l.map e') := by
  have := (LR.map e e' l.toList (fun x hx => he x (by simpa using hx))).toArray
  have e1 : ∀ f : Operand → Value, (l.toList.map f).toArray = l.map f := fun f => by apply Array.ext'; simp
  rw [e1, e1] at this
  exact this

theorem AR.append {n : Nat} {a a' b b' : Array Value} (p : AR ι n a a') (q : AR ι n b b') : AR ι n (a ++ b) (a' ++ b') := by
  have := (p.toList.append q.toList).toArray
  have e1 : ∀ x y : Array Value, (x.toList ++ y.toList).toArray = x ++ y := fun x y => by apply Array.ext'; simp
  rw [e1, e1] at this
  exact this

theorem minmax_fold {n : Nat} (mx : Bool) (w : World) : ∀ (l l' : List Value) (x x' v : Value), LR ι n l l' → VR ι n x x' →
    l.foldlM (fun a b =>
      match a, b with
      | .int k p, .int _ q => some (if mx then .int k (if p < q then q else p) else .int k (if q < p then q else p))
      | _, _ => none) x = some v → ∃ v', (l'.foldlM (if mx then Builtin.max2 else Builtin.min2) x' : Sem Value).run P w = .ok v' w ∧ VR ι n v v' := by
  intro l
  induction l with
  | nil =>
    intro l' x x' v hl hx hm
    cases l' with
    | nil =>
      simp only [List.foldlM_nil] at hm
      cases hm
      exact ⟨x', rfl, hx⟩
    | cons a b => exact absurd hl.1 (by simp)
  | cons y l ih =>
    intro l' x x' v hl hx hm
    obtain ⟨y', l', rfl, hy, hl⟩ := hl.uncons
    simp only [List.foldlM_cons] at hm ⊢
    obtain ⟨z, hz, hm⟩ := bind_some hm
    have hzz : ∃ z', ((if mx then Builtin.max2 else Builtin.min2) x' y').run P w = .ok z' w ∧ VR ι n z z' := by
      split at hz
      · cases hx; cases hy
        cases hz
        cases mx
        · refine ⟨_, rfl, ?_⟩
          exact .int _ _
        · refine ⟨_, rfl, ?_⟩
          exact .int _ _
      · cases hz
    obtain ⟨z', hz1, hz2⟩ := hzz
    simp only [Sem.run_bind, hz1, Result.andThen_ok]
    exact ih l' z z' v hl hz2 hm

theorem minmax_run {n : Nat} (mx : Bool) (w : World) {l l' : List Value} {v : Value} (hl : LR ι n l l') (hm : minmax mx l = some v) :
    ∃ v', ((match l' with | [] => stuck "x" | x :: rest => rest.foldlM (if mx then Builtin.max2 else Builtin.min2) x : Sem Value)).run P w = .ok v' w ∧ VR ι n v v' := by
  cases l with
  | nil => cases hm
  | cons x l =>
    obtain ⟨x', l', rfl, hx, hl⟩ := hl.uncons
    exact minmax_fold mx w l l' x x' v hl hx hm

theorem builtin_wp (r : Rel P E ι h w) {b : Builtin} {tys : Array TypeId} {T : TypeId} {args : List Value} {args' : Array Value} (hargs : LR ι h.nx args args'.toList) {v : Value} {h' : H}
    (hb : builtin P b tys.toList args h = some (v, h')) :
    ∃ v' ι' w', (∀ cs, (Go.builtin b tys T cs args').run P w = .ok (.value v') w') ∧ Tr ι h w ι' h' w' ∧ Rel P E ι' h' w' ∧ VR ι' h'.nx v v' := by
  unfold builtin at hb
  split at hb
  · obtain ⟨s', u, e1, hs, hu⟩ := hargs.uncons
    obtain ⟨x', u2, rfl, hx, hu2⟩ := hu.uncons
    have : u2 = [] := List.length_eq_zero_iff.1 (by have := hu2.1; simpa using this.symm)
    subst this
    have e2 : args' = #[s', x'] := by apply Array.ext'; simpa using e1
    subst e2
    obtain ⟨v', ι', w', h1, h2, h3, h4⟩ := append_run (T := T) r hs hx hb
    exact ⟨v', ι', w', fun cs => by simp only [Go.builtin, Sem.run_bind, h1, Result.andThen_ok, Sem.run_pure], h2, h3, h4⟩
  · obtain ⟨x', u, e1, hx, hu⟩ := hargs.uncons
    have : u = [] := List.length_eq_zero_iff.1 (by have := hu.1; simpa using this.symm)
    subst this
    have e2 : args' = #[x'] := by apply Array.ext'; simpa using e1
    subst e2
    have ty : ∀ d, (tys.toList[0]?).bind P.underlying = some d → ∃ t, tys[0]? = some t ∧ P.underlying t = some d := by
      intro d hd
      obtain ⟨t, h1, h2⟩ := bind_some hd
      exact ⟨t, by rw [← Array.getElem?_toList]; exact h1, h2⟩
    split at hb
    · rename_i hd
      obtain ⟨t, h1, h2⟩ := ty _ hd
      cases hb
      refine ⟨.int .i64 _, ι, w, fun cs => ?_, .refl _ _ _, r, .int _ _⟩
      cases hx <;> simp [Go.builtin, Builtin.len_, h1, run_underlying h2, goInt]
    · rename_i hd
      obtain ⟨t, h1, h2⟩ := ty _ hd
      cases hb
      refine ⟨.int .i64 0, ι, w, fun cs => ?_, .refl _ _ _, r, .int _ _⟩
      cases hx
      simp [Go.builtin, Builtin.len_, h1, run_underlying h2, goInt]
    · rename_i bb hd
      obtain ⟨t, h1, h2⟩ := ty _ hd
      split at hb
      · rename_i es c hblk
        cases hb
        cases hx
        obtain ⟨es', g1, g2, g3⟩ := r.blk _ _ hblk
        refine ⟨.int .i64 es.length, ι, w, fun cs => ?_, .refl _ _ _, r, .int _ _⟩
        simp [Go.builtin, Builtin.len_, h1, run_underlying h2, goInt, run_getObj g1, g2]
      · cases hb
    · cases hb
  · obtain ⟨m, hm, hb⟩ := map_some hb
    cases hb
    obtain ⟨v', h1, h2⟩ := minmax_run (P := P) false w hargs hm
    refine ⟨v', ι, w, fun cs => ?_, .refl _ _ _, r, h2⟩
    simp only [Go.builtin, Builtin.min_, Sem.run_bind]
    cases hl : args'.toList with
    | nil => rw [hl] at h1; cases h1
    | cons a b =>
      rw [hl] at h1
      simp only [Bool.false_eq_true, if_false] at h1
      simp only [h1, Result.andThen_ok, Sem.run_pure]
  · obtain ⟨m, hm, hb⟩ := map_some hb
    cases hb
    obtain ⟨v', h1, h2⟩ := minmax_run (P := P) true w hargs hm
    refine ⟨v', ι, w, fun cs => ?_, .refl _ _ _, r, h2⟩
    simp only [Go.builtin, Builtin.max_, Sem.run_bind]
    cases hl : args'.toList with
    | nil => rw [hl] at h1; cases h1
    | cons a b =>
      rw [hl] at h1
      simp only [if_true] at h1
      simp only [h1, Result.andThen_ok, Sem.run_pure]
  · cases hb

theorem op_wp {rec : Rec} (hrec : SoundR P E rec) {t : Array Value} {o : Oper} {h' : H} {v : Value} (ho : op P E rec t o h = some (v, h')) {a : Act} {K : Act → World → Prop} {Q : Exit → Act → World → Prop}
    (r : Rel P E ι h w) (ht : AR ι h.nx t a.tmps) (hK : ∀ v' ι' w', Tr ι h w ι' h' w' → Rel P E ι' h' w' → VR ι' h'.nx v v' → K (a.put o.dst v') w') : o.wp P a w K Q := by
  obtain ⟨dst, opn, type, pos, after, guard⟩ := o
  simp only at hK
  unfold op at ho
  simp only at ho
  split at ho
  · cases ho
  rename_i hok
  have hall : ∀ x ∈ opn.operands, VR ι h.nx (ev t x) (a.eval x) := by
    intro x hx
    simp only [Bool.not_eq_true', Bool.not_eq_false, List.all_eq_true] at hok
    exact ev_rel r ht (hok x (by simpa using hx))
  clear hok
  -- three ways to end
  have val : ∀ (s : Sem Value), execOp a.eval ⟨dst, opn, type, pos, after, guard⟩ = (do pure (Next.value (← s))) → ∀ v' ι' w', s.run P w = .ok v' w' → Tr ι h w ι' h' w' → Rel P E ι' h' w' → VR ι' h'.nx v v' →
      Oper.wp P ⟨dst, opn, type, pos, after, guard⟩ a w K Q := by
    intro s hs v' ι' w' hr h1 h2 h3
    unfold Oper.wp
    rw [hs]
    simp only [Sem.run_bind, hr, Result.andThen_ok, Sem.run_pure, Oper.upon_value]
    exact hK v' ι' w' h1 h2 h3
  have same : ∀ (s : Sem Value), execOp a.eval ⟨dst, opn, type, pos, after, guard⟩ = (do pure (Next.value (← s))) → h = h' → ∀ v', s.run P w = .ok v' w → VR ι h.nx v v' →
      Oper.wp P ⟨dst, opn, type, pos, after, guard⟩ a w K Q := by
    intro s hs hh v' hr h3
    subst hh
    exact val s hs v' ι w hr (.refl _ _ _) r h3
  have now : ∀ v', execOp a.eval ⟨dst, opn, type, pos, after, guard⟩ = pure (Next.value v') → h = h' → VR ι h.nx v v' → Oper.wp P ⟨dst, opn, type, pos, after, guard⟩ a w K Q := by
    intro v' hs hh h3
    exact same (pure v') (by rw [hs]; rfl) hh v' rfl h3
  have unit : ∀ (s : Sem Unit), execOp a.eval ⟨dst, opn, type, pos, after, guard⟩ = (do s; pure Next.skip) → v = undef → ∀ ι' w', s.run P w = .ok () w' → Tr ι h w ι' h' w' → Rel P E ι' h' w' →
      Oper.wp P ⟨dst, opn, type, pos, after, guard⟩ a w K Q := by
    intro s hs hv ι' w' hr h1 h2
    unfold Oper.wp
    rw [hs]
    simp only [Sem.run_bind, hr, Result.andThen_ok, Sem.run_pure, Oper.upon_skip]
    exact hK _ ι' w' h1 h2 (by rw [hv]; exact .undef)
  have pureM : ∀ {x : Option Value}, x.map (fun v => (v, h)) = some (v, h') → x = some v ∧ h = h' := by
    intro x hx
    obtain ⟨_, h1, hb⟩ := map_some hx
    cases hb
    exact ⟨h1, rfl⟩
  cases opn <;> simp only at ho <;> try (cases ho; done)
  case move x => cases ho; exact now _ rfl rfl (hall x (by simp [Op.operands]))
  case assign x => cases ho; exact now _ rfl rfl (hall x (by simp [Op.operands]))
  case pick c x y =>
    have hc := hall c (by simp [Op.operands])
    split at ho
    · rename_i hcv
      cases ho
      rw [hcv] at hc
      generalize hce : a.eval c = u at hc
      cases hc
      exact same (do pure (if ← asBool (a.eval c) then a.eval x else a.eval y)) (by simp only [execOp]; rw [bind_assoc]; rfl) rfl _ (by simp only [hce, asBool, Sem.run_bind, Sem.run_pure, Result.andThen_ok, if_true]) (hall x (by simp [Op.operands]))
    · rename_i hcv
      cases ho
      rw [hcv] at hc
      generalize hce : a.eval c = u at hc
      cases hc
      exact same (do pure (if ← asBool (a.eval c) then a.eval x else a.eval y)) (by simp only [execOp]; rw [bind_assoc]; rfl) rfl _ (by simp only [hce, asBool, Sem.run_bind, Sem.run_pure, Result.andThen_ok]; rfl) (hall y (by simp [Op.operands]))
    · cases ho
  case alloc e =>
    obtain ⟨v', ι', w', h1, h2, h3, h4⟩ := alloc_run r ho
    exact val _ rfl v' ι' w' h1 h2 h3 h4
  case box e x =>
    obtain ⟨v', ι', w', h1, h2, h3, h4⟩ := box_run r (hall x (by simp [Op.operands])) ho
    exact val _ rfl v' ι' w' h1 h2 h3 h4
  case build T ps =>
    obtain ⟨h1, h2⟩ := pureM ho
    obtain ⟨v', h3, h4⟩ := build_run w ps.toList (ev t) a.eval (fun p hp => hall p.2 (by simp only [Op.operands, List.mem_toArray, List.mem_map]; exact ⟨p, hp, rfl⟩)) h1
    refine same _ rfl h2 v' ?_ h4
    rw [← h3]
    congr 2
    apply Array.ext'
    simp
  case buildSlice T n ps =>
    obtain ⟨v', ι', w', h1, h2, h3, h4⟩ := buildSlice_run r ps.toList (ev t) a.eval (fun p hp => hall p.2 (by simp only [Op.operands, List.mem_toArray, List.mem_map]; exact ⟨p, hp, rfl⟩)) ho
    refine val _ rfl v' ι' w' ?_ h2 h3 h4
    rw [← h1]
    congr 2
    apply Array.ext'
    simp
  case load T x =>
    obtain ⟨h1, h2⟩ := pureM ho
    obtain ⟨v', h3, h4⟩ := load_run r (hall x (by simp [Op.operands])) h1
    exact same _ rfl h2 v' h3 h4
  case store T x y =>
    obtain ⟨h1, hs, he⟩ := map_some ho
    cases he
    obtain ⟨w', h2, h3, h4⟩ := store_run r (hall x (by simp [Op.operands])) (hall y (by simp [Op.operands])) hs
    exact unit _ rfl rfl ι w' h2 h3 h4
  case nilCheck x =>
    have hx := hall x (by simp [Op.operands])
    split at ho
    · rename_i hv
      cases ho
      rw [hv] at hx
      generalize hce : a.eval x = u at hx
      cases hx
      exact now _ (by simp only [execOp, hce]) rfl (.ptr (by assumption))
    · rename_i hv
      cases ho
      rw [hv] at hx
      generalize hce : a.eval x = u at hx
      cases hx with
      | @func _ _ xs' _ ys' g1 g2 g3 g4 => exact now (.func (.func _) xs' ys') (by simp only [execOp, hce]) rfl (.func g1 g2 g3 g4)
    · cases ho
  case binOp b T x y T2 =>
    obtain ⟨h1, h2⟩ := pureM ho
    have hx := hall x (by simp [Op.operands])
    have hy := hall y (by simp [Op.operands])
    obtain ⟨v', h3, h4⟩ := binOp_run w h1 hx hy
    refine same _ rfl h2 v' ?_ h4
    simp only [Sem.run_bind, eqGuard_run w h1 hx hy x y, Result.andThen_ok, h3]
  case unOp b T x =>
    obtain ⟨h1, h2⟩ := pureM ho
    obtain ⟨v', h3, h4⟩ := unOp_run (P := P) (hall x (by simp [Op.operands])) h1 w
    exact same _ rfl h2 v' h3 h4
  case convert s d x =>
    obtain ⟨h1, h2⟩ := pureM ho
    obtain ⟨v', h3, h4⟩ := convert_run (P := P) (hall x (by simp [Op.operands])) h1 w
    exact same _ rfl h2 v' h3 h4
  case makeFunc fn xs ys =>
    split at ho
    · cases ho
      refine now (.func (.func _) (xs.map a.eval) (ys.map a.eval)) rfl rfl ?_
      have g1 := evs_rel' (ι := ι) (l := xs) (e := ev t) (e' := a.eval) (n := h.nx) (fun x hx => hall x (by simp only [Op.operands, Array.mem_append]; exact .inl hx))
      have g2 := evs_rel' (ι := ι) (l := ys) (e := ev t) (e' := a.eval) (n := h.nx) (fun x hx => hall x (by simp only [Op.operands, Array.mem_append]; exact .inr hx))
      exact .func g1.1 g2.1 g1.2 g2.2
    · cases ho
  case makeMap T rr =>
    cases rr with
    | some x => cases ho
    | none =>
      obtain ⟨v', ι', w', h1, h2, h3, h4⟩ := makeMap_run (t := T) r ho
      exact val _ rfl v' ι' w' h1 h2 h3 h4
  case makeSlice T l c =>
    obtain ⟨v', ι', w', h1, h2, h3, h4⟩ := makeSlice_run r (hall l (by simp [Op.operands])) (hall c (by simp [Op.operands])) ho
    exact val _ rfl v' ι' w' h1 h2 h3 h4
  case slice T x lo hi mx =>
    obtain ⟨h1, h2⟩ := pureM ho
    have e : ∀ {q : Option Operand} {y d m : Nat}, (∀ z, q = some z → z ∈ (Op.slice T x lo hi mx).operands) → bound (q.map (ev t)) y d = some m → q.map a.eval = q.map (ev t) :=
      fun hq hb => bound_same (fun z hz => hall z (hq z hz)) hb
    have hx := hall x (by simp [Op.operands])
    have eqs : lo.map a.eval = lo.map (ev t) ∧ hi.map a.eval = hi.map (ev t) ∧ mx.map a.eval = mx.map (ev t) := by
      have m1 : ∀ z, lo = some z → z ∈ (Op.slice T x lo hi mx).operands := fun z hz => by subst hz; simp [Op.operands]
      have m2 : ∀ z, hi = some z → z ∈ (Op.slice T x lo hi mx).operands := fun z hz => by subst hz; simp [Op.operands]
      have m3 : ∀ z, mx = some z → z ∈ (Op.slice T x lo hi mx).operands := fun z hz => by subst hz; simp [Op.operands]
      have h1' := h1
      unfold slice at h1'
      split at h1'
      · obtain ⟨_, _, q⟩ := bind_some h1'
        obtain ⟨_, b3, q⟩ := bind_some q
        obtain ⟨_, b2, q⟩ := bind_some q
        obtain ⟨_, b1, q⟩ := bind_some q
        exact ⟨e m1 b1, e m2 b2, e m3 b3⟩
      · split at h1'
        · split at h1'
          · obtain ⟨_, _, q⟩ := bind_some h1'
            obtain ⟨_, b3, q⟩ := bind_some q
            obtain ⟨_, b2, q⟩ := bind_some q
            obtain ⟨_, b1, q⟩ := bind_some q
            exact ⟨e m1 b1, e m2 b2, e m3 b3⟩
          · cases h1'
        · cases h1'
      · cases h1'
    obtain ⟨v', h3, h4⟩ := slice_run r hx h1
    refine same _ rfl h2 v' ?_ h4
    rw [eqs.1, eqs.2.1, eqs.2.2]
    exact h3
  case fieldAddr s x f =>
    obtain ⟨h1, h2⟩ := pureM ho
    obtain ⟨v', h3, h4⟩ := fieldAddr_run (P := P) (hall x (by simp [Op.operands])) h1 w
    exact same _ rfl h2 v' h3 h4
  case field s x f =>
    obtain ⟨h1, h2⟩ := pureM ho
    obtain ⟨v', h3, h4⟩ := field_run (P := P) (hall x (by simp [Op.operands])) h1 w
    exact same _ rfl h2 v' h3 h4
  case indexAddr s x i =>
    obtain ⟨h1, h2⟩ := pureM ho
    obtain ⟨v', h3, h4⟩ := indexAddr_run (P := P) (hall x (by simp [Op.operands])) (hall i (by simp [Op.operands])) h1 w
    exact same _ rfl h2 v' h3 h4
  case index s x i =>
    obtain ⟨h1, h2⟩ := pureM ho
    obtain ⟨v', h3, h4⟩ := index_run (P := P) (hall x (by simp [Op.operands])) (hall i (by simp [Op.operands])) h1 w
    exact same _ rfl h2 v' h3 h4
  case lookup T m k ok =>
    obtain ⟨h1, h2⟩ := pureM ho
    obtain ⟨v', h3, h4⟩ := lookup_run r (hall m (by simp [Op.operands])) (hall k (by simp [Op.operands])) h1
    exact same _ rfl h2 v' h3 h4
  case mapUpdate T m k x =>
    obtain ⟨h1, hs, he⟩ := map_some ho
    cases he
    obtain ⟨w', h2, h3, h4⟩ := mapUpdate_run r (hall m (by simp [Op.operands])) (hall k (by simp [Op.operands])) (hall x (by simp [Op.operands])) hs
    exact unit _ rfl rfl ι w' h2 h3 h4
  case extract x i =>
    have hx := hall x (by simp [Op.operands])
    split at ho
    · rename_i vs hv
      obtain ⟨h1, h2⟩ := pureM ho
      rw [hv] at hx
      generalize hce : a.eval x = u at hx
      cases hx with
      | tuple g1 g2 =>
        obtain ⟨v', h3, h4⟩ := AR.get (ι := ι) (n := h.nx) ⟨g1, g2⟩ h1
        exact same _ rfl h2 v' (by simp only [hce, Instr.extract, h3, Sem.run_pure]) h4
    · cases ho
  case call c =>
    obtain ⟨callee, args, argTypes⟩ := c
    cases callee with
    | invoke x m => cases ho
    | builtin b =>
      simp only at ho
      have hargs : LR ι h.nx (args.toList.map (ev t)) (args.map a.eval).toList := by
        rw [Array.toList_map]
        exact evs_rel (fun x hx => hall x (by simp only [Op.operands, Call.operands]; simpa using hx))
      obtain ⟨v', ι', w', h1, h2, h3, h4⟩ := builtin_wp (T := type) r hargs ho
      unfold Oper.wp
      simp only [execOp, resolve, Sem.run_bind, Sem.run_pure, Result.andThen_ok, invoke, h1, Oper.upon_value]
      exact hK v' ι' w' h2 h3 h4
    | value f =>
      simp only at ho
      have hf := hall f (by simp [Op.operands, Call.operands])
      unfold callV at ho
      split at ho
      · rename_i g xs ys hv
        rw [hv] at hf
        generalize hce : a.eval f = u at hf
        cases hf with
        | @func _ _ xs' _ ys' g1 g2 g3 g4 =>
          have hargs : AR ι h.nx (xs ++ args.map (ev t) ++ ys) (xs' ++ args.map a.eval ++ ys') :=
            (AR.append ⟨g1, g3⟩ (evs_rel' (fun x hx => hall x (by simp only [Op.operands, Call.operands]; simp [hx])))).append ⟨g2, g4⟩
          obtain ⟨fn, c, f1, f2, f3⟩ := hrec.fn _ _ _ _ _ ho
          have hcalls := hrec.calls _ _ _ _ _ ho ι w _ r hargs
          unfold Oper.wp
          have hex : (execOp a.eval ⟨dst, .call ⟨.value f, args, argTypes⟩, type, pos, after, guard⟩).run P w = .ok (.enter g (xs' ++ args.map a.eval ++ ys')) w := by
            simp only [execOp, resolve, hce, Deferred.ofValue, Sem.run_bind, Sem.run_pure, Result.andThen_ok, invoke, callFunc, run_program, f1]
            rw [if_neg (by simpa using f3)]
            rw [if_neg (by simp [f2])]
            rfl
          rw [hex, Oper.upon_enter]
          refine hcalls.mono fun e w' he => ?_
          obtain ⟨v', ι', rfl, h2, h3, h4⟩ := he
          exact hK v' ι' w' h2 h3 h4
      · cases ho

end
end Go.AM
