/- Parts of the proof, put together: the abstract machine, what the functions of the program answer, and plain laws. -/
import Derived.Tactics
import Derived.LoopN
import Derived.Test.YtphchobmencipaaDoorWx1

section
namespace Go.AM
section
variable {P : Program} {E : Env}
theorem yielded_rel {ι : Nat → Emb} {n : Nat} {t t' : Array Value} (ht : AR ι n t t') (all : Array Oper) (j : Nat) : yielded all t j = yielded all t' j := by
  unfold yielded
  cases hd : (all[j]?).bind (·.dst) with
  | none => rfl
  | some d =>
    simp only [Option.bind_some]
    cases hv : t[d]? with
    | none =>
      have : t'[d]? = none := by
        rw [Array.getElem?_eq_none_iff] at hv ⊢
        have := ht.1
        omega
      rw [this]
    | some v =>
      obtain ⟨v', h1, h2⟩ := ht.get hv
      rw [h1]
      cases h2 <;> rfl
theorem wanted_rel {ι : Nat → Emb} {n : Nat} {t t' : Array Value} (ht : AR ι n t t') (all : Array Oper) (o : Oper) : Region.wanted o (yielded all t) = Region.wanted o (yielded all t') := by
  have : yielded all t = yielded all t' := funext fun j => yielded_rel ht all j
  rw [this]
theorem put_rel {ι : Nat → Emb} {n : Nat} {t : Array Value} {a : Act} (ht : AR ι n t a.tmps) (d : Option Tmp) {v v' : Value} (hv : VR ι n v v') : AR ι n (put t d v) (a.put d v').tmps := by
  cases d with
  | none => exact ht
  | some d =>
    refine ⟨by simp [put, Act.put, ht.1], fun i x x' hx hx' => ?_⟩
    simp only [put] at hx
    simp only [Act.put] at hx'
    rw [Array.getElem?_setIfInBounds] at hx hx'
    by_cases hi : d = i
    · rw [if_pos hi] at hx hx'
      split at hx
      · split at hx'
        · cases hx; cases hx'; exact hv
        · cases hx'
      · cases hx
    · rw [if_neg hi] at hx hx'
      exact ht.2 i x x' hx hx'
theorem put_defers (a : Act) (d : Option Tmp) (v : Value) : (a.put d v).defers = a.defers := by cases d <;> rfl
/-- All that a value shows lies below a bound. -/
def Lo (n : Nat) (v : Value) : Prop := ∀ ι m v', VR ι m v v' → VR ι n v v'
theorem VR.lo {ι : Nat → Emb} {n : Nat} {v v0 : Value} (h : VR ι n v v0) : Lo n v := by
  induction h with
  | bool b => intro ι m v' q; cases q; exact .bool _
  | int k x => intro ι m v' q; cases q; exact .int _ _
  | any k x => intro ι m v' q; cases q; exact .any _ _
  | string s => intro ι m v' q; cases q; exact .string _
  | ptrNil => intro ι m v' q; cases q; exact .ptrNil
  | ptr hb => intro ι m v' q; cases q; exact .ptr hb
  | slNil => intro ι m v' q; cases q; exact .slNil
  | sl hb hc hk hl =>
    intro ι m v' q
    cases q with
    | sl hb' hc' hk' hl' => exact .sl hb hc' hk' hl'
    | sl0 hb' hc' => exact .sl0 hb hc'
  | sl0 hb hc =>
    intro ι m v' q
    cases q with
    | sl hb' hc' hk' hl' => exact .sl hb hc' hk' hl'
    | sl0 hb' hc' => exact .sl0 hb hc'
  | mapNil => intro ι m v' q; cases q; exact .mapNil
  | map hb => intro ι m v' q; cases q; exact .map hb
  | nilFunc => intro ι m v' q; cases q; exact .nilFunc
  | @func f xs xs' ys ys' h1 h2 _ _ i3 i4 =>
    intro ι m v' q
    cases q with
    | func g1 g2 g3 g4 =>
      refine .func g1 g2 (fun i v v' a b => ?_) (fun i v v' a b => ?_)
      · have hi : i < xs'.size := by
          have := (Array.getElem?_eq_some_iff.1 a).1
          omega
        exact i3 i v _ a (Array.getElem?_eq_getElem hi) _ _ _ (g3 i v v' a b)
      · have hi : i < ys'.size := by
          have := (Array.getElem?_eq_some_iff.1 a).1
          omega
        exact i4 i v _ a (Array.getElem?_eq_getElem hi) _ _ _ (g4 i v v' a b)
  | nilIface => intro ι m v' q; cases q; exact .nilIface
  | @agg xs xs' h1 _ i2 =>
    intro ι m v' q
    cases q with
    | agg g1 g2 =>
      refine .agg g1 fun i v v' a b => ?_
      have hi : i < xs'.size := by
        have := (Array.getElem?_eq_some_iff.1 a).1
        omega
      exact i2 i v _ a (Array.getElem?_eq_getElem hi) _ _ _ (g2 i v v' a b)
  | @tuple xs xs' h1 _ i2 =>
    intro ι m v' q
    cases q with
    | tuple g1 g2 =>
      refine .tuple g1 fun i v v' a b => ?_
      have hi : i < xs'.size := by
        have := (Array.getElem?_eq_some_iff.1 a).1
        omega
      exact i2 i v _ a (Array.getElem?_eq_getElem hi) _ _ _ (g2 i v v' a b)
/-- What is asked of whatever follows. -/
def Post (P : Program) (E : Env) (ι : Nat → Emb) (h : H) (w : World) (d : List Deferred) (t' : Array Value) (h' : H) (K : Act → World → Prop) : Prop :=
  ∀ ι' a' w', Tr ι h w ι' h' w' → Rel P E ι' h' w' → AR ι' h'.nx t' a'.tmps → a'.defers = d → K a' w'
theorem Post.step {ι ι1 : Nat → Emb} {h h1 h' : H} {w w1 : World} {d : List Deferred} {t' : Array Value} {K : Act → World → Prop} (p : Post P E ι h w d t' h' K) (t1 : Tr ι h w ι1 h1 w1) : Post P E ι1 h1 w1 d t' h' K :=
  fun ι' a' w' ht hr ha hd => p ι' a' w' (t1.trans ht) hr ha hd
theorem ops_grows {rec : Rec} (hrec : SoundR P E rec) (all : Array Oper) : ∀ (l : List Oper) (t t' : Array Value) (h h' : H), ops P E rec all l t h = some (t', h') → Grow h h' := by
  intro l
  induction l with
  | nil => intro t t' h h' ho; cases ho; exact .refl _
  | cons o l ih =>
    intro t t' h h' ho
    simp only [ops] at ho
    split at ho
    · obtain ⟨⟨v, h1⟩, h2, h3⟩ := bind_some ho
      exact (op_grows hrec h2).trans (ih _ _ _ _ h3)
    · exact ih _ _ _ _ ho
theorem ops_wp {rec : Rec} (hrec : SoundR P E rec) (all : Array Oper) {Q : Exit → Act → World → Prop} : ∀ (l : List Oper) (t t' : Array Value) (h h' : H), ops P E rec all l t h = some (t', h') →
    ∀ (ι : Nat → Emb) (w : World) (a : Act), Rel P E ι h w → AR ι h.nx t a.tmps → Post P E ι h w a.defers t' h' (Q .normal) → wpList P all Q l a w := by
  intro l
  induction l with
  | nil =>
    intro t t' h h' ho ι w a r ht hQ
    cases ho
    exact hQ ι a w (.refl _ _ _) r ht rfl
  | cons o l ih =>
    intro t t' h h' ho ι w a r ht hQ
    simp only [ops] at ho
    rw [wanted_rel ht all o] at ho
    unfold wpList
    split at ho
    · rename_i hw
      rw [if_pos hw]
      obtain ⟨⟨v, h1⟩, h2, h3⟩ := bind_some ho
      refine .inl (op_wp hrec h2 r ht fun v' ι' w' q1 q2 q3 => ?_)
      refine ih _ _ _ _ h3 ι' w' (a.put o.dst v') q2 (put_rel (ht.mono q1.nx q1.ext) o.dst q3) ?_
      rw [put_defers]
      exact hQ.step q1
    · rename_i hw
      rw [if_neg hw]
      refine ih _ _ _ _ ho ι w (a.put o.dst undef) r (put_rel ht o.dst .undef) ?_
      rw [put_defers]
      exact hQ
/-- What is asked of regions that draw their order (proved in the next text). -/
def DrawOk (P : Program) (E : Env) (rec : Rec) : Prop := ∀ (id : Nat) (all : Array Oper) (t t' : Array Value) (h h' : H), draw P E rec all t h = some (t', h') →
  Grow h h' ∧ ∀ (ι : Nat → Emb) (w : World) (a : Act) (Q : Exit → Act → World → Prop), Rel P E ι h w → AR ι h.nx t a.tmps → Post P E ι h w a.defers t' h' (Q .normal) → (Code.region id all true).wp P Q a w
def Ex.toExit : Ex → Exit
  | .normal => .normal
  | .exit i => .exit i
  | .ret => .ret
theorem code_sound {rec : Rec} (hrec : SoundR P E rec) (hdraw : DrawOk P E rec) (k : Nat) : ∀ (c : Code) (t t' : Array Value) (h h' : H) (e : Ex), code P E rec k c t h = some (e, t', h') →
    Grow h h' ∧ ∀ (ι : Nat → Emb) (w : World) (a : Act) (Q : Exit → Act → World → Prop), Rel P E ι h w → AR ι h.nx t a.tmps → Post P E ι h w a.defers t' h' (Q e.toExit) → c.wp P Q a w := by
  intro c
  induction c with
  | skip =>
    intro t t' h h' e hc
    simp only [code] at hc
    cases hc
    exact ⟨.refl _, fun ι w a Q r ht hQ => wp_skip (hQ ι a w (.refl _ _ _) r ht rfl)⟩
  | region id all dr =>
    intro t t' h h' e hc
    cases dr with
    | false =>
      simp only [code] at hc
      obtain ⟨⟨t1, h1⟩, h2, h3⟩ := map_some hc
      cases h3
      exact ⟨ops_grows hrec all _ _ _ _ _ h2, fun ι w a Q r ht hQ => wp_region_list (ops_wp hrec all _ _ _ _ _ h2 ι w a r ht hQ)⟩
    | true =>
      simp only [code] at hc
      obtain ⟨⟨t1, h1⟩, h2, h3⟩ := map_some hc
      cases h3
      exact hdraw id all t t1 h h1 h2
  | seq x y ihx ihy =>
    intro t t' h h' e hc
    simp only [code] at hc
    obtain ⟨⟨e1, t1, h1⟩, h2, h3⟩ := bind_some hc
    obtain ⟨gx, wx⟩ := ihx _ _ _ _ _ h2
    cases e1 with
    | normal =>
      simp only at h3
      obtain ⟨gy, wy⟩ := ihy _ _ _ _ _ h3
      refine ⟨gx.trans gy, fun ι w a Q r ht hQ => wp_seq (wx ι w a _ r ht fun ι1 a1 w1 q1 q2 q3 q4 => ?_)⟩
      refine wy ι1 w1 a1 Q q2 q3 ?_
      rw [q4]
      exact hQ.step q1
    | exit i =>
      simp only at h3
      cases h3
      exact ⟨gx, fun ι w a Q r ht hQ => wp_seq (wx ι w a _ r ht hQ)⟩
    | ret =>
      simp only at h3
      cases h3
      exact ⟨gx, fun ι w a Q r ht hQ => wp_seq (wx ι w a _ r ht hQ)⟩
  | cond b x y ihx ihy =>
    intro t t' h h' e hc
    simp only [code] at hc
    split at hc
    · cases hc
    · rename_i hok
      have hok' : okOperand E b = true := by simpa using hok
      split at hc
      · rename_i hb
        obtain ⟨gx, wx⟩ := ihx _ _ _ _ _ hc
        refine ⟨gx, fun ι w a Q r ht hQ => ?_⟩
        have hv := ev_rel r ht hok'
        rw [hb] at hv
        generalize hce : a.eval b = u at hv
        cases hv
        exact wp_cond (t := true) hce (wx ι w a Q r ht hQ)
      · rename_i hb
        obtain ⟨gy, wy⟩ := ihy _ _ _ _ _ hc
        refine ⟨gy, fun ι w a Q r ht hQ => ?_⟩
        have hv := ev_rel r ht hok'
        rw [hb] at hv
        generalize hce : a.eval b = u at hv
        cases hv
        exact wp_cond (t := false) hce (wy ι w a Q r ht hQ)
      · cases hc
  | block id x ih =>
    intro t t' h h' e hc
    simp only [code] at hc
    obtain ⟨⟨e1, t1, h1⟩, h2, h3⟩ := map_some hc
    obtain ⟨gx, wx⟩ := ih _ _ _ _ _ h2
    cases e1 with
    | normal =>
      simp only at h3
      cases h3
      exact ⟨gx, fun ι w a Q r ht hQ => wp_block (wx ι w a _ r ht hQ)⟩
    | exit i =>
      simp only at h3
      cases h3
      refine ⟨gx, fun ι w a Q r ht hQ => wp_block (wx ι w a _ r ht fun ι1 a1 w1 q1 q2 q3 q4 => ?_)⟩
      have := hQ ι1 a1 w1 q1 q2 q3 q4
      simp only [Ex.toExit, Exit.inBlock]
      by_cases hi : i = id
      · rw [if_pos hi] at this ⊢; exact this
      · rw [if_neg hi] at this ⊢; exact this
    | ret =>
      simp only at h3
      cases h3
      exact ⟨gx, fun ι w a Q r ht hQ => wp_block (wx ι w a _ r ht hQ)⟩
  | loop x ih =>
    intro t t' h h' e hc
    simp only [code] at hc
    have key : ∀ (m : Nat) (t t' : Array Value) (h h' : H) (e : Ex), loop (code P E rec k x) m t h = some (e, t', h') →
        Grow h h' ∧ ∀ (ι : Nat → Emb) (w : World) (a : Act) (Q : Exit → Act → World → Prop), Rel P E ι h w → AR ι h.nx t a.tmps → Post P E ι h w a.defers t' h' (Q e.toExit) → Code.rounds P x Q m a w := by
      intro m
      induction m with
      | zero => intro t t' h h' e hc; cases hc
      | succ m ihm =>
        intro t t' h h' e hc
        simp only [loop] at hc
        obtain ⟨⟨e1, t1, h1⟩, h2, h3⟩ := bind_some hc
        obtain ⟨gx, wx⟩ := ih _ _ _ _ _ h2
        cases e1 with
        | normal =>
          simp only at h3
          obtain ⟨gm, wm⟩ := ihm _ _ _ _ _ h3
          refine ⟨gx.trans gm, fun ι w a Q r ht hQ => ?_⟩
          rw [rounds_succ]
          refine wx ι w a _ r ht fun ι1 a1 w1 q1 q2 q3 q4 => ?_
          refine wm ι1 w1 a1 Q q2 q3 ?_
          rw [q4]
          exact hQ.step q1
        | exit i =>
          simp only at h3
          cases h3
          refine ⟨gx, fun ι w a Q r ht hQ => ?_⟩
          rw [rounds_succ]
          exact wx ι w a _ r ht hQ
        | ret =>
          simp only at h3
          cases h3
          refine ⟨gx, fun ι w a Q r ht hQ => ?_⟩
          rw [rounds_succ]
          exact wx ι w a _ r ht hQ
    obtain ⟨g, hw⟩ := key k _ _ _ _ _ hc
    exact ⟨g, fun ι w a Q r ht hQ => wp_loop_rounds k (hw ι w a Q r ht hQ)⟩
  | exit id =>
    intro t t' h h' e hc
    simp only [code] at hc
    cases hc
    exact ⟨.refl _, fun ι w a Q r ht hQ => wp_exit (hQ ι a w (.refl _ _ _) r ht rfl)⟩
  | ret =>
    intro t t' h h' e hc
    simp only [code] at hc
    cases hc
    exact ⟨.refl _, fun ι w a Q r ht hQ => wp_ret (hQ ι a w (.refl _ _ _) r ht rfl)⟩
  | _ => intro t t' h h' e hc; simp only [code] at hc; cases hc
/-- The results. -/
theorem resV_run {ι : Nat → Emb} {h : H} {w : World} (r : Rel P E ι h w) {t t' : Array Value} (ht : AR ι h.nx t t') : ∀ (l : List ResultVar) (vs : List Value), l.mapM (resV P t h) = some vs →
    ∃ vs', (l.mapM (fun | .tmp i => pure (t'.getD i undef) | .cell a ty => do loadVar ty (← asAddr (t'.getD a undef))) : Sem (List Value)).run P w = .ok vs' w ∧ LR ι h.nx vs vs' := by
  have hget : ∀ i, VR ι h.nx (t.getD i undef) (t'.getD i undef) := fun i => by
    have := ev_rel (E := E) (P := P) (a := ⟨t', []⟩) r ht (x := .tmp i) rfl
    exact this
  intro l
  induction l with
  | nil => intro vs hv; cases hv; exact ⟨[], rfl, .nil⟩
  | cons x l ih =>
    intro vs hv
    simp only [List.mapM_cons] at hv ⊢
    obtain ⟨v, hv1, hv2⟩ := bind_some hv
    obtain ⟨vs1, hv3, hv4⟩ := bind_some hv2
    cases hv4
    obtain ⟨vs', h1, h2⟩ := ih vs1 hv3
    have : ∃ v', (match x with | .tmp i => pure (t'.getD i undef) | .cell a ty => (do loadVar ty (← asAddr (t'.getD a undef))) : Sem Value).run P w = .ok v' w ∧ VR ι h.nx v v' := by
      cases x with
      | tmp i =>
        simp only [resV] at hv1
        cases hv1
        exact ⟨_, rfl, hget i⟩
      | cell a ty =>
        simp only [resV] at hv1
        obtain ⟨v', g1, g2⟩ := load_run r (hget a) hv1
        refine ⟨v', ?_, g2⟩
        rw [← g1]
        unfold load at hv1
        split at hv1
        · rename_i b o hb
          have := hget a
          rw [hb] at this
          show (do loadVar ty (← asAddr (t'.getD a undef)) : Sem Value).run P w = (Instr.loadAt ty (t'.getD a undef)).run P w
          generalize t'.getD a undef = u at this
          cases this
          rfl
        · cases hv1
    obtain ⟨v', g1, g2⟩ := this
    refine ⟨v' :: vs', ?_, .cons g2 h2⟩
    cases x <;> simp only [Sem.run_bind, g1, Result.andThen_ok, h1, Sem.run_pure] at g1 ⊢ <;> simp only [Sem.run_bind, g1, Result.andThen_ok, h1, Sem.run_pure]
theorem res_run {ι : Nat → Emb} {h : H} {w : World} (r : Rel P E ι h w) {fn : Func} {t t' : Array Value} (ht : AR ι h.nx t t') {v : Value} (hv : res P fn t h = some v) :
    ∃ v', (results fn t').run P w = .ok v' w ∧ VR ι h.nx v v' := by
  unfold res at hv
  obtain ⟨vs, h1, h2⟩ := map_some hv
  obtain ⟨vs', h3, h4⟩ := resV_run r ht _ _ h1
  have hm : (fn.results.mapM (fun | .tmp i => pure (t'.getD i undef) | .cell a ty => do loadVar ty (← asAddr (t'.getD a undef))) : Sem (Array Value)).run P w = .ok vs'.toArray w := by
    rw [Array.mapM_eq_mapM_toList]
    simp only [Sem.run_map, h3, Result.andThen_ok]
  have hlen := h4.1
  unfold results
  simp only [Sem.run_bind]
  refine ⟨if h : vs'.toArray.size = 1 then vs'.toArray[0] else .tuple vs'.toArray, ?_, ?_⟩
  · exact Eq.trans (congrArg (fun q : Result (Array Value) => q.andThen fun a w' => Sem.run P (pure (if h : a.size = 1 then a[0] else Value.tuple a)) w') hm) rfl
  · rw [← h2]
    cases vs with
    | nil =>
      have : vs' = [] := List.length_eq_zero_iff.1 (by simpa using hlen.symm)
      subst this
      exact .tuple rfl (fun i v v' hv => by simp at hv)
    | cons x vs =>
      obtain ⟨x', u, rfl, hx, hu⟩ := h4.uncons
      cases vs with
      | nil =>
        have : u = [] := List.length_eq_zero_iff.1 (by have := hu.1; simpa using this.symm)
        subst this
        simpa using hx
      | cons y vs =>
        obtain ⟨y', u, rfl, hy, hu⟩ := hu.uncons
        rw [dif_neg (by simp)]
        exact .tuple h4.toArray.1 h4.toArray.2
theorem init_rel {ι : Nat → Emb} {n m : Nat} {args args' : Array Value} (ha : AR ι n args args') : AR ι n (args ++ Array.replicate (m - args.size) undef) (args' ++ Array.replicate (m - args'.size) undef) := by
  rw [ha.1]
  refine AR.append ha ⟨rfl, fun i v v' hv hv' => ?_⟩
  rw [hv] at hv'
  cases hv'
  rw [Array.getElem?_replicate] at hv
  split at hv
  · cases hv; exact .undef
  · cases hv
/-- One body. -/
theorem body_sound {rec : Rec} (hrec : SoundR P E rec) (hdraw : DrawOk P E rec) {n : Nat} {f : FuncId} {args : Array Value} {h h' : H} {v : Value} (hb : body P E rec n f args h = some (v, h')) :
    (∃ fn c, P.funcs[f]? = some fn ∧ fn.body = some c ∧ fn.name ≠ "runtime.NumGoroutine") ∧ Grow h h' ∧
      ∀ ι w args', Rel P E ι h w → AR ι h.nx args args' → Calls P f args' w fun e w' => ∃ v' ι', e = .returned v' ∧ Tr ι h w ι' h' w' ∧ Rel P E ι' h' w' ∧ VR ι' h'.nx v v' := by
  unfold body at hb
  split at hb
  · rename_i fn hf
    split at hb
    · rename_i c hc
      split at hb
      · cases hb
      · rename_i hname
        obtain ⟨⟨e, t1, h1⟩, h2, h3⟩ := bind_some hb
        obtain ⟨g, hw⟩ := code_sound hrec hdraw n c _ _ _ _ _ h2
        have hres : e ≠ .exit 0 ∧ (∀ i, e ≠ .exit i) ∧ h1 = h' ∧ res P fn t1 h1 = some v := by
          cases e with
          | exit i => simp at h3
          | normal => simp only at h3; obtain ⟨u, q1, q2⟩ := map_some h3; cases q2; exact ⟨by simp, by simp, rfl, q1⟩
          | ret => simp only at h3; obtain ⟨u, q1, q2⟩ := map_some h3; cases q2; exact ⟨by simp, by simp, rfl, q1⟩
        obtain ⟨_, hne, rfl, hr⟩ := hres
        refine ⟨⟨fn, c, hf, hc, hname⟩, g, fun ι w args' r ha => ?_⟩
        refine calls_of_wp hf hc (hw ι w _ _ r (init_rel ha) fun ι' a' w' q1 q2 q3 q4 => ?_)
        obtain ⟨v', g1, g2⟩ := res_run q2 q3 hr
        have hd : a'.defers = [] := q4
        cases e with
        | exit i => exact absurd rfl (hne i)
        | normal => exact ⟨hd, v', g1, v', ι', rfl, q1, q2, g2⟩
        | ret => exact ⟨hd, v', g1, v', ι', rfl, q1, q2, g2⟩
    · cases hb
  · cases hb
theorem plainV_eq {ι : Nat → Emb} {n : Nat} {v v' : Value} (hp : plainV v = true) (hv : VR ι n v v') : v' = v := by
  cases hv <;> first | rfl | (simp [plainV] at hp; done)
theorem plainV_rel {ι : Nat → Emb} {n : Nat} {v : Value} (hp : plainV v = true) : VR ι n v v := by
  unfold plainV at hp
  split at hp
  · exact .int _ _
  · exact .bool _
  · cases hp
theorem plainR_rel {ι ι' : Nat → Emb} {n n' : Nat} {v v' : Value} (hp : plainR v = true) (hv : VR ι n v v') : VR ι' n' v v' := by
  cases hv with
  | int k x => exact .int k x
  | bool b => exact .bool b
  | tuple h1 h2 =>
    simp only [plainR, List.all_eq_true] at hp
    exact .tuple h1 fun i v v' a b => by
      have hpv := hp v (by simpa using Array.mem_of_getElem? a)
      rw [plainV_eq hpv (h2 i v v' a b)]
      exact plainV_rel hpv
  | _ => simp [plainR] at hp
theorem Rel.lone {ι : Nat → Emb} {h : H} {w : World} (r : Rel P E ι h w) : Rel P E ι (lone E) w := by
  have hb : ∀ b k, (AM.lone E).blk b = some k → b < E.NG ∧ E.G b = some k := by
    intro b k hk
    simp only [AM.lone] at hk
    split at hk
    · exact ⟨by assumption, hk⟩
    · cases hk
  refine ⟨fun b k hk => (hb b k hk).1, fun b k hk => (r.globO b k (hb b k hk).1 (hb b k hk).2).2, fun b b' k k' hk hk' hne ho => ?_, Nat.le_refl _, r.glob, fun g hg => ?_, r.globO⟩
  · rw [(r.globO b k (hb b k hk).1 (hb b k hk).2).1] at ho
    cases ho
  · simp only [AM.lone]
    rw [if_pos hg]
/-- THE SOUNDNESS OF THE ABSTRACT MACHINE. -/
theorem call_sound (hdraw : ∀ rec, SoundR P E rec → DrawOk P E rec) : ∀ n, SoundR P E (call P E n) := by
  intro n
  induction n with
  | zero => exact ⟨fun f args h v h' hc => (by cases hc), fun f args h v h' hc => (by cases hc), fun f args h v h' hc => (by cases hc)⟩
  | succ n ih =>
    have hd := hdraw _ ih
    have split : ∀ f args h v h', call P E (n + 1) f args h = some (v, h') → body P E (call P E n) (n + 1) f args h = some (v, h') ∨
        (h' = h ∧ plainR v = true ∧ (∀ x ∈ args.toList, plainV x = true) ∧ ∃ h2, body P E (call P E n) (n + 1) f args (AM.lone E) = some (v, h2)) := by
      intro f args h v h' hc
      simp only [call] at hc
      split at hc
      · rename_i hiso
        obtain ⟨⟨u, h2⟩, q1, q2⟩ := bind_some hc
        simp only at q2
        split at q2
        · rename_i hp
          cases q2
          simp only [Bool.and_eq_true, List.all_eq_true] at hiso
          exact .inr ⟨rfl, hp, hiso.2, h2, q1⟩
        · cases q2
      · exact .inl hc
    refine ⟨fun f args h v h' hc => ?_, fun f args h v h' hc => ?_, fun f args h v h' hc ι w args' r ha => ?_⟩
    · rcases split f args h v h' hc with hb | ⟨_, _, _, h2, hb⟩
      · exact (body_sound ih hd hb).1
      · exact (body_sound ih hd hb).1
    · rcases split f args h v h' hc with hb | ⟨rfl, _, _, h2, hb⟩
      · exact (body_sound ih hd hb).2.1
      · exact .refl _
    · rcases split f args h v h' hc with hb | ⟨rfl, hp, hpl, h2, hb⟩
      · exact (body_sound ih hd hb).2.2 ι w args' r ha
      · have ha' : AR ι (AM.lone E).nx args args' := ⟨ha.1, fun i v v' a b => by
          have hpv := hpl v (by simpa using Array.mem_of_getElem? a)
          rw [plainV_eq hpv (ha.2 i v v' a b)]
          exact plainV_rel hpv⟩
        refine ((body_sound ih hd hb).2.2 ι w args' r.lone ha').mono fun e w' he => ?_
        obtain ⟨v', ι', rfl, t1, t2, t3⟩ := he
        have hfr : ∀ g, g < w.heap.size → w'.heap[g]? = w.heap[g]? := fun g hg => t1.fr g hg fun b k hk ho => by
          simp only [AM.lone] at hk
          split at hk
          · rename_i hlt
            rw [(r.globO b k hlt hk).1] at ho
            cases ho
          · cases hk
        refine ⟨v', ι, rfl, ⟨Nat.le_refl _, fun _ _ => rfl, t1.os, t1.tape, t1.output, t1.size, fun g hg _ => hfr g hg, fun b k hb ho => .inl ⟨b, k, hb, ho, rfl⟩⟩, ?_, plainR_rel hp t3⟩
        exact ⟨r.dom, fun b k hb => (r.blk b k hb).congr (hfr _ (r.blk b k hb).lt) t1.size, r.inj, r.ng, r.glob, r.globB, fun g k hg hk => ⟨(r.globO g k hg hk).1, (r.globO g k hg hk).2.congr (hfr _ (r.globO g k hg hk).2.lt) t1.size⟩⟩
end
end Go.AM
namespace Go.AM
def bv (acc : Array Nat) (o : Oper) : Nat := o.after.foldl (fun s e => if Region.binds .any e then s ||| 2 ^ e.on ||| acc.getD e.on 0 else s) 0
theorem before_fold : ∀ (l : List Oper) (acc : Array Nat), ∃ r : Array Nat, l.foldl (fun acc o => acc.push (bv acc o)) acc = r ∧ r.size = acc.size + l.length ∧
    (∀ i, i < acc.size → r[i]? = acc[i]?) ∧ ∀ j o, l[j]? = some o → ∃ acc' : Array Nat, r[acc.size + j]? = some (bv acc' o) ∧ acc'.size = acc.size + j ∧ ∀ i, i < acc'.size → acc'[i]? = r[i]? := by
  intro l
  induction l with
  | nil => intro acc; exact ⟨acc, rfl, by simp, fun i _ => rfl, fun j o h => by simp at h⟩
  | cons x l ih =>
    intro acc
    obtain ⟨r, h1, h2, h3, h4⟩ := ih (acc.push (bv acc x))
    refine ⟨r, h1, ?_, fun i hi => ?_, fun j o ho => ?_⟩
    · rw [h2]; simp; omega
    · rw [h3 i (by simp; omega), Array.getElem?_push_lt hi, Array.getElem?_eq_getElem hi]
    · cases j with
      | zero =>
        simp only [List.getElem?_cons_zero, Option.some.injEq] at ho
        subst ho
        refine ⟨acc, ?_, by simp, fun i hi => ?_⟩
        · rw [Nat.add_zero, h3 acc.size (by simp)]
          exact Array.getElem?_push_size
        · rw [h3 i (by simp; omega), Array.getElem?_push_lt hi, Array.getElem?_eq_getElem hi]
      | succ j =>
        simp only [List.getElem?_cons_succ] at ho
        obtain ⟨acc', g1, g2, g3⟩ := h4 j o ho
        have e : (acc.push (bv acc x)).size + j = acc.size + (j + 1) := by simp; omega
        rw [e] at g1 g2
        exact ⟨acc', g1, g2, g3⟩
theorem before_eq (all : Array Oper) : Region.before all = all.toList.foldl (fun acc o => acc.push (bv acc o)) #[] := by
  unfold Region.before
  rw [← Array.foldl_toList]
  rfl
theorem fold_or (X : Array Nat) : ∀ (l : List Edge) (s i : Nat), (l.foldl (fun s e => if Region.binds .any e then s ||| 2 ^ e.on ||| X.getD e.on 0 else s) s).testBit i = true →
    s.testBit i = true ∨ ∃ e ∈ l, Region.binds .any e = true ∧ (i = e.on ∨ (X.getD e.on 0).testBit i = true) := by
  intro l
  induction l with
  | nil => intro s i h; exact .inl h
  | cons e l ih =>
    intro s i h
    simp only [List.foldl_cons] at h
    rcases ih _ i h with h1 | ⟨e', he', hb, hi⟩
    · split at h1
      · rename_i hb
        simp only [Nat.testBit_or, Bool.or_eq_true] at h1
        rcases h1 with (h2 | h2) | h2
        · exact .inl h2
        · rw [Nat.testBit_two_pow] at h2
          exact .inr ⟨e, by simp, hb, .inl (of_decide_eq_true h2).symm⟩
        · exact .inr ⟨e, by simp, hb, .inr h2⟩
      · exact .inl h1
    · exact .inr ⟨e', by simp [he'], hb, hi⟩
/-- The edges of an operation, and what they reach. -/
theorem before_spec (all : Array Oper) (hback : ∀ j o, all[j]? = some o → ∀ e ∈ o.after.toList, Region.binds .any e = true → e.on < j) {j : Nat} {o : Oper} (ho : all[j]? = some o) {i : Nat}
    (h : ((Region.before all).getD j 0).testBit i = true) : ∃ e ∈ o.after.toList, Region.binds .any e = true ∧ (i = e.on ∨ ((Region.before all).getD e.on 0).testBit i = true) := by
  obtain ⟨r, h1, h2, h3, h4⟩ := before_fold all.toList #[]
  rw [before_eq, h1] at h ⊢
  obtain ⟨acc', g1, g2, g3⟩ := h4 j o (by simpa using ho)
  simp only [List.size_toArray, List.length_nil, Nat.zero_add] at g1 g2
  have e1 : r.getD j 0 = bv acc' o := by rw [Array.getD_eq_getD_getElem?, g1]; rfl
  rw [e1] at h
  unfold bv at h
  rw [← Array.foldl_toList] at h
  rcases fold_or acc' _ 0 i h with h0 | ⟨e, he, hb, hi⟩
  · simp at h0
  · refine ⟨e, he, hb, hi.imp_right fun hx => ?_⟩
    have hlt := hback j o ho e he hb
    have : acc'.getD e.on 0 = r.getD e.on 0 := by
      rw [Array.getD_eq_getD_getElem?, Array.getD_eq_getD_getElem?, g3 e.on (by omega)]
    rw [← this]
    exact hx
theorem before_lt (all : Array Oper) (hback : ∀ j o, all[j]? = some o → ∀ e ∈ o.after.toList, Region.binds .any e = true → e.on < j) : ∀ (j : Nat), j < all.size → ∀ i, ((Region.before all).getD j 0).testBit i = true → i < j := by
  intro j
  induction j using Nat.strongRecOn with
  | _ j ih =>
    intro hj i h
    have ho : all[j]? = some all[j] := Array.getElem?_eq_getElem hj
    obtain ⟨e, he, hb, hi⟩ := before_spec all hback ho h
    have hlt := hback j _ ho e he hb
    rcases hi with rfl | hi
    · exact hlt
    · exact Nat.lt_trans (ih e.on hlt (by omega) i hi) hlt
section
variable {P : Program} {E : Env}
/-- The closed facts, spelt out. -/
structure OkD (all : Array Oper) : Prop where
  back : ∀ (j : Nat) (o : Oper), all[j]? = some o → ∀ e ∈ o.after.toList, Region.binds .any e = true → e.on < j
  guard : ∀ (j : Nat) (o : Oper), all[j]? = some o → ∀ g b, o.guard = some (g, b) → ((Region.before all).getD j 0).testBit g = true ∧ g < j
  dst : ∀ (j : Nat) (o : Oper) (i : Nat) (p : Oper) (d : Tmp), all[j]? = some o → all[i]? = some p → i ≠ j → p.dst = some d → o.dst ≠ some d
  rd : ∀ (j : Nat) (o : Oper) (i : Nat) (p : Oper) (d : Tmp), all[j]? = some o → all[i]? = some p → i ≠ j → p.dst = some d → d ∈ reads o → ((Region.before all).getD j 0).testBit i = true ∨ ((Region.before all).getD i 0).testBit j = true
theorem okDraw_spec {all : Array Oper} (h : okDraw all = true) : OkD all := by
  unfold okDraw at h
  simp only [List.all_eq_true] at h
  have mem : ∀ j o, all[j]? = some o → (o, j) ∈ all.toList.zipIdx := by
    intro j o ho
    rw [List.mem_zipIdx_iff_getElem?]
    simpa using ho
  refine ⟨fun j o ho e he hb => ?_, fun j o ho g b hg => ?_, fun j o i p d ho hp hne hd => ?_, fun j o i p d ho hp hne hd hr => ?_⟩
  · have h1 := h (o, j) (mem j o ho)
    simp only [Bool.and_eq_true] at h1
    have h2 := Array.all_eq_true_iff_forall_mem.1 h1.1.1 e (by simpa using he)
    simp only [hb, Bool.not_true, Bool.false_or] at h2
    exact of_decide_eq_true h2
  · have h1 := h (o, j) (mem j o ho)
    simp only [Bool.and_eq_true, hg] at h1
    exact ⟨h1.1.2.1, of_decide_eq_true h1.1.2.2⟩
  · have h1 := h (o, j) (mem j o ho)
    simp only [Bool.and_eq_true, List.all_eq_true] at h1
    have h2 := h1.2 (p, i) (mem i p hp)
    simp only [hne, decide_false, Bool.false_or, hd, Bool.and_eq_true, Bool.not_eq_true', beq_eq_false_iff_ne] at h2
    exact h2.1
  · have h1 := h (o, j) (mem j o ho)
    simp only [Bool.and_eq_true, List.all_eq_true] at h1
    have h2 := h1.2 (p, i) (mem i p hp)
    simp only [hne, decide_false, Bool.false_or, hd, Bool.and_eq_true, Bool.or_eq_true, Bool.not_eq_true'] at h2
    rcases h2.2 with (h3 | h3) | h3
    · rw [List.contains_iff_mem.2 hr] at h3; cases h3
    · exact .inl h3
    · exact .inr h3
/-- A record of a run in the text's order. -/
structure Run (P : Program) (E : Env) (rec : Rec) (all : Array Oper) (T : Nat → Array Value) (Hs : Nat → H) (V : Nat → Value) (W : Nat → Bool) (F : Nat → FP) (j0 : Nat) : Prop where
  step : ∀ j o, j0 ≤ j → all[j]? = some o → W j = Region.wanted o (yielded all (T j)) ∧ T (j + 1) = put (T j) o.dst (V j) ∧
    (W j = true → fpA P (needAl P all) (T j) o = some (F j) ∧ op P E rec (T j) o (Hs j) = some (V j, Hs (j + 1))) ∧ (W j = false → V j = undef ∧ Hs (j + 1) = Hs j)
def did (Hs : Nat → H) (F : Nat → FP) (i : Nat) : Did := ⟨i, F i, (Hs i).nx, decide ((Hs (i + 1)).wr = (Hs i).wr)⟩
/-- Free, or a look and an entry. -/
def fr (all : Array Oper) (x y : Did) : Bool := free x y || twin all x y
theorem drawGo_run {rec : Rec} {all : Array Oper} {B : Array Nat} : ∀ (l : List Oper) (j0 : Nat) (log : List Did) (t t' : Array Value) (h h' : H), l = all.toList.drop j0 → j0 ≤ all.size →
    drawGo P E rec all B l j0 log t h = some (t', h') →
    ∃ T Hs V W F, T j0 = t ∧ Hs j0 = h ∧ T all.size = t' ∧ Hs all.size = h' ∧ Run P E rec all T Hs V W F j0 ∧
      (∀ j, j0 ≤ j → j < all.size → W j = true → (∀ d ∈ log, (B.getD j 0).testBit d.i = true ∨ fr all d (did Hs F j) = true) ∧
        ∀ i, j0 ≤ i → i < j → W i = true → (B.getD j 0).testBit i = true ∨ fr all (did Hs F i) (did Hs F j) = true) := by
  intro l
  induction l with
  | nil =>
    intro j0 log t t' h h' hl hj ho
    simp only [drawGo] at ho
    cases ho
    have hsz : all.size ≤ j0 := by
      have := congrArg List.length hl
      simp at this
      omega
    obtain rfl : j0 = all.size := by omega
    refine ⟨fun _ => t, fun _ => h, fun _ => undef, fun _ => false, fun _ => .pure, rfl, rfl, rfl, rfl, ⟨fun j o hj ho => ?_⟩, fun j h1 h2 => by omega⟩
    rw [Array.getElem?_eq_none (by omega)] at ho
    cases ho
  | cons o l ih =>
    intro j0 log t t' h h' hl hj ho
    have hlt : j0 < all.size := by
      have := congrArg List.length hl
      simp at this
      omega
    have hoj : all[j0]? = some o := by
      have := congrArg (fun l => l[0]?) hl
      simp only [List.getElem?_cons_zero, List.getElem?_drop, Nat.add_zero] at this
      simpa using this.symm
    have hl' : l = all.toList.drop (j0 + 1) := by
      have := congrArg List.tail hl
      simpa using this
    -- how to put one step in front
    have front : ∀ (w : Bool) (v : Value) (f : FP) (t1 : Array Value) (h1 : H) (log1 : List Did), w = Region.wanted o (yielded all t) → t1 = put t o.dst v →
        (w = true → fpA P (needAl P all) t o = some f ∧ op P E rec t o h = some (v, h1)) → (w = false → v = undef ∧ h1 = h) →
        (∀ d ∈ log, d ∈ log1) → (w = true → ⟨j0, f, h.nx, decide (h1.wr = h.wr)⟩ ∈ log1) →
        (w = true → ∀ d ∈ log, (B.getD j0 0).testBit d.i = true ∨ fr all d ⟨j0, f, h.nx, decide (h1.wr = h.wr)⟩ = true) →
        drawGo P E rec all B l (j0 + 1) log1 t1 h1 = some (t', h') →
        ∃ T Hs V W F, T j0 = t ∧ Hs j0 = h ∧ T all.size = t' ∧ Hs all.size = h' ∧ Run P E rec all T Hs V W F j0 ∧
          (∀ j, j0 ≤ j → j < all.size → W j = true → (∀ d ∈ log, (B.getD j 0).testBit d.i = true ∨ fr all d (did Hs F j) = true) ∧
            ∀ i, j0 ≤ i → i < j → W i = true → (B.getD j 0).testBit i = true ∨ fr all (did Hs F i) (did Hs F j) = true) := by
      intro w v f t1 h1 log1 e1 e2 e3 e4 e5 e6 e7 e8
      obtain ⟨T, Hs, V, W, F, q1, q2, q3, q4, q5, q6⟩ := ih (j0 + 1) log1 t1 t' h1 h' hl' (by omega) e8
      have hne : ∀ j, j0 + 1 ≤ j → ¬ j = j0 := fun j h => by omega
      have n1 : ¬ (j0 + 1 = j0) := by omega
      have n2 : ¬ (all.size = j0) := by omega
      refine ⟨fun j => if j = j0 then t else T j, fun j => if j = j0 then h else Hs j, fun j => if j = j0 then v else V j, fun j => if j = j0 then w else W j, fun j => if j = j0 then f else F j,
        if_pos rfl, if_pos rfl, by simp only [if_neg n2]; exact q3, by simp only [if_neg n2]; exact q4, ⟨fun j o' hj' ho' => ?_⟩, fun j hj1 hj2 hW => ?_⟩
      · by_cases hjj : j = j0
        · subst hjj
          rw [hoj] at ho'
          cases ho'
          simp only [if_true, if_neg n1]
          refine ⟨e1, ?_, fun hw => ?_, fun hw => ?_⟩
          · rw [q1, e2]
          · rw [q2]; exact e3 hw
          · rw [q2]; exact e4 hw
        · have h3 : j0 + 1 ≤ j := by omega
          have h4 : ¬ (j + 1 = j0) := by omega
          simp only [if_neg hjj, if_neg h4]
          exact q5.step j o' h3 ho'
      · have didne : ∀ i, j0 + 1 ≤ i → did (fun j => if j = j0 then h else Hs j) (fun j => if j = j0 then f else F j) i = did Hs F i := by
          intro i hi
          unfold did
          simp only [if_neg (hne i hi), if_neg (hne (i + 1) (by omega))]
        have did0 : did (fun j => if j = j0 then h else Hs j) (fun j => if j = j0 then f else F j) j0 = ⟨j0, f, h.nx, decide (h1.wr = h.wr)⟩ := by
          unfold did
          simp only [if_true, if_neg n1, q2]
        by_cases hjj : j = j0
        · subst hjj
          simp only [if_true] at hW
          rw [did0]
          exact ⟨e7 hW, fun i a b => by omega⟩
        · have h3 : j0 + 1 ≤ j := by omega
          simp only [if_neg hjj] at hW
          rw [didne j h3]
          obtain ⟨r1, r2⟩ := q6 j h3 hj2 hW
          refine ⟨fun d hd => r1 d (e5 d hd), fun i hi1 hi2 hWi => ?_⟩
          by_cases hi0 : i = j0
          · subst hi0
            simp only [if_true] at hWi
            rw [did0]
            exact r1 _ (e6 hWi)
          · have h5 : j0 + 1 ≤ i := by omega
            simp only [if_neg hi0] at hWi
            rw [didne i h5]
            exact r2 i h5 hi2 hWi
    simp only [drawGo] at ho
    split at ho
    · rename_i hw
      obtain ⟨f, hf, ho1⟩ := bind_some ho
      obtain ⟨⟨v, h1⟩, hop, ho2⟩ := bind_some ho1
      simp only at ho2
      split at ho2
      · rename_i hchk
        replace hchk : (log.all fun d => (B.getD j0 0).testBit d.i || fr all d ⟨j0, f, h.nx, decide (h1.wr = h.wr)⟩) = true := hchk
        simp only [List.all_eq_true, Bool.or_eq_true] at hchk
        exact front true v f _ h1 _ hw.symm rfl (fun _ => ⟨hf, hop⟩) (fun h => by cases h) (fun d hd => List.mem_cons_of_mem _ hd) (fun _ => List.mem_cons_self) (fun _ => hchk) ho2
      · cases ho2
    · rename_i hw
      exact front false undef .pure _ h _ (by simpa using hw) rfl (fun h => by cases h) (fun _ => ⟨rfl, rfl⟩) (fun d hd => hd) (fun h => by cases h) (fun h => by cases h) ho
end
end Go.AM
namespace Go.AM
section
variable {P : Program} {E : Env} {rec : Rec}
theorem op_congr {t t2 : Array Value} {o : Oper} (h : H) (he : ∀ x ∈ o.op.operands, ev t x = ev t2 x) : op P E rec t o h = op P E rec t2 o h := by
  obtain ⟨dst, opn, type, pos, after, guard⟩ := o
  simp only at he
  have mapc : ∀ xs : Array Operand, (∀ x ∈ xs, ev t x = ev t2 x) → xs.map (ev t) = xs.map (ev t2) := fun xs hx => Array.map_congr_left hx
  have mapl : ∀ xs : List Operand, (∀ x ∈ xs, ev t x = ev t2 x) → xs.map (ev t) = xs.map (ev t2) := fun xs hx => List.map_congr_left hx
  have pairs : ∀ ps : List (Nat × Operand), (∀ p ∈ ps, ev t p.2 = ev t2 p.2) → (ps.map fun (i, x) => (i, ev t x)) = (ps.map fun (i, x) => (i, ev t2 x)) := fun ps hp =>
    List.map_congr_left fun p hm => by obtain ⟨i, x⟩ := p; simp only [hp (i, x) hm]
  have opt : ∀ q : Option Operand, (∀ x, q = some x → ev t x = ev t2 x) → q.map (ev t) = q.map (ev t2) := fun q hq => by
    cases q with
    | none => rfl
    | some x => simp only [Option.map_some, hq x rfl]
  unfold op
  simp only
  split
  · rfl
  · rename_i hneg
    clear hneg
    cases opn <;> simp only
    case move x => rw [he x (by simp [Op.operands])]
    case assign x => rw [he x (by simp [Op.operands])]
    case pick c x y => rw [he c (by simp [Op.operands]), he x (by simp [Op.operands]), he y (by simp [Op.operands])]
    case box e x => rw [he x (by simp [Op.operands])]
    case build T ps => rw [pairs _ (fun p hp => he p.2 (by simp only [Op.operands, List.mem_toArray, List.mem_map]; exact ⟨p, hp, rfl⟩))]
    case buildSlice T n ps => rw [pairs _ (fun p hp => he p.2 (by simp only [Op.operands, List.mem_toArray, List.mem_map]; exact ⟨p, hp, rfl⟩))]
    case load T x => rw [he x (by simp [Op.operands])]
    case store T x y => rw [he x (by simp [Op.operands]), he y (by simp [Op.operands])]
    case nilCheck x => rw [he x (by simp [Op.operands])]
    case binOp b T x y T2 => rw [he x (by simp [Op.operands]), he y (by simp [Op.operands])]
    case unOp b T x => rw [he x (by simp [Op.operands])]
    case convert s d x => rw [he x (by simp [Op.operands])]
    case makeFunc fn xs ys =>
      rw [mapc xs (fun x hx => he x (by simp only [Op.operands, Array.mem_append]; exact .inl hx)), mapc ys (fun x hx => he x (by simp only [Op.operands, Array.mem_append]; exact .inr hx))]
    case makeMap T rr => rw [opt rr (fun x hx => he x (by subst hx; simp [Op.operands]))]
    case makeSlice T l c => rw [he l (by simp [Op.operands]), he c (by simp [Op.operands])]
    case slice T x lo hi mx =>
      rw [he x (by simp [Op.operands]), opt lo (fun x hx => he x (by subst hx; simp [Op.operands])), opt hi (fun x hx => he x (by subst hx; simp [Op.operands])), opt mx (fun x hx => he x (by subst hx; simp [Op.operands]))]
    case fieldAddr s x f => rw [he x (by simp [Op.operands])]
    case field s x f => rw [he x (by simp [Op.operands])]
    case indexAddr s x i => rw [he x (by simp [Op.operands]), he i (by simp [Op.operands])]
    case index s x i => rw [he x (by simp [Op.operands]), he i (by simp [Op.operands])]
    case lookup T m k ok => rw [he m (by simp [Op.operands]), he k (by simp [Op.operands])]
    case mapUpdate T m k x => rw [he m (by simp [Op.operands]), he k (by simp [Op.operands]), he x (by simp [Op.operands])]
    case insert T m k x => rw [he m (by simp [Op.operands]), he k (by simp [Op.operands]), he x (by simp [Op.operands])]
    case mapEntry T m k => rw [he m (by simp [Op.operands]), he k (by simp [Op.operands])]
    case entryStore T m k x => rw [he m (by simp [Op.operands]), he k (by simp [Op.operands]), he x (by simp [Op.operands])]
    case extract x i => rw [he x (by simp [Op.operands])]
    case call c =>
      obtain ⟨callee, args, argTypes⟩ := c
      cases callee with
      | invoke x m => rfl
      | builtin b =>
        simp only
        rw [mapl _ (fun x hx => he x (by simp only [Op.operands, Call.operands]; simpa using hx))]
      | value f =>
        simp only
        rw [he f (by simp [Op.operands, Call.operands]), mapc args (fun x hx => he x (by simp only [Op.operands, Call.operands]; simp [hx]))]
theorem len_pure {tys : List TypeId} {e : TypeId} (hd : (tys[0]?).bind P.underlying = some (.slice e)) {L : List Value} {h h' : H} {v : Value} (hb : builtin P .len tys L h = some (v, h')) :
    h' = h ∧ ∀ h2, builtin P .len tys L h2 = some (v, h2) := by
  rcases L with _ | ⟨x, _ | ⟨y, l⟩⟩
  · simp [builtin] at hb
  · cases x <;> simp only [builtin, hd, reduceCtorEq] at hb ⊢
    cases hb
    exact ⟨rfl, fun _ => rfl⟩
  · simp [builtin] at hb
theorem min_pure {tys : List TypeId} {L : List Value} {h h' : H} {v : Value} (hb : builtin P .min tys L h = some (v, h')) : h' = h ∧ ∀ h2, builtin P .min tys L h2 = some (v, h2) := by
  simp only [builtin] at hb ⊢
  obtain ⟨u, h1, h2⟩ := map_some hb
  cases h2
  exact ⟨rfl, fun h2 => by rw [h1]; rfl⟩
theorem max_pure {tys : List TypeId} {L : List Value} {h h' : H} {v : Value} (hb : builtin P .max tys L h = some (v, h')) : h' = h ∧ ∀ h2, builtin P .max tys L h2 = some (v, h2) := by
  simp only [builtin] at hb ⊢
  obtain ⟨u, h1, h2⟩ := map_some hb
  cases h2
  exact ⟨rfl, fun h2 => by rw [h1]; rfl⟩
/-- An operation that touches nothing answers the same over any heap. -/
theorem pure_op {t : Array Value} {o : Oper} {h h' : H} {v : Value} (hf : fp P t o = some .pure) (ho : op P E rec t o h = some (v, h')) : h' = h ∧ ∀ h2, op P E rec t o h2 = some (v, h2) := by
  obtain ⟨dst, opn, type, pos, after, guard⟩ := o
  have pm : ∀ {x : Option Value}, x.map (fun v => (v, h)) = some (v, h') → h' = h ∧ ∀ h2 : H, x.map (fun v => (v, h2)) = some (v, h2) := by
    intro x hx
    obtain ⟨_, h1, hb⟩ := map_some hx
    cases hb
    exact ⟨rfl, fun h2 => by rw [h1]; rfl⟩
  have atn : ∀ {st : Bool} {ty : TypeId} {a : Value} {q : FP}, (match a with
      | .pointer (some ⟨b, o, none⟩) => (size? P ty).bind fun n => if n = 0 then none else some (if st then FP.st b o n else .ld b o n)
      | _ => none) = some q → q ≠ .pure := by
    intro st ty a q hq
    split at hq
    · obtain ⟨n, _, hq⟩ := bind_some hq
      split at hq
      · cases hq
      · cases st <;> cases hq <;> simp
    · cases hq
  unfold op at ho ⊢
  simp only at ho ⊢
  split at ho
  · cases ho
  · rename_i hok
    simp only [hok, Bool.false_eq_true, if_false]
    cases opn <;> simp only [fp, reduceCtorEq, Option.some.injEq] at hf <;> simp only at ho ⊢ <;> try (exact pm ho; done)
    case move x => cases ho; exact ⟨rfl, fun _ => rfl⟩
    case assign x => cases ho; exact ⟨rfl, fun _ => rfl⟩
    case pick c x y =>
      split at ho
      · cases ho; exact ⟨rfl, fun _ => rfl⟩
      · cases ho; exact ⟨rfl, fun _ => rfl⟩
      · cases ho
    case load T x => exact absurd rfl (atn (st := false) hf)
    case lookup T m k ok => split at hf <;> cases hf
    case slice T x lo hi mx =>
      generalize ev t x = u at hf ho ⊢
      split at hf
      · cases hf
      · rename_i n c
        have hs : ∀ h2, slice P T (.slice none n c) (lo.map (ev t)) (hi.map (ev t)) (mx.map (ev t)) h2 = slice P T (.slice none n c) (lo.map (ev t)) (hi.map (ev t)) (mx.map (ev t)) h := by
          intro h2
          cases hu : P.underlying T with
          | none => simp only [slice, hu]
          | some d => cases d <;> first | (simp only [slice, hu]; done) | (cases n <;> cases c <;> simp only [slice, hu])
        obtain ⟨u, h1, h2⟩ := map_some ho
        cases h2
        exact ⟨rfl, fun h2 => by rw [hs h2, h1]; rfl⟩
      · cases hf
    case store T x y => exact absurd rfl (atn (st := true) hf)
    case mapUpdate T m k x => split at hf <;> cases hf
    case insert T m k x => split at hf <;> cases hf
    case mapEntry T m k => split at hf <;> cases hf
    case entryStore T m k x => split at hf <;> cases hf
    case nilCheck x =>
      split at ho
      · cases ho; exact ⟨rfl, fun _ => rfl⟩
      · cases ho; exact ⟨rfl, fun _ => rfl⟩
      · cases ho
    case makeFunc fn xs ys =>
      split at ho
      · cases ho; exact ⟨rfl, fun _ => rfl⟩
      · cases ho
    case extract x i =>
      split at ho
      · exact pm ho
      · cases ho
    case call c =>
      obtain ⟨callee, args, argTypes⟩ := c
      cases callee with
      | invoke x m => cases ho
      | value f => simp at hf
      | builtin b =>
        simp only at ho hf ⊢
        cases b <;> simp only [reduceCtorEq, Option.some.injEq] at hf
        case len =>
          split at hf
          · rename_i e hd
            exact len_pure (by rw [Array.getElem?_toList]; exact hd) ho
          · cases hf
        case min => exact min_pure ho
        case max => exact max_pure ho
/-- A load: where it looks. -/
theorem ld_op {t : Array Value} {o : Oper} {h h' : H} {v : Value} {b q n : Nat} (hf : fp P t o = some (.ld b q n)) (ho : op P E rec t o h = some (v, h')) :
    h' = h ∧ 0 < n ∧ (∃ i, i < n ∧ (h.cell b (q + i)).isSome = true) ∧ ∀ h2 : H, (∀ i, i < n → (h.cell b (q + i)).isSome = true → h2.cell b (q + i) = h.cell b (q + i)) → op P E rec t o h2 = some (v, h2) := by
  obtain ⟨dst, opn, type, pos, after, guard⟩ := o
  unfold op at ho ⊢
  simp only at ho ⊢
  split at ho
  · cases ho
  · rename_i hok
    simp only [hok, Bool.false_eq_true, if_false]
    cases opn <;> simp only [fp, reduceCtorEq, Option.some.injEq] at hf <;> simp only at ho ⊢
    case load T x =>
      generalize hx : ev t x = u at hf ho ⊢
      split at hf
      · rename_i bb qq
        obtain ⟨m, hm, hf1⟩ := bind_some hf
        clear hf
        split at hf1
        · cases hf1
        · rename_i hm0
          simp only [Option.some.injEq] at hf1
          have hf2 : FP.ld bb qq m = FP.ld b q n := hf1
          simp only [FP.ld.injEq] at hf2
          obtain ⟨rfl, rfl, rfl⟩ := hf2
          obtain ⟨u, h1, h2⟩ := map_some ho
          cases h2
          refine ⟨rfl, by omega, ?_⟩
          simp only [load] at h1 ⊢
          cases ha : aggT P T with
          | none => rw [ha] at h1; cases h1
          | some g =>
            rw [ha] at h1
            cases g with
            | true =>
              simp only [hm, Option.bind_some] at h1 ⊢
              obtain ⟨l, h3, h4⟩ := map_some h1
              unfold H.rd at h3
              split at h3
              · rename_i c e own hblk
                split at h3
                · rename_i hle
                  have hc : ∀ i, i < m → h.cell bb (qq + i) = some c[qq + i]! := fun i hi => by
                    simp only [H.cell, hblk]
                    rw [List.getElem?_eq_getElem (by omega), getElem!_pos c _ (by omega)]
                  refine ⟨⟨0, by omega, by rw [hc 0 (by omega)]; rfl⟩, fun h2 hs => ?_⟩
                  have hs' := fun i hi => hs i hi (by rw [hc i hi]; rfl)
                  have h0 := hs' (m - 1) (by omega)
                  rw [hc (m - 1) (by omega)] at h0
                  unfold H.cell at h0
                  split at h0
                  · rename_i c2 e2 own2 hblk2
                    have hlt := (List.getElem?_eq_some_iff.1 h0).1
                    have : h2.rd bb qq m = some l := by
                      simp only [H.rd, hblk2]
                      rw [if_pos (by omega), ← h3]
                      congr 1
                      apply List.ext_getElem?
                      intro i
                      by_cases hi : i < m
                      · rw [List.getElem?_take_of_lt hi, List.getElem?_take_of_lt hi, List.getElem?_drop, List.getElem?_drop]
                        have := hs' i hi
                        simp only [H.cell, hblk, hblk2] at this
                        exact this
                      · rw [List.getElem?_eq_none (by simp; omega), List.getElem?_eq_none (by simp; omega)]
                    rw [this]
                    simp only [Option.map_some, h4]
                  · cases h0
                · cases h3
              · cases h3
            | false =>
              simp only at h1 ⊢
              refine ⟨⟨0, by omega, by rw [Nat.add_zero, h1]; rfl⟩, fun h2 hs => ?_⟩
              have := hs 0 (by omega) (by rw [Nat.add_zero, h1]; rfl)
              rw [Nat.add_zero, h1] at this
              rw [this]
              rfl
      · cases hf
    case lookup T m k ok => split at hf <;> cases hf
    case slice T x lo hi mx => split at hf <;> cases hf
    case store T x y =>
      split at hf
      · obtain ⟨m, hm, hf⟩ := bind_some hf
        split at hf <;> simp at hf
      · cases hf
    case mapUpdate T m k x => split at hf <;> cases hf
    case insert T m k x => split at hf <;> cases hf
    case mapEntry T m k => split at hf <;> cases hf
    case entryStore T m k x => split at hf <;> cases hf
    case call c =>
      obtain ⟨callee, args, argTypes⟩ := c
      cases callee with
      | invoke x m => simp at hf
      | value f => simp at hf
      | builtin b =>
        simp only at hf
        cases b <;> simp only [reduceCtorEq, Option.some.injEq] at hf
        split at hf <;> cases hf
/-- An operation that looks at one block. -/
theorem rb_op {t : Array Value} {o : Oper} {h h' : H} {v : Value} {b : Nat} (hf : fp P t o = some (.rb b)) (ho : op P E rec t o h = some (v, h')) :
    h' = h ∧ ∀ h2 : H, h2.blk b = h.blk b → op P E rec t o h2 = some (v, h2) := by
  obtain ⟨dst, opn, type, pos, after, guard⟩ := o
  unfold op at ho ⊢
  simp only at ho ⊢
  split at ho
  · cases ho
  · rename_i hok
    simp only [hok, Bool.false_eq_true, if_false]
    cases opn <;> simp only [fp, reduceCtorEq, Option.some.injEq] at hf <;> simp only at ho ⊢
    case load T x =>
      split at hf
      · obtain ⟨m, hm, hf⟩ := bind_some hf
        split at hf <;> simp at hf
      · cases hf
    case lookup T m k ok =>
      generalize ev t m = u at hf ho ⊢
      split at hf
      · rename_i bb
        cases hf
        obtain ⟨u, h1, h2⟩ := map_some ho
        cases h2
        refine ⟨rfl, fun h2 he => ?_⟩
        have : lookup P T (.map (some b)) (ev t k) ok h2 = lookup P T (.map (some b)) (ev t k) ok h := by simp only [lookup, mapOf, he]
        rw [this, h1]; rfl
      · cases hf
    case slice T x lo hi mx =>
      generalize ev t x = u at hf ho ⊢
      split at hf
      · rename_i bb q n c
        cases hf
        obtain ⟨u, h1, h2⟩ := map_some ho
        cases h2
        refine ⟨rfl, fun h2 he => ?_⟩
        have : slice P T (.slice (some ⟨b, q, none⟩) n c) (lo.map (ev t)) (hi.map (ev t)) (mx.map (ev t)) h2 = slice P T (.slice (some ⟨b, q, none⟩) n c) (lo.map (ev t)) (hi.map (ev t)) (mx.map (ev t)) h := by
          cases hu : P.underlying T with
          | none => simp only [slice, hu]
          | some d => cases d <;> simp only [slice, hu, he]
        rw [this, h1]; rfl
      · cases hf
      · cases hf
    case store T x y =>
      split at hf
      · obtain ⟨m, hm, hf⟩ := bind_some hf
        split at hf <;> simp at hf
      · cases hf
    case mapUpdate T m k x => split at hf <;> cases hf
    case insert T m k x => split at hf <;> cases hf
    case mapEntry T m k => split at hf <;> cases hf
    case entryStore T m k x => split at hf <;> cases hf
    case call c =>
      obtain ⟨callee, args, argTypes⟩ := c
      cases callee with
      | invoke x m => simp at hf
      | value f => simp at hf
      | builtin b =>
        simp only at hf
        cases b <;> simp only [reduceCtorEq, Option.some.injEq] at hf
        split at hf <;> cases hf
theorem rd_op {t : Array Value} {o : Oper} {h h' : H} {v : Value} (hf : fp P t o = some .rd) (ho : op P E rec t o h = some (v, h')) : h' = h := by
  obtain ⟨dst, opn, type, pos, after, guard⟩ := o
  have pm : ∀ {x : Option Value}, x.map (fun v => (v, h)) = some (v, h') → h' = h := by
    intro x hx
    obtain ⟨_, h1, hb⟩ := map_some hx
    cases hb
    rfl
  unfold op at ho
  simp only at ho
  split at ho
  · cases ho
  · rename_i hneg
    clear hneg
    cases opn <;> simp only [fp, reduceCtorEq, Option.some.injEq] at hf <;> simp only at ho <;> try (exact pm ho; done)
    case store T x y =>
      split at hf
      · obtain ⟨m, hm, hf⟩ := bind_some hf
        split at hf <;> simp at hf
      · cases hf
    case mapUpdate T m k x => split at hf <;> cases hf
    case insert T m k x => split at hf <;> cases hf
    case mapEntry T m k => split at hf <;> cases hf
    case entryStore T m k x => split at hf <;> cases hf
    case call c =>
      obtain ⟨callee, args, argTypes⟩ := c
      cases callee with
      | invoke x m => cases ho
      | value f => simp at hf
      | builtin b =>
        simp only at ho hf
        cases b <;> simp only [reduceCtorEq, Option.some.injEq] at hf
        generalize List.map (ev t) args.toList = L at ho
        rcases L with _ | ⟨x, _ | ⟨y, l⟩⟩
        · simp [builtin] at ho
        · simp only [builtin] at ho
          split at ho
          · cases ho; rfl
          · cases ho; rfl
          · split at ho
            · cases ho; rfl
            · cases ho
          · cases ho
        · simp [builtin] at ho
theorem setAt_other (vs : List Value) : ∀ (c : List Value) (o i : Nat), (i < o ∨ o + vs.length ≤ i) → (setAt c o vs)[i]? = c[i]? := by
  induction vs with
  | nil => intro c o i _; rfl
  | cons v vs ih =>
    intro c o i hi
    simp only [setAt]
    simp only [List.length_cons] at hi
    rw [ih (c.set o v) (o + 1) i (by omega), List.getElem?_set_ne (by omega)]
/-- A store: the cells that it leaves. -/
theorem st_op {t : Array Value} {o : Oper} {h h' : H} {v : Value} {b q n : Nat} (hf : fp P t o = some (.st b q n)) (ho : op P E rec t o h = some (v, h')) :
    ∀ b2 q2, (b2 ≠ b ∨ q2 < q ∨ q + n ≤ q2) → h'.cell b2 q2 = h.cell b2 q2 := by
  obtain ⟨dst, opn, type, pos, after, guard⟩ := o
  unfold op at ho
  simp only at ho
  split at ho
  · cases ho
  · rename_i hneg
    clear hneg
    cases opn <;> simp only [fp, reduceCtorEq, Option.some.injEq] at hf <;> simp only at ho
    case lookup T m k ok => split at hf <;> cases hf
    case slice T x lo hi mx => split at hf <;> cases hf
    case load T x =>
      split at hf
      · obtain ⟨m, hm, hf⟩ := bind_some hf
        split at hf <;> simp at hf
      · cases hf
    case store T x y =>
      obtain ⟨h1, hs, he⟩ := map_some ho
      cases he
      generalize ev t x = u at hf hs
      split at hf
      · rename_i bb qq
        obtain ⟨m, hm, hf1⟩ := bind_some hf
        clear hf
        split at hf1
        · cases hf1
        · simp only [Option.some.injEq] at hf1
          have hf2 : FP.st bb qq m = FP.st b q n := hf1
          simp only [FP.st.injEq] at hf2
          obtain ⟨rfl, rfl, rfl⟩ := hf2
          simp only [store] at hs
          split at hs
          · rename_i c e hblk
            split at hs
            · rename_i hc
              simp only [Option.some.injEq] at hs
              subst hs
              intro b2 q2 hd
              simp only [H.cell, H.set]
              by_cases hb : b2 = bb
              · subst hb
                simp only [if_true, hblk]
                refine setAt_other _ _ _ _ ?_
                rw [hm] at hc
                have : m = (ev t y).cells.size := Option.some.inj hc.1
                simp only [Array.length_toList]
                omega
              · rw [if_neg hb]
            · cases hs
          · cases hs
      · cases hf
    case mapUpdate T m k x => split at hf <;> cases hf
    case insert T m k x => split at hf <;> cases hf
    case mapEntry T m k => split at hf <;> cases hf
    case entryStore T m k x => split at hf <;> cases hf
    case call c =>
      obtain ⟨callee, args, argTypes⟩ := c
      cases callee with
      | invoke x m => simp at hf
      | value f => simp at hf
      | builtin b =>
        simp only at hf
        cases b <;> simp only [reduceCtorEq, Option.some.injEq] at hf
        split at hf <;> cases hf
end
end Go.AM
namespace Go.AM
def isMod : FP → Bool
  | .st _ _ _ => true
  | .md => true
  | .al => true
  | .wb _ => true
  | _ => false
def isHard : FP → Bool
  | .st _ _ _ => true
  | .md => true
  | .wb _ => true
  | _ => false
theorem hard_mod {f : FP} (h : isHard f = true) : isMod f = true := by cases f <;> first | rfl | cases h
section
variable {P : Program} {E : Env} {rec : Rec}
theorem fp_ne_al {t : Array Value} {o : Oper} : fp P t o ≠ some .al := by
  obtain ⟨dst, opn, type, pos, after, guard⟩ := o
  intro hf
  cases opn <;> simp only [fp, reduceCtorEq, Option.some.injEq] at hf
  case load T x =>
    split at hf
    · obtain ⟨m, hm, hf⟩ := bind_some hf
      split at hf <;> simp at hf
    · cases hf
  case lookup T m k ok => split at hf <;> cases hf
  case slice T x lo hi mx => split at hf <;> cases hf
  case store T x y =>
    split at hf
    · obtain ⟨m, hm, hf⟩ := bind_some hf
      split at hf <;> simp at hf
    · cases hf
  case mapUpdate T m k x => split at hf <;> cases hf
  case insert T m k x => split at hf <;> cases hf
  case mapEntry T m k => split at hf <;> cases hf
  case entryStore T m k x => split at hf <;> cases hf
  case call c =>
    obtain ⟨callee, args, argTypes⟩ := c
    cases callee with
    | invoke x m => simp at hf
    | value f => simp at hf
    | builtin b =>
      simp only at hf
      cases b <;> simp only [reduceCtorEq, Option.some.injEq] at hf
      split at hf <;> cases hf
/-- A map is written: the other blocks stay. -/
theorem wb_op {t : Array Value} {o : Oper} {h h' : H} {v : Value} {b : Nat} (hf : fp P t o = some (.wb b)) (ho : op P E rec t o h = some (v, h')) : ∀ b2, b2 ≠ b → h'.blk b2 = h.blk b2 := by
  have mu : ∀ {T : TypeId} {m k x : Value}, m = .map (some b) → mapUpdate P T m k x h = some h' → ∀ b2, b2 ≠ b → h'.blk b2 = h.blk b2 := by
    intro T m k x hm hs b2 hb
    subst hm
    unfold mapUpdate at hs
    split at hs
    · rename_i _ hq
      split at hs
      · obtain ⟨⟨_, _⟩, _, hb1⟩ := bind_some hs
        obtain ⟨_, _, hb1⟩ := bind_some hb1
        cases hq
        split at hb1
        · split at hb1
          · cases hb1; simp only [H.set]; rw [if_neg hb]
          · cases hb1
        · cases hb1; simp only [H.set]; rw [if_neg hb]
      · cases hs
    · cases hs
  obtain ⟨dst, opn, type, pos, after, guard⟩ := o
  unfold op at ho
  simp only at ho
  split at ho
  · cases ho
  · rename_i hneg
    clear hneg
    cases opn <;> simp only [fp, reduceCtorEq, Option.some.injEq] at hf <;> simp only at ho
    case mapUpdate T m k x =>
      split at hf
      · rename_i hq
        cases hf
        obtain ⟨h1, hs, he⟩ := map_some ho
        cases he
        exact mu hq hs
      · cases hf
    case insert T m k x =>
      split at hf
      · rename_i hq
        cases hf
        obtain ⟨h1, hs, he⟩ := map_some ho
        cases he
        exact mu hq hs
      · cases hf
    case mapEntry T m k =>
      split at hf
      · rename_i hq
        cases hf
        intro b2 hb
        rw [hq] at ho
        unfold mapEntry at ho
        split at ho
        · rename_i _ hq
          cases hq
          split at ho
          · obtain ⟨⟨_, _⟩, _, hb1⟩ := bind_some ho
            obtain ⟨_, _, hb1⟩ := bind_some hb1
            split at hb1
            · split at hb1
              · cases hb1; simp only [H.set]; rw [if_neg hb]
              · cases hb1
            · obtain ⟨_, _, hb1⟩ := map_some hb1
              cases hb1; simp only [H.set]; rw [if_neg hb]
          · cases ho
        · cases ho
      · cases hf
    case entryStore T m k x =>
      split at hf
      · rename_i hq
        cases hf
        obtain ⟨h1, hs, he⟩ := map_some ho
        cases he
        intro b2 hb
        rw [hq] at hs
        generalize ev t k = kk at hs
        unfold entryStore at hs
        split at hs
        · rename_i hq
          cases hq
          split at hs
          · obtain ⟨_, _, hs⟩ := map_some hs
            subst hs
            simp only [H.set]; rw [if_neg hb]
          · cases hs
        · cases hs
      · cases hf
    case load T x =>
      split at hf
      · obtain ⟨m, hm, hf⟩ := bind_some hf
        split at hf <;> simp at hf
      · cases hf
    case lookup T m k ok => split at hf <;> cases hf
    case slice T x lo hi mx => split at hf <;> cases hf
    case store T x y =>
      split at hf
      · obtain ⟨m, hm, hf⟩ := bind_some hf
        split at hf <;> simp at hf
      · cases hf
    case call c =>
      obtain ⟨callee, args, argTypes⟩ := c
      cases callee with
      | invoke x m => simp at hf
      | value f => simp at hf
      | builtin b =>
        simp only at hf
        cases b <;> simp only [reduceCtorEq, Option.some.injEq] at hf
        split at hf <;> cases hf
theorem fpA_al {al : Bool} {t : Array Value} {o : Oper} (h : fpA P al t o = some .al) : allocKind P o = true ∧ ∀ x ∈ o.op.operands, isInt (ev t x) = true := by
  unfold fpA at h
  split at h
  · rename_i hk
    simp only [Bool.and_eq_true] at hk
    split at h
    · rename_i hi
      simp only [List.all_eq_true] at hi
      exact ⟨hk.2, fun x hx => hi x (by simpa using hx)⟩
    · cases h
  · split at h
    · obtain ⟨_, _, h⟩ := map_some h; cases h
    · exact absurd h fp_ne_al
theorem fpA_or {al : Bool} {t : Array Value} {o : Oper} {f : FP} (h : fpA P al t o = some f) (hne : f ≠ .al) : (f = .rd ∧ lookKind o = true) ∨ (fp P t o = some f) := by
  unfold fpA at h
  split at h
  · split at h
    · cases h; exact absurd rfl hne
    · cases h
  · split at h
    · rename_i hk
      simp only [Bool.and_eq_true] at hk
      obtain ⟨_, _, h⟩ := map_some h
      exact .inl ⟨h.symm, hk.2⟩
    · exact .inr h
theorem fpA_eq {al : Bool} {t : Array Value} {o : Oper} {f : FP} (h : fpA P al t o = some f) (hne : f ≠ .al) (hnr : f ≠ .rd) : fp P t o = some f := (fpA_or h hne).resolve_left fun h => hnr h.1
theorem look_op {t : Array Value} {o : Oper} {h h' : H} {v : Value} (hk : lookKind o = true) (ho : op P E rec t o h = some (v, h')) : h' = h := by
  obtain ⟨dst, opn, type, pos, after, guard⟩ := o
  unfold lookKind at hk
  cases opn <;> simp only [Bool.false_eq_true] at hk
  unfold op at ho
  simp only at ho
  split at ho
  · cases ho
  · obtain ⟨_, _, hb⟩ := map_some ho
    cases hb
    rfl
theorem rdA_op {al : Bool} {t : Array Value} {o : Oper} {h h' : H} {v : Value} (hf : fpA P al t o = some .rd) (ho : op P E rec t o h = some (v, h')) : h' = h := by
  rcases fpA_or hf (by simp) with ⟨_, h1⟩ | h1
  · exact look_op h1 ho
  · exact rd_op h1 ho
theorem fp_congr {t t2 : Array Value} {o : Oper} (he : ∀ x ∈ o.op.operands, ev t x = ev t2 x) : fp P t o = fp P t2 o := by
  obtain ⟨dst, opn, type, pos, after, guard⟩ := o
  simp only at he
  cases opn <;> simp only [fp]
  case load T x => rw [he x (by simp [Op.operands])]
  case store T x y => rw [he x (by simp [Op.operands])]
  case lookup T m k ok => rw [he m (by simp [Op.operands])]
  case slice T x lo hi mx => rw [he x (by simp [Op.operands])]
  case mapUpdate T m k x => rw [he m (by simp [Op.operands])]
  case insert T m k x => rw [he m (by simp [Op.operands])]
  case mapEntry T m k => rw [he m (by simp [Op.operands])]
  case entryStore T m k x => rw [he m (by simp [Op.operands])]
theorem fpA_congr {al : Bool} {t t2 : Array Value} {o : Oper} (he : ∀ x ∈ o.op.operands, ev t x = ev t2 x) : fpA P al t o = fpA P al t2 o := by
  unfold fpA
  rw [fp_congr he]
  have : (o.op.operands.toList.all fun x => isInt (ev t x)) = (o.op.operands.toList.all fun x => isInt (ev t2 x)) := by
    rw [Bool.eq_iff_iff, List.all_eq_true, List.all_eq_true]
    exact ⟨fun h x hx => by rw [← he x (by simpa using hx)]; exact h x hx, fun h x hx => by rw [he x (by simpa using hx)]; exact h x hx⟩
  rw [this]
theorem isInt_lo {v : Value} (h : isInt v = true) : Lo 0 v := by
  cases v <;> simp only [isInt, Bool.false_eq_true] at h
  intro ι m v' q
  cases q
  exact .int _ _
/-- A row that shows no address. -/
def Cl (P : Program) (k : Blk) : Prop := ∀ ι n w b, BlkR P ι n w b k → BlkR P ι 0 w b k
theorem cl_row {c : List Value} {e : TypeId} (h : ∀ v ∈ c, Lo 0 v) : Cl P (.row c e true) := by
  intro ι n w b hb
  obtain ⟨C, E, h1, h2, h3, h4, h5⟩ := hb
  exact ⟨C, E, h1, h2, h3, h4, fun i v hv => by
    obtain ⟨v', a, r⟩ := h5 i v hv
    exact ⟨v', a, h v (List.mem_of_getElem? hv) _ _ _ r⟩⟩
theorem zero_lo {t : TypeId} {z : Value} (hz : zero? P t = some z) : ∀ v ∈ z.cells.toList, Lo 0 v := by
  intro v hv
  have h := VR.cells (zero_rel (ι := fun _ => ⟨0, 0, 0, 0⟩) (n := 0) hz)
  obtain ⟨i, hi, rfl⟩ := List.getElem_of_mem hv
  have h1 : z.cells[i]? = some z.cells.toList[i] := by
    rw [← Array.getElem?_toList, List.getElem?_eq_getElem hi]
  exact (h.2 i _ _ h1 h1).lo
theorem foldl_lo {off : Nat} : ∀ (L : List (Value × Nat)) (c : Array Value), (∀ v ∈ c.toList, Lo 0 v) → (∀ q ∈ L, Lo 0 q.1) → ∀ v ∈ (L.foldl (fun cs (cj : Value × Nat) => cs.setIfInBounds (off + cj.2) cj.1) c).toList, Lo 0 v := by
  intro L
  induction L with
  | nil => intro c hc _; exact hc
  | cons q L ihL =>
    intro c hc hL
    rw [List.foldl_cons]
    refine ihL _ (fun v hv => ?_) fun q' hq' => hL q' (List.mem_cons_of_mem _ hq')
    rw [Array.toList_setIfInBounds] at hv
    rcases List.mem_or_eq_of_mem_set hv with h | rfl
    · exact hc v h
    · exact hL q List.mem_cons_self
theorem fill_lo {place : Nat → Option (Nat × Nat)} : ∀ (ps : List (Nat × Value)) (c r : Array Value), (∀ p ∈ ps, isInt p.2 = true) → (∀ v ∈ c.toList, Lo 0 v) → Instr.fill place c ps = some r → ∀ v ∈ r.toList, Lo 0 v := by
  intro ps
  induction ps with
  | nil => intro c r _ hc h; cases h; exact hc
  | cons p ps ih =>
    intro c r hp hc h
    obtain ⟨i, x⟩ := p
    simp only [Instr.fill] at h
    have hx : isInt x = true := hp (i, x) List.mem_cons_self
    split at h
    · cases h
    · split at h
      · cases h
      · refine ih _ _ (fun p hm => hp p (List.mem_cons_of_mem _ hm)) ?_ h
        rw [← Array.foldl_toList]
        refine foldl_lo _ _ hc fun q hq => ?_
        have hm : q.1 ∈ x.cells := by
          obtain ⟨a, b⟩ := q
          have := Array.mem_toList_iff.1 hq
          exact Array.fst_mem_of_mem_zipIdx this
        cases x <;> simp only [isInt, Bool.false_eq_true] at hx
        simp [Value.cells] at hm
        rw [hm]
        exact isInt_lo rfl
theorem dep_ptr {ι ι' : Nat → Emb} {n m : Nat} {v' : Value} (he : ι' n = ι n) (h : VR ι m (.pointer (some ⟨n, 0, none⟩)) v') : VR ι' (n + 1) (.pointer (some ⟨n, 0, none⟩)) v' := by
  cases h with
  | ptr hb => rw [← he]; exact .ptr (by omega)
theorem dep_sl {ι ι' : Nat → Emb} {n m l c : Nat} {v' : Value} (he : ι' n = ι n) (h : VR ι m (.slice (some ⟨n, 0, none⟩) l c) v') : VR ι' (n + 1) (.slice (some ⟨n, 0, none⟩) l c) v' := by
  cases h with
  | sl hb hc hk hl => rw [← he] at hl ⊢; exact .sl (by omega) hc hk hl
  | sl0 hb hc => exact .sl0 (by omega) hc
theorem dep_map {ι ι' : Nat → Emb} {n m : Nat} {v' : Value} (he : ι' n = ι n) (h : VR ι m (.map (some n)) v') : VR ι' (n + 1) (.map (some n)) v' := by
  cases h with
  | map hb => rw [← he]; exact .map (by omega)
/-- A value that shows one block alone. -/
def Dep (n : Nat) (v : Value) : Prop := ∀ (ι ι' : Nat → Emb) (m : Nat) (v' : Value), ι' n = ι n → VR ι m v v' → VR ι' (n + 1) v v'
/-- A new block of plain values. -/
theorem al_op {t : Array Value} {o : Oper} {h h' : H} {v : Value} (hk : allocKind P o = true) (hi : ∀ x ∈ o.op.operands, isInt (ev t x) = true) (ho : op P E rec t o h = some (v, h')) :
    ∃ K, h' = h.new K ∧ K.own = true ∧ Cl P K ∧ Dep h.nx v ∧ ∀ h2 : H, h2.nx = h.nx → op P E rec t o h2 = some (v, h2.new K) := by
  obtain ⟨dst, opn, type, pos, after, guard⟩ := o
  simp only at hi
  unfold op at ho ⊢
  simp only at ho ⊢
  split at ho
  · cases ho
  · rename_i hok
    simp only [hok, Bool.false_eq_true, if_false]
    cases opn <;> simp only [allocKind, Bool.false_eq_true] at hk <;> simp only at ho ⊢
    case alloc T =>
      unfold alloc at ho ⊢
      obtain ⟨z, hz, hb⟩ := map_some ho
      cases hb
      exact ⟨_, rfl, rfl, cl_row (zero_lo hz), fun _ _ _ _ he h => dep_ptr he h, fun h2 hn => by rw [hz, hn]; rfl⟩
    case buildSlice T n ps =>
      unfold buildSlice at ho ⊢
      split at ho
      · rename_i el hu
        simp only [hu] at hk ⊢
        obtain ⟨s, hs, hb⟩ := bind_some ho
        obtain ⟨z, hz, hb⟩ := bind_some hb
        rw [hs, hz]
        simp only [Option.bind_some]
        split at hb
        · rename_i hc
          obtain ⟨cs, hf, hb⟩ := map_some hb
          cases hb
          refine ⟨_, rfl, rfl, cl_row ?_, fun _ _ _ _ he h => dep_sl he h, fun h2 hn => by rw [if_pos hc, hf, hn]; rfl⟩
          refine fill_lo _ _ _ (fun p hp => ?_) (fun v hv => ?_) hf
          · obtain ⟨q, hq, rfl⟩ := List.mem_map.1 hp
            exact hi q.2 (by simp only [Op.operands, List.mem_toArray, List.mem_map]; exact ⟨q, by simpa using hq, rfl⟩)
          · rw [Array.toList_map] at hv
            obtain ⟨j, _, rfl⟩ := List.mem_map.1 hv
            have hlt : j % z.cells.size < z.cells.size := Nat.mod_lt _ (by omega)
            rw [getElem!_pos z.cells _ hlt]
            exact zero_lo hz _ (by simp)
        · cases hb
      · cases ho
    case makeMap T rr =>
      cases rr with
      | some x => simp at hk
      | none =>
        simp only [Option.map_none, makeMap] at ho ⊢
        cases ho
        refine ⟨_, rfl, rfl, fun ι n w b hb => ?_, fun _ _ _ _ he h => dep_map he h, fun h2 hn => by rw [hn]⟩
        obtain ⟨es', h1, h2, h3⟩ := hb
        exact ⟨es', h1, h2, fun i e e' he => by simp at he⟩
    case makeSlice T l c =>
      generalize ev t l = L at ho ⊢
      generalize ev t c = C at ho ⊢
      unfold makeSlice at ho ⊢
      cases hu : P.underlying T with
      | none => rw [hu] at ho; simp at ho
      | some D =>
        rw [hu] at ho
        cases D <;> try (simp at ho; done)
        cases L <;> try (simp at ho; done)
        cases C <;> try (simp at ho; done)
        simp only at ho ⊢
        obtain ⟨i, hin, hb⟩ := bind_some ho
        obtain ⟨z, hz, hb⟩ := bind_some hb
        split at hb
        · rename_i hc
          cases hb
          refine ⟨_, rfl, rfl, cl_row (fun v hv => ?_), fun _ _ _ _ he h => dep_sl he h, fun h2 hn => by rw [hin, hz, Option.bind_some, Option.bind_some, if_pos hc, hn]⟩
          obtain ⟨j, _, rfl⟩ := List.mem_map.1 hv
          have hlt : j % z.cells.size < z.cells.size := Nat.mod_lt _ (by omega)
          rw [getElem!_pos z.cells _ hlt]
          exact zero_lo hz _ (by simp)
        · cases hb
end
section
variable {P : Program} {E : Env} {rec : Rec} {all : Array Oper} {T : Nat → Array Value} {Hs : Nat → H} {V : Nat → Value} {W : Nat → Bool} {F : Nat → FP}
def Mod (W : Nat → Bool) (F : Nat → FP) (j : Nat) : Prop := W j = true ∧ isMod (F j) = true
/-- A run in the text's order, with all that was looked at. -/
structure Good (P : Program) (E : Env) (rec : Rec) (all : Array Oper) (T : Nat → Array Value) (Hs : Nat → H) (V : Nat → Value) (W : Nat → Bool) (F : Nat → FP) : Prop where
  ok : OkD all
  run : Run P E rec all T Hs V W F 0
  chk : ∀ j, j < all.size → W j = true → ∀ i, i < j → W i = true → ((Region.before all).getD j 0).testBit i = true ∨ fr all (did Hs F i) (did Hs F j) = true
  rec_ : SoundR P E rec
theorem Good.const (g : Good P E rec all T Hs V W F) {j : Nat} (hj : j < all.size) (hm : ¬ Mod W F j) : Hs (j + 1) = Hs j := by
  obtain ⟨h1, h2, h3, h4⟩ := g.run.step j _ (Nat.zero_le _) (Array.getElem?_eq_getElem hj)
  cases hW : W j with
  | false => exact (h4 hW).2
  | true =>
    obtain ⟨hf, ho⟩ := h3 hW
    cases hF : F j with
    | pure => rw [hF] at hf; exact (pure_op (fpA_eq hf (by simp) (by simp)) ho).1
    | ld b q n => rw [hF] at hf; exact (ld_op (fpA_eq hf (by simp) (by simp)) ho).1
    | rd => rw [hF] at hf; exact rdA_op hf ho
    | rb b => rw [hF] at hf; exact (rb_op (fpA_eq hf (by simp) (by simp)) ho).1
    | st b q n => exact absurd ⟨hW, by rw [hF]; rfl⟩ hm
    | md => exact absurd ⟨hW, by rw [hF]; rfl⟩ hm
    | wb _ => exact absurd ⟨hW, by rw [hF]; rfl⟩ hm
    | al => exact absurd ⟨hW, by rw [hF]; rfl⟩ hm
theorem Good.grow (g : Good P E rec all T Hs V W F) {j : Nat} (hj : j < all.size) : Grow (Hs j) (Hs (j + 1)) := by
  obtain ⟨h1, h2, h3, h4⟩ := g.run.step j _ (Nat.zero_le _) (Array.getElem?_eq_getElem hj)
  cases hW : W j with
  | false => rw [(h4 hW).2]; exact .refl _
  | true => exact op_grows g.rec_ (h3 hW).2
theorem Good.grows (g : Good P E rec all T Hs V W F) {a : Nat} : ∀ d, a + d ≤ all.size → Grow (Hs a) (Hs (a + d)) := by
  intro d
  induction d with
  | zero => intro _; exact .refl _
  | succ d ih => intro h; exact (ih (by omega)).trans (g.grow (j := a + d) (by omega))
theorem Good.nx_le (g : Good P E rec all T Hs V W F) {a b : Nat} (hab : a ≤ b) (hb : b ≤ all.size) : (Hs a).nx ≤ (Hs b).nx := by
  obtain ⟨d, rfl⟩ := Nat.exists_eq_add_of_le hab
  exact (g.grows d hb).1
theorem Good.hs_eq (g : Good P E rec all T Hs V W F) : ∀ (d a : Nat), a + d ≤ all.size → (∀ i, a ≤ i → i < a + d → ¬ Mod W F i) → Hs (a + d) = Hs a := by
  intro d
  induction d with
  | zero => intro a _ _; rfl
  | succ d ih =>
    intro a hle hno
    rw [← Nat.add_assoc, g.const (j := a + d) (by omega) (hno _ (by omega) (by omega))]
    exact ih a (by omega) (fun i h1 h2 => hno i h1 (by omega))
/-- What an early block is. -/
theorem Good.alloc (g : Good P E rec all T Hs V W F) {j : Nat} {o : Oper} (ho : all[j]? = some o) (hW : W j = true) (hF : F j = .al) : ∃ K, Hs (j + 1) = (Hs j).new K ∧ K.own = true ∧ Cl P K ∧ Dep (Hs j).nx (V j) ∧ allocKind P o = true ∧ (∀ x ∈ o.op.operands, isInt (ev (T j) x) = true) ∧
    ∀ h2 : H, h2.nx = (Hs j).nx → op P E rec (T j) o h2 = some (V j, h2.new K) := by
  obtain ⟨h1, h2, h3, h4⟩ := g.run.step j _ (Nat.zero_le _) ho
  obtain ⟨hf, hop⟩ := h3 hW
  rw [hF] at hf
  obtain ⟨a1, a2⟩ := fpA_al hf
  obtain ⟨K, k1, k2, k3, k4, k5⟩ := al_op a1 a2 hop
  exact ⟨K, k1, k2, k3, k4, a1, a2, k5⟩
/-- What the slots hold when some operations have been done. -/
def Sl (all : Array Oper) (V : Nat → Value) (t : Array Value) (S : Nat → Prop) (tS : Array Value) : Prop :=
  tS.size = t.size ∧ ∀ u, (∀ i o, all[i]? = some o → S i → o.dst = some u → u < t.size → tS[u]? = some (V i)) ∧
    ((∀ i o, all[i]? = some o → S i → o.dst ≠ some u) → tS[u]? = t[u]?)
theorem Sl.put {t : Array Value} {S : Nat → Prop} {tS : Array Value} (ok : OkD all) (h : Sl all V t S tS) {j : Nat} {o : Oper} (ho : all[j]? = some o) :
    Sl all V t (fun i => S i ∨ i = j) (AM.put tS o.dst (V j)) := by
  refine ⟨?_, fun u => ⟨fun i p hp hS hd hu => ?_, fun hno => ?_⟩⟩
  · cases o.dst <;> simp [AM.put, h.1]
  · by_cases hij : i = j
    · subst hij
      rw [ho] at hp
      cases hp
      rw [hd]
      simp only [AM.put]
      rw [Array.getElem?_setIfInBounds, if_pos rfl, if_pos (by rw [h.1]; exact hu)]
    · have hSi : S i := by rcases hS with hS | hS; exact hS; exact absurd hS hij
      have h1 := (h.2 u).1 i p hp hSi hd hu
      cases hod : o.dst with
      | none => exact h1
      | some d =>
        simp only [AM.put]
        rw [Array.getElem?_setIfInBounds, if_neg, h1]
        intro hdu
        subst hdu
        exact ok.dst j o i p d ho hp hij hd hod
  · have h1 := (h.2 u).2 (fun i p hp hS => hno i p hp (.inl hS))
    have h2 := hno j o ho (.inr rfl)
    cases hod : o.dst with
    | none => exact h1
    | some d =>
      rw [hod] at h2
      simp only [AM.put]
      rw [Array.getElem?_setIfInBounds, if_neg (fun e => h2 (by rw [e])), h1]
theorem Good.slots (g : Good P E rec all T Hs V W F) : ∀ j, j ≤ all.size → Sl all V (T 0) (· < j) (T j) := by
  intro j
  induction j with
  | zero => intro _; exact ⟨rfl, fun u => ⟨fun i o _ h => by omega, fun _ => rfl⟩⟩
  | succ j ih =>
    intro hj
    have ho := Array.getElem?_eq_getElem (show j < all.size by omega)
    have h1 := (ih (by omega)).put (V := V) g.ok ho
    rw [(g.run.step j _ (Nat.zero_le _) ho).2.1]
    have : (fun i => i < j ∨ i = j) = (fun i => i < j + 1) := by
      funext i
      apply propext
      omega
    rw [this] at h1
    exact h1
/-- Slots: what lies below the bound, or a block that came early. -/
def Ar (P : Program) (all : Array Oper) (Hs : Nat → H) (V : Nat → Value) (W : Nat → Bool) (F : Nat → FP) (ι : Nat → Emb) (n k : Nat) (S : Nat → Prop) (tS tm : Array Value) : Prop :=
  ∀ (u : Nat) (v v' : Value), tS[u]? = some v → tm[u]? = some v' → VR ι n v v' ∨
    (u ∈ early P all ∧ ∃ p i o, p < all.size ∧ W p = true ∧ F p = .al ∧ S p ∧ k ≤ p ∧ p ≤ i ∧ all[i]? = some o ∧ S i ∧ o.dst = some u ∧ v = V p ∧ VR ι ((Hs p).nx + 1) v v')
/-- What has been done, and what the world is then: all that changes cells has been done up to k; new blocks up to k, and some that the abstract run has not come to. -/
structure Inv (P : Program) (E : Env) (all : Array Oper) (T : Nat → Array Value) (Hs : Nat → H) (V : Nat → Value) (W : Nat → Bool) (F : Nat → FP) (ι0 : Nat → Emb) (w0 : World) (d : List Deferred)
    (S : Nat → Prop) (a : Act) (w : World) (k : Nat) (ι : Nat → Emb) (tS : Array Value) : Prop where
  hk : k ≤ all.size
  hard : ∀ j, j < all.size → W j = true → isHard (F j) = true → (S j ↔ j < k)
  als : ∀ j, j < all.size → W j = true → F j = .al → j < k → S j
  rel : Rel P E ι (Hs k) w
  tr : Tr ι0 (Hs 0) w0 ι (Hs k) w
  sl : Sl all V (T 0) S tS
  arz : a.tmps.size = tS.size
  ar : Ar P all Hs V W F ι (Hs k).nx k S tS a.tmps
  pend : ∀ j, j < all.size → W j = true → F j = .al → S j → k ≤ j → ∃ K, Hs (j + 1) = (Hs j).new K ∧ K.own = true ∧ BlkR P ι 0 w (Hs j).nx K ∧ w0.heap.size ≤ (ι (Hs j).nx).g ∧
    ∀ b k', (Hs k).blk b = some k' → (ι b).g ≠ (ι (Hs j).nx).g
  dis : ∀ i j, i < all.size → j < all.size → W i = true → W j = true → F i = .al → F j = .al → S i → S j → k ≤ i → i < j → (ι (Hs i).nx).g ≠ (ι (Hs j).nx).g
  defers : a.defers = d
  closed : ∀ j, j < all.size → S j → ∀ i, ((Region.before all).getD j 0).testBit i = true → S i
/-- A slot that an operation reads holds what it held in the text's order. -/
theorem Good.same_slot (g : Good P E rec all T Hs V W F) {S : Nat → Prop} {tS : Array Value} (hsl : Sl all V (T 0) S tS) (hcl : ∀ j, j < all.size → S j → ∀ i, ((Region.before all).getD j 0).testBit i = true → S i)
    {j : Nat} {o : Oper} (ho : all[j]? = some o) (hj : j < all.size) (hS : ¬ S j) (hpre : ∀ i, ((Region.before all).getD j 0).testBit i = true → S i) {u : Tmp} (hu : u ∈ reads o) : tS[u]? = (T j)[u]? := by
  have hT := g.slots j (Nat.le_of_lt hj)
  have key : ∀ i p, all[i]? = some p → p.dst = some u → i ≠ j → (S i ↔ i < j) := by
    intro i p hp hd hne
    rcases g.ok.rd j o i p u ho hp hne hd hu with h | h
    · exact ⟨fun _ => before_lt all g.ok.back j hj i h, fun _ => hpre i h⟩
    · have hi : i < all.size := (Array.getElem?_eq_some_iff.1 hp).1
      have hlt := before_lt all g.ok.back i hi j h
      exact ⟨fun hSi => absurd (hcl i hi hSi j h) hS, fun h2 => by omega⟩
  by_cases hex : ∃ i p, all[i]? = some p ∧ p.dst = some u ∧ i ≠ j ∧ i < j
  · obtain ⟨i, p, hp, hd, hne, hlt⟩ := hex
    by_cases hus : u < (T 0).size
    · rw [(hsl.2 u).1 i p hp ((key i p hp hd hne).2 hlt) hd hus, (hT.2 u).1 i p hp hlt hd hus]
    · rw [Array.getElem?_eq_none (show tS.size ≤ u by have h9 : tS.size = (T 0).size := hsl.1; rw [h9]; exact Nat.not_lt.1 hus), Array.getElem?_eq_none (show (T j).size ≤ u by have h9 : (T j).size = (T 0).size := hT.1; rw [h9]; exact Nat.not_lt.1 hus)]
  · rw [(hsl.2 u).2, (hT.2 u).2]
    · intro i p hp hlt hd
      exact hex ⟨i, p, hp, hd, by omega, hlt⟩
    · intro i p hp hSi hd
      by_cases hne : i = j
      · subst hne; exact hS hSi
      · exact hex ⟨i, p, hp, hd, hne, (key i p hp hd hne).1 hSi⟩
theorem reads_mem {o : Oper} {u : Tmp} (h : Operand.tmp u ∈ o.op.operands) : u ∈ reads o := by
  unfold reads
  rw [List.mem_filterMap]
  exact ⟨.tmp u, by simpa using h, rfl⟩
theorem Good.same_ev (g : Good P E rec all T Hs V W F) {S : Nat → Prop} {tS : Array Value} (hsl : Sl all V (T 0) S tS) (hcl : ∀ j, j < all.size → S j → ∀ i, ((Region.before all).getD j 0).testBit i = true → S i)
    {j : Nat} {o : Oper} (ho : all[j]? = some o) (hj : j < all.size) (hS : ¬ S j) (hpre : ∀ i, ((Region.before all).getD j 0).testBit i = true → S i) :
    ∀ x ∈ o.op.operands, ev (T j) x = ev tS x := by
  intro x hx
  cases x with
  | tmp u =>
    have := g.same_slot hsl hcl ho hj hS hpre (reads_mem hx)
    simp only [ev, Array.getD_eq_getD_getElem?, this]
  | const v => rfl
  | global v => rfl
  | func v => rfl
theorem Good.same_wanted (g : Good P E rec all T Hs V W F) {S : Nat → Prop} {tS : Array Value} (hsl : Sl all V (T 0) S tS) {j : Nat} {o : Oper} (ho : all[j]? = some o) (hj : j < all.size)
    (hpre : ∀ i, ((Region.before all).getD j 0).testBit i = true → S i) : Region.wanted o (yielded all tS) = W j := by
  rw [(g.run.step j o (Nat.zero_le _) ho).1]
  unfold Region.wanted
  cases hg : o.guard with
  | none => rfl
  | some q =>
    obtain ⟨gi, b⟩ := q
    simp only
    obtain ⟨hb, hlt⟩ := g.ok.guard j o ho gi b hg
    have hSg := hpre gi hb
    have hT := g.slots j (Nat.le_of_lt hj)
    have : yielded all tS gi = yielded all (T j) gi := by
      unfold yielded
      have hog := Array.getElem?_eq_getElem (show gi < all.size by omega)
      rw [hog]
      simp only [Option.bind_some]
      cases hd : all[gi].dst with
      | none => rfl
      | some d =>
        simp only [Option.bind_some]
        have : tS[d]? = (T j)[d]? := by
          by_cases hus : d < (T 0).size
          · rw [(hsl.2 d).1 gi _ hog hSg hd hus, (hT.2 d).1 gi _ hog hlt hd hus]
          · rw [Array.getElem?_eq_none (show tS.size ≤ d by have h9 : tS.size = (T 0).size := hsl.1; rw [h9]; exact Nat.not_lt.1 hus), Array.getElem?_eq_none (show (T j).size ≤ d by have h9 : (T j).size = (T 0).size := hT.1; rw [h9]; exact Nat.not_lt.1 hus)]
        rw [this]
    rw [this]
/-- Of two that are not free, the earlier one has been done first. -/
theorem Good.ord (g : Good P E rec all T Hs V W F) {S : Nat → Prop} (hcl : ∀ j, j < all.size → S j → ∀ i, ((Region.before all).getD j 0).testBit i = true → S i)
    {j : Nat} (hj : j < all.size) (hW : W j = true) (hS : ¬ S j) (hpre : ∀ i, ((Region.before all).getD j 0).testBit i = true → S i) {i : Nat} (hi : i < all.size) (hWi : W i = true) :
    (fr all (did Hs F i) (did Hs F j) = false → i < j → S i) ∧ (fr all (did Hs F j) (did Hs F i) = false → j < i → ¬ S i) := by
  constructor
  · intro hf h
    rcases g.chk j hj hW i h hWi with h1 | h1
    · exact hpre i h1
    · rw [hf] at h1; cases h1
  · intro hf h hSi
    rcases g.chk i hi hWi j h hW with h1 | h1
    · exact hS (hcl i hi hSi j h1)
    · rw [hf] at h1; cases h1
theorem twin_ne {x y : Did} (h : (∀ b, x.f ≠ .rb b) ∨ (∀ b, y.f ≠ .wb b)) : twin all x y = false := by
  unfold twin
  split
  · rename_i b b' h1 h2
    rcases h with h | h
    · exact absurd h1 (h _)
    · exact absurd h2 (h _)
  · rfl
theorem free_hard {Hs : Nat → H} {F : Nat → FP} {i j : Nat} (hi : isHard (F i) = true) (hj : F j = .rd ∨ isHard (F j) = true) : fr all (did Hs F i) (did Hs F j) = false ∧ fr all (did Hs F j) (did Hs F i) = false := by
  have t1 : twin all (did Hs F i) (did Hs F j) = false := twin_ne (.inl fun b h => by rw [show (did Hs F i).f = F i from rfl] at h; rw [h] at hi; cases hi)
  have t2 : twin all (did Hs F j) (did Hs F i) = false := twin_ne (.inl fun b h => by
    rw [show (did Hs F j).f = F j from rfl] at h
    rcases hj with h2 | h2
    · rw [h] at h2; cases h2
    · rw [h] at h2; cases h2)
  unfold fr
  rw [t1, t2, Bool.or_false, Bool.or_false]
  unfold free did
  simp only
  rcases hj with h2 | h2
  · rw [h2]
    cases hFi : F i <;> rw [hFi] at hi <;> first | exact ⟨rfl, rfl⟩ | cases hi
  · cases hFi : F i <;> rw [hFi] at hi <;> first | (cases hi; done) | (cases hFj : F j <;> rw [hFj] at h2 <;> first | exact ⟨rfl, rfl⟩ | cases h2)
theorem free_al {Hs : Nat → H} {F : Nat → FP} {i j : Nat} (hi : F i = .al) (hj : F j = .rd ∨ isHard (F j) = true) : fr all (did Hs F i) (did Hs F j) = false ∧ (F j = .rd → fr all (did Hs F j) (did Hs F i) = false) := by
  have t1 : twin all (did Hs F i) (did Hs F j) = false := twin_ne (.inl fun b h => by rw [show (did Hs F i).f = F i from rfl] at h; rw [h] at hi; cases hi)
  have t2 : twin all (did Hs F j) (did Hs F i) = false := twin_ne (.inr fun b h => by rw [show (did Hs F i).f = F i from rfl] at h; rw [h] at hi; cases hi)
  unfold fr
  rw [t1, t2, Bool.or_false, Bool.or_false]
  unfold free did
  simp only
  rw [hi]
  rcases hj with h2 | h2
  · rw [h2]; exact ⟨rfl, fun _ => rfl⟩
  · cases hFj : F j <;> rw [hFj] at h2 <;> first | (cases h2; done) | exact ⟨rfl, fun h => by cases h⟩
/-- The abstract run stands where something that has not been done would change the heap, or at the end. -/
def Nrm (W : Nat → Bool) (F : Nat → FP) (n : Nat) (S : Nat → Prop) (k : Nat) : Prop := k = n ∨ (k < n ∧ Mod W F k ∧ ¬ S k)
/-- An operation that is ordered with all that changes something sees the very heap. -/
theorem Good.same_heap (g : Good P E rec all T Hs V W F) {S : Nat → Prop} {k : Nat} (hk : k ≤ all.size) (hhard : ∀ j, j < all.size → W j = true → isHard (F j) = true → (S j ↔ j < k)) (hals : ∀ j, j < all.size → W j = true → F j = .al → j < k → S j)
    (hn : Nrm W F all.size S k) (hcl : ∀ j, j < all.size → S j → ∀ i, ((Region.before all).getD j 0).testBit i = true → S i) {j : Nat} (hj : j < all.size) (hW : W j = true) (hS : ¬ S j)
    (hpre : ∀ i, ((Region.before all).getD j 0).testBit i = true → S i) (hF : F j = .rd ∨ isHard (F j) = true) : Hs k = Hs j ∧ (isHard (F j) = true → k = j) := by
  have ord := fun {i : Nat} (hi : i < all.size) (hWi : W i = true) => g.ord hcl hj hW hS hpre hi hWi
  have hle : ¬ k < j := by
    intro hlt
    rcases hn with rfl | ⟨hkn, hm, hSk⟩
    · omega
    · refine hSk ((ord hkn hm.1).1 ?_ hlt)
      cases hFk : F k with
      | st b q n => exact (free_hard (by rw [hFk]; rfl) hF).1
      | md => exact (free_hard (by rw [hFk]; rfl) hF).1
      | wb _ => exact (free_hard (by rw [hFk]; rfl) hF).1
      | al => exact (free_al hFk hF).1
      | pure => have := hm.2; rw [hFk] at this; cases this
      | ld _ _ _ => have := hm.2; rw [hFk] at this; cases this
      | rb _ => have := hm.2; rw [hFk] at this; cases this
      | rd => have := hm.2; rw [hFk] at this; cases this
  have hhk : isHard (F j) = true → k = j := by
    intro hh
    have h1 : ¬ j < k := fun h => hS ((hhard j hj hW hh).2 h)
    omega
  refine ⟨?_, hhk⟩
  rcases hF with hrd | hh
  · obtain ⟨d, hd⟩ := Nat.exists_eq_add_of_le (show j ≤ k by omega)
    rw [hd]
    refine g.hs_eq d j (by omega) fun i h1 h2 hm => ?_
    have hi : i < all.size := by omega
    have hij : i ≠ j := by rintro rfl; have := hm.2; rw [hrd] at this; cases this
    have hSi : S i := by
      cases hFi : F i with
      | st b q n => exact (hhard i hi hm.1 (by rw [hFi]; rfl)).2 (by omega)
      | md => exact (hhard i hi hm.1 (by rw [hFi]; rfl)).2 (by omega)
      | wb _ => exact (hhard i hi hm.1 (by rw [hFi]; rfl)).2 (by omega)
      | al => exact hals i hi hm.1 hFi (by omega)
      | pure => have := hm.2; rw [hFi] at this; cases this
      | ld _ _ _ => have := hm.2; rw [hFi] at this; cases this
      | rb _ => have := hm.2; rw [hFi] at this; cases this
      | rd => have := hm.2; rw [hFi] at this; cases this
    refine (ord hi hm.1).2 ?_ (by omega) hSi
    cases hFi : F i with
    | st b q n => exact (free_hard (i := i) (j := j) (by rw [hFi]; rfl) (.inl hrd)).2
    | md => exact (free_hard (i := i) (j := j) (by rw [hFi]; rfl) (.inl hrd)).2
    | wb _ => exact (free_hard (i := i) (j := j) (by rw [hFi]; rfl) (.inl hrd)).2
    | al => exact (free_al hFi (.inl hrd)).2 hrd
    | pure => have := hm.2; rw [hFi] at this; cases this
    | ld _ _ _ => have := hm.2; rw [hFi] at this; cases this
    | rb _ => have := hm.2; rw [hFi] at this; cases this
    | rd => have := hm.2; rw [hFi] at this; cases this
  · rw [hhk hh]
/-- Where a load or a look may come upon another heap: what it sees lies below whatever is yet to come. -/
theorem Good.below (g : Good P E rec all T Hs V W F) {S : Nat → Prop} {k : Nat} (hn : Nrm W F all.size S k) {j : Nat} (hj : j < all.size) (hW : W j = true) (hkj : k < j)
    (hpre : ∀ i, ((Region.before all).getD j 0).testBit i = true → S i) {b : Nat} (hF : (∃ q n, F j = .ld b q n) ∨ F j = .rb b) : b < (Hs k).nx := by
  rcases hn with rfl | ⟨hkn, hm, hSk⟩
  · omega
  · rcases g.chk j hj hW k hkj hm.1 with h1 | h1
    · exact absurd (hpre k h1) hSk
    · unfold fr at h1
      rw [twin_ne (.inl fun b h => by have := hm.2; rw [show F k = .rb b from h] at this; cases this), Bool.or_false] at h1
      unfold free did at h1
      simp only at h1
      rcases hF with ⟨q, n, hF⟩ | hF <;> rw [hF] at h1 <;> cases hFk : F k <;> simp only [hFk, Bool.and_eq_true, decide_eq_true_eq, Bool.false_eq_true] at h1 <;> first
        | exact h1.1
        | (have := hm.2; rw [hFk] at this; cases this)
/-- What an operation that may change something leaves of what another one, that is free of it, has looked at. -/
theorem Good.leaves (g : Good P E rec all T Hs V W F) {i : Nat} (hi : i < all.size) {j : Nat} {b : Nat} (h : Mod W F i → free (did Hs F i) (did Hs F j) = true ∨ free (did Hs F j) (did Hs F i) = true ∨ (b < (Hs i).nx ∧ F i = .al)) :
    (∀ q n, F j = .ld b q n → ∀ c, c < n → (Hs (i + 1)).cell b (q + c) = (Hs i).cell b (q + c)) ∧ (F j = .rb b → (Hs (i + 1)).blk b = (Hs i).blk b) := by
  by_cases hm : Mod W F i
  · obtain ⟨h1, h2, h3, h4⟩ := g.run.step i _ (Nat.zero_le _) (Array.getElem?_eq_getElem hi)
    obtain ⟨hf, ho⟩ := h3 hm.1
    have keep : b < (Hs i).nx ∧ (Hs (i + 1)).wr = (Hs i).wr → (∀ q n, F j = .ld b q n → ∀ c, c < n → (Hs (i + 1)).cell b (q + c) = (Hs i).cell b (q + c)) ∧ (F j = .rb b → (Hs (i + 1)).blk b = (Hs i).blk b) := fun hq => by
      have := (g.grow hi).2.2.1 hq.2 b hq.1
      exact ⟨fun q n _ c _ => by simp only [H.cell, this], fun _ => this⟩
    cases hFi : F i with
    | st b' q' n' =>
      rw [hFi] at hf
      have hst := st_op (fpA_eq hf (by simp) (by simp)) ho
      refine ⟨fun q n hF c hc => ?_, fun hF => ?_⟩
      · have hdis : b ≠ b' ∨ q + n ≤ q' ∨ q' + n' ≤ q := by
          rcases h hm with h | h | h
          · unfold free did at h
            simp only [hFi, hF, Bool.and_eq_true, decide_eq_true_eq] at h
            exact h.2
          · unfold free did at h
            simp only [hFi, hF, Bool.and_eq_true, decide_eq_true_eq] at h
            exact h.2
          · rw [hFi] at h; cases h.2
        refine hst b (q + c) ?_
        rcases hdis with h | h | h
        · exact .inl h
        · exact .inr (.inl (by omega))
        · exact .inr (.inr (by omega))
      · rcases h hm with h | h | h
        · unfold free did at h; simp [hFi, hF] at h
        · unfold free did at h; simp [hFi, hF] at h
        · rw [hFi] at h; cases h.2
    | md =>
      refine ⟨fun q n hF => ?_, fun hF => ?_⟩
      · refine (keep ?_).1 q n hF
        rcases h hm with h | h | h
        · unfold free did at h
          simp only [hFi, hF, Bool.and_eq_true, decide_eq_true_eq] at h
          exact h
        · unfold free did at h
          simp only [hFi, hF, Bool.and_eq_true, decide_eq_true_eq] at h
          exact h
        · rw [hFi] at h; cases h.2
      · refine (keep ?_).2 hF
        rcases h hm with h | h | h
        · unfold free did at h
          simp only [hFi, hF, Bool.and_eq_true, decide_eq_true_eq] at h
          exact h
        · unfold free did at h
          simp only [hFi, hF, Bool.and_eq_true, decide_eq_true_eq] at h
          exact h
        · rw [hFi] at h; cases h.2
    | wb b' =>
      rw [hFi] at hf
      have hwb := wb_op (fpA_eq hf (by simp) (by simp)) ho
      refine ⟨fun q n hF c hc => ?_, fun hF => ?_⟩
      · have hne : b ≠ b' := by
          rcases h hm with h | h | h
          · unfold free did at h
            simp only [hFi, hF, Bool.and_eq_true, decide_eq_true_eq] at h
            exact h.2
          · unfold free did at h
            simp only [hFi, hF, Bool.and_eq_true, decide_eq_true_eq] at h
            exact h.2
          · rw [hFi] at h; cases h.2
        simp only [H.cell, hwb b hne]
      · have hne : b ≠ b' := by
          rcases h hm with h | h | h
          · unfold free did at h
            simp only [hFi, hF, Bool.and_eq_true, decide_eq_true_eq] at h
            exact h.2
          · unfold free did at h
            simp only [hFi, hF, Bool.and_eq_true, decide_eq_true_eq] at h
            exact h.2
          · rw [hFi] at h; cases h.2
        exact hwb b hne
    | al =>
      obtain ⟨K, hK, _⟩ := g.alloc (Array.getElem?_eq_getElem hi) hm.1 hFi
      have hwr : (Hs (i + 1)).wr = (Hs i).wr := by rw [hK]; rfl
      refine ⟨fun q n hF => ?_, fun hF => ?_⟩
      · refine (keep ⟨?_, hwr⟩).1 q n hF
        rcases h hm with h | h | h
        · unfold free did at h
          simp only [hFi, hF, Bool.and_eq_true, decide_eq_true_eq] at h
          exact h.1
        · unfold free did at h
          simp only [hFi, hF, Bool.and_eq_true, decide_eq_true_eq] at h
          exact h.1
        · exact h.1
      · refine (keep ⟨?_, hwr⟩).2 hF
        rcases h hm with h | h | h
        · unfold free did at h
          simp only [hFi, hF, Bool.and_eq_true, decide_eq_true_eq] at h
          exact h.1
        · unfold free did at h
          simp only [hFi, hF, Bool.and_eq_true, decide_eq_true_eq] at h
          exact h.1
        · exact h.1
    | pure => have := hm.2; rw [hFi] at this; cases this
    | ld _ _ _ => have := hm.2; rw [hFi] at this; cases this
    | rb _ => have := hm.2; rw [hFi] at this; cases this
    | rd => have := hm.2; rw [hFi] at this; cases this
  · rw [g.const hi hm]
    exact ⟨fun _ _ _ _ _ => rfl, fun _ => rfl⟩
theorem findK_snoc {kt : TypeId} {k : Value} {e : MapEntry} : ∀ (es : List MapEntry) (i : Nat), findK P kt k es i = some none → findK P kt k (es ++ [e]) i = (eqV P 10 kt k e.key).bind fun q => if q then some (some (i + es.length, e.val)) else some none := by
  intro es
  induction es with
  | nil => intro i _; simp only [List.nil_append, findK, List.length_nil, Nat.add_zero]
  | cons x es ih =>
    intro i h
    simp only [List.cons_append, findK] at h ⊢
    obtain ⟨q, h1, h2⟩ := bind_some h
    rw [h1, Option.bind_some]
    cases q with
    | true => simp at h2
    | false =>
      simp only [Bool.false_eq_true, if_false] at h2 ⊢
      rw [ih (i + 1) h2, List.length_cons, show i + 1 + es.length = i + (es.length + 1) by omega]
theorem findK_mod {kt : TypeId} {k v : Value} (hk : eqV P 10 kt k k = some true) : ∀ (es : List MapEntry) (i j : Nat), findK P kt k es i = some (some (i + j, v)) → findK P kt k (es.modify j fun e => { e with key := k }) i = some (some (i + j, v)) := by
  intro es
  induction es with
  | nil => intro i j h; cases h
  | cons x es ih =>
    intro i j h
    simp only [findK] at h
    obtain ⟨q, h1, h2⟩ := bind_some h
    cases q with
    | true =>
      simp only [if_true, Option.some.injEq, Prod.mk.injEq] at h2
      obtain ⟨h3, h4⟩ := h2
      obtain rfl : j = 0 := by omega
      simp only [List.modify_cons, if_true, findK, hk, Option.bind_some, h4]
      rfl
    | false =>
      simp only [Bool.false_eq_true, if_false] at h2
      cases j with
      | zero =>
        exfalso
        have low : ∀ (es : List MapEntry) (i : Nat) (r : Nat × Value), findK P kt k es i = some (some r) → i ≤ r.1 := by
          intro es
          induction es with
          | nil => intro i r h; cases h
          | cons x es ih =>
            intro i r h
            simp only [findK] at h
            obtain ⟨q, h1, h2⟩ := bind_some h
            cases q with
            | true => simp at h2; rw [← h2]; exact Nat.le_refl _
            | false =>
              simp only [Bool.false_eq_true, if_false] at h2
              have := ih _ _ h2
              omega
        have := low _ _ _ h2
        simp only [Nat.add_zero] at this
        omega
      | succ j =>
        rw [List.modify_succ_cons]
        simp only [findK, h1, Option.bind_some, Bool.false_eq_true, if_false]
        have := ih (i + 1) j (by rw [h2, show i + 1 + j = i + (j + 1) by omega])
        rw [this, show i + 1 + j = i + (j + 1) by omega]
/-- A look sees the same behind the first half of a change of its own entry. -/
theorem lookup_entry {t : TypeId} {m k v u : Value} {h h' : H} (hl : lookup P t m k false h = some v) (he : mapEntry P t m k h = some (u, h')) : lookup P t m k false h' = some v := by
  unfold mapEntry at he
  split at he
  · rename_i kt vt b hu
    split at he
    · rename_i hkey
      have hkk := (isKey_parts hkey).2.2
      obtain ⟨⟨es, c⟩, hmo, he1⟩ := bind_some he
      obtain ⟨r, hf, he2⟩ := bind_some he1
      simp only [lookup, hu, hkey, if_true, hmo, Option.bind_some, hf] at hl
      split at he2
      · rename_i i v0
        split at he2
        · simp only [Option.some.injEq, Prod.mk.injEq] at he2
          obtain ⟨_, rfl⟩ := he2
          simp only [Bool.false_eq_true, if_false, Option.some.injEq] at hl
          subst hl
          have := findK_mod hkk es 0 i (by rw [Nat.zero_add]; exact hf)
          simp only [lookup, hu, hkey, if_true, mapOf, H.set, Option.bind_some, this, Bool.false_eq_true, if_false]
        · cases he2
      · obtain ⟨z, hz, he3⟩ := map_some he2
        simp only [Prod.mk.injEq] at he3
        obtain ⟨_, rfl⟩ := he3
        simp only [hz, Option.map_some, Bool.false_eq_true, if_false, Option.some.injEq] at hl
        subst hl
        have := findK_snoc (e := { key := k, val := z, born := c }) es 0 hf
        rw [hkk, Option.bind_some] at this
        simp only [if_true] at this
        simp only [lookup, hu, hkey, if_true, mapOf, H.set, Option.bind_some, this, Bool.false_eq_true, if_false]
    · cases he
  · cases he
theorem twin_op {all : Array Oper} {i j : Nat} {oi oj : Oper} {Ti Tj : Array Value} {v u : Value} {h h' : H} (ht : twinOps all j i = true) (hj : all[j]? = some oj) (hi : all[i]? = some oi)
    (hs : ∀ u, (∀ p, j ≤ p → p < i → ∀ o, all[p]? = some o → o.dst ≠ some u) → Ti.getD u undef = Tj.getD u undef)
    (ho : op P E rec Tj oj h = some (v, h)) (he : op P E rec Ti oi h = some (u, h')) : op P E rec Tj oj h' = some (v, h') := by
  unfold twinOps at ht
  rw [hj, hi] at ht
  split at ht
  · rename_i d1 t m k y1 p1 a1 g1 d2 t' m' k' y2 p2 a2 g2 e1 e2
    cases e1; cases e2
    simp only [Bool.and_eq_true, beq_iff_eq, List.all_eq_true] at ht
    obtain ⟨⟨⟨rfl, rfl⟩, rfl⟩, hd⟩ := ht
    have slot : ∀ u, u = m ∨ u = k → Ti.getD u undef = Tj.getD u undef := by
      intro u hu
      refine hs u fun p h1 h2 o ho e => ?_
      have := hd p (List.mem_range.2 h2)
      rw [ho, Option.bind_some, e] at this
      simp only [Bool.or_eq_true, decide_eq_true_eq, Bool.and_eq_true, bne_iff_ne, ne_eq] at this
      rcases this with h3 | h3
      · omega
      · rcases hu with rfl | rfl
        · exact h3.1 rfl
        · exact h3.2 rfl
    unfold op at ho he ⊢
    split at ho
    · cases ho
    · rename_i hok
      rw [if_neg hok]
      split at he
      · cases he
      · simp only [ev, slot m (.inl rfl), slot k (.inr rfl)] at ho he ⊢
        obtain ⟨v1, hl, e⟩ := map_some ho
        cases e
        rw [lookup_entry hl he]
        rfl
  · cases ht
theorem Good.slot_same (g : Good P E rec all T Hs V W F) {u : Tmp} {a c : Nat} (hu : ∀ p, a ≤ p → p < a + c → ∀ o, all[p]? = some o → o.dst ≠ some u) (hc : a + c ≤ all.size) : (T (a + c)).getD u undef = (T a).getD u undef := by
  induction c with
  | zero => rfl
  | succ c ih =>
    have ho := Array.getElem?_eq_getElem (show a + c < all.size by omega)
    rw [← Nat.add_assoc, (g.run.step (a + c) _ (Nat.zero_le _) ho).2.1]
    rw [← ih (fun p h1 h2 => hu p h1 (by omega)) (by omega)]
    have hne := hu (a + c) (by omega) (by omega) _ ho
    cases hd : all[a + c].dst with
    | none => rfl
    | some d =>
      have hdu : d ≠ u := fun e => hne (by rw [hd, e])
      simp only [AM.put, Array.getD_eq_getD_getElem?]
      rw [Array.getElem?_setIfInBounds, if_neg hdu]
/-- A load, or a look at a block, sees the same in whatever heap it may come upon. -/
theorem Good.same_seen (g : Good P E rec all T Hs V W F) {S : Nat → Prop} {k : Nat} (hk : k ≤ all.size) (hhard : ∀ j, j < all.size → W j = true → isHard (F j) = true → (S j ↔ j < k)) (hals : ∀ j, j < all.size → W j = true → F j = .al → j < k → S j)
    (hn : Nrm W F all.size S k) (hcl : ∀ j, j < all.size → S j → ∀ i, ((Region.before all).getD j 0).testBit i = true → S i) {j : Nat} (hj : j < all.size) (hW : W j = true) (hS : ¬ S j)
    (hpre : ∀ i, ((Region.before all).getD j 0).testBit i = true → S i) {b : Nat} (hF : (∃ q n, F j = .ld b q n) ∨ F j = .rb b) :
    (∀ q n, F j = .ld b q n → ∀ c, c < n → (Hs k).cell b (q + c) = (Hs j).cell b (q + c)) ∧ (F j = .rb b → op P E rec (T j) all[j] (Hs k) = some (V j, Hs k)) := by
  have hstep := g.run.step j _ (Nat.zero_le _) (Array.getElem?_eq_getElem hj)
  obtain ⟨hfj, hoj⟩ := hstep.2.2.1 hW
  have hnm : isMod (F j) = false := by rcases hF with ⟨q, n, hF⟩ | hF <;> rw [hF] <;> rfl
  have up : ∀ d a, a + d ≤ all.size → (∀ i, a ≤ i → i < a + d → Mod W F i → (free (did Hs F i) (did Hs F j) = true ∨ free (did Hs F j) (did Hs F i) = true ∨ (b < (Hs i).nx ∧ F i = .al))) →
      (∀ q n, F j = .ld b q n → ∀ c, c < n → (Hs (a + d)).cell b (q + c) = (Hs a).cell b (q + c)) ∧ (F j = .rb b → (Hs (a + d)).blk b = (Hs a).blk b) := by
    intro d
    induction d with
    | zero => intro a _ _; exact ⟨fun _ _ _ _ _ => rfl, fun _ => rfl⟩
    | succ d ih =>
      intro a hle hfr
      obtain ⟨i1, i2⟩ := ih a (by omega) (fun i h1 h2 => hfr i h1 (by omega))
      obtain ⟨l1, l2⟩ := g.leaves (i := a + d) (j := j) (b := b) (by omega) (hfr _ (by omega) (by omega))
      rw [← Nat.add_assoc]
      exact ⟨fun q n h c hc => (l1 q n h c hc).trans (i1 q n h c hc), fun h => (l2 h).trans (i2 h)⟩
  rcases Nat.le_total k j with h | h
  · obtain ⟨d, hd⟩ := Nat.exists_eq_add_of_le h
    have := up d k (by omega) fun i h1 h2 hm => by
      have hi : i < all.size := by omega
      have hij : i < j := by omega
      rcases g.chk j hj hW i hij hm.1 with h3 | h3
      · have hSi := hpre i h3
        have hFi : F i = .al := by
          cases hFi : F i with
          | st _ _ _ => have := (hhard i hi hm.1 (by rw [hFi]; rfl)).1 hSi; omega
          | md => have := (hhard i hi hm.1 (by rw [hFi]; rfl)).1 hSi; omega
          | wb _ => have := (hhard i hi hm.1 (by rw [hFi]; rfl)).1 hSi; omega
          | al => rfl
          | pure => have := hm.2; rw [hFi] at this; cases this
          | ld _ _ _ => have := hm.2; rw [hFi] at this; cases this
          | rb _ => have := hm.2; rw [hFi] at this; cases this
          | rd => have := hm.2; rw [hFi] at this; cases this
        have hkj : k < j := by omega
        have hb := g.below hn hj hW hkj hpre hF
        exact .inr (.inr ⟨Nat.lt_of_lt_of_le hb (g.nx_le h1 (by omega)), hFi⟩)
      · unfold fr at h3
        rw [twin_ne (.inl fun b h => by have := hm.2; rw [show F i = .rb b from h] at this; cases this), Bool.or_false] at h3
        exact .inl h3
    rw [← hd] at this
    refine ⟨fun q n h c hc => (this.1 q n h c hc).symm, fun h => ?_⟩
    rw [h] at hfj
    exact (rb_op (fpA_eq hfj (by simp) (by simp)) hoj).2 _ (this.2 h).symm
  · obtain ⟨d, hd⟩ := Nat.exists_eq_add_of_le h
    rw [hd]
    have pair : ∀ i, j ≤ i → i < j + d → Mod W F i → j < i ∧ fr all (did Hs F j) (did Hs F i) = true := by
      intro i h1 h2 hm
      have hi : i < all.size := by omega
      have hSi : S i := by
        cases hFi : F i with
        | st b q n => exact (hhard i hi hm.1 (by rw [hFi]; rfl)).2 (by omega)
        | md => exact (hhard i hi hm.1 (by rw [hFi]; rfl)).2 (by omega)
        | wb _ => exact (hhard i hi hm.1 (by rw [hFi]; rfl)).2 (by omega)
        | al => exact hals i hi hm.1 hFi (by omega)
        | pure => have := hm.2; rw [hFi] at this; cases this
        | ld _ _ _ => have := hm.2; rw [hFi] at this; cases this
        | rb _ => have := hm.2; rw [hFi] at this; cases this
        | rd => have := hm.2; rw [hFi] at this; cases this
      have hij : j ≠ i := by rintro rfl; have := hm.2; rw [hnm] at this; cases this
      refine ⟨by omega, ?_⟩
      rcases g.chk i hi hm.1 j (by omega) hW with h3 | h3
      · exact absurd (hcl i hi hSi j h3) hS
      · exact h3
    refine ⟨fun q n hFj => ?_, fun hFj => ?_⟩
    · refine (up d j (by omega) fun i h1 h2 hm => ?_).1 q n hFj
      have h3 := (pair i h1 h2 hm).2
      unfold fr at h3
      rw [twin_ne (.inl fun b h => by rw [show F j = .rb b from h] at hFj; cases hFj), Bool.or_false] at h3
      exact .inr (.inl h3)
    · have hfj' := hfj
      rw [hFj] at hfj'
      have hfp := fpA_eq hfj' (by simp) (by simp)
      have sees : ∀ c, c ≤ d → op P E rec (T j) all[j] (Hs (j + c)) = some (V j, Hs (j + c)) := by
        intro c
        induction c with
        | zero =>
          intro _
          have := (rb_op hfp hoj).1
          rw [this] at hoj
          exact hoj
        | succ c ih =>
          intro hc
          have h0 := ih (by omega)
          have hi : j + c < all.size := by omega
          by_cases hm : Mod W F (j + c)
          · obtain ⟨hlt, h3⟩ := pair (j + c) (by omega) (by omega) hm
            unfold fr at h3
            rw [Bool.or_eq_true] at h3
            rcases h3 with h3 | h3
            · have := (g.leaves (i := j + c) (j := j) (b := b) hi fun _ => .inr (.inl h3)).2 hFj
              exact (rb_op hfp h0).2 _ this
            · obtain ⟨hfi, hoi⟩ := (g.run.step (j + c) _ (Nat.zero_le _) (Array.getElem?_eq_getElem hi)).2.2.1 hm.1
              unfold twin did at h3
              simp only at h3
              split at h3
              · simp only [Bool.and_eq_true] at h3
                exact twin_op h3.2 (Array.getElem?_eq_getElem hj) (Array.getElem?_eq_getElem hi) (fun u hu => g.slot_same hu (by omega)) h0 hoi
              · cases h3
          · rw [← Nat.add_assoc, g.const hi hm]
            exact h0
      exact sees d (Nat.le_refl _)
theorem Rel.emb {ι ι' : Nat → Emb} {h : H} {w : World} (r : Rel P E ι h w) (he : ∀ b, b < h.nx → ι' b = ι b) : Rel P E ι' h w := by
  refine ⟨r.dom, fun b k hb => (r.blk b k hb).mono (Nat.le_refl _) he (he b (r.dom b k hb)), fun b b' k k' hb hb' hne ho => ?_, r.ng, fun g hg => ?_, r.globB, fun g k hg hk => ?_⟩
  · rw [he b (r.dom b k hb), he b' (r.dom b' k' hb')]
    exact r.inj b b' k k' hb hb' hne ho
  · rw [he g (Nat.lt_of_lt_of_le hg r.ng)]
    exact r.glob g hg
  · obtain ⟨h1, h2⟩ := r.globO g k hg hk
    exact ⟨h1, h2.mono (Nat.le_refl _) (fun b hb => he b (Nat.lt_of_lt_of_le hb r.ng)) (he g (Nat.lt_of_lt_of_le hg r.ng))⟩
theorem Rel.grown {ι : Nat → Emb} {h : H} {w w' : World} (r : Rel P E ι h w) (hs : w.heap.size ≤ w'.heap.size) (hfr : ∀ g, g < w.heap.size → w'.heap[g]? = w.heap[g]?) : Rel P E ι h w' :=
  ⟨r.dom, fun b k hb => (r.blk b k hb).congr (hfr _ (r.blk b k hb).lt) hs, r.inj, r.ng, r.glob, r.globB, fun g k hg hk => ⟨(r.globO g k hg hk).1, (r.globO g k hg hk).2.congr (hfr _ (r.globO g k hg hk).2.lt) hs⟩⟩
theorem Rel.commit {ι : Nat → Emb} {h : H} {w : World} {K : Blk} (r : Rel P E ι h w) (hb : BlkR P ι 0 w h.nx K) (hf : ∀ b k', h.blk b = some k' → (ι b).g ≠ (ι h.nx).g) : Rel P E ι (h.new K) w := by
  have hnew : ∀ b k, (h.new K).blk b = some k → (b = h.nx ∧ k = K) ∨ (b ≠ h.nx ∧ h.blk b = some k) := by
    intro b k hk
    simp only [H.new] at hk
    split at hk
    · rename_i he; cases hk; exact .inl ⟨he, rfl⟩
    · rename_i he; exact .inr ⟨he, hk⟩
  have hnx : (h.new K).nx = h.nx + 1 := rfl
  refine ⟨fun b k hk => ?_, fun b k hk => ?_, fun b b' k k' hk hk' hne ho => ?_, by rw [hnx]; have := r.ng; omega, r.glob, fun g hg => ?_, r.globO⟩
  · rcases hnew b k hk with ⟨rfl, _⟩ | ⟨_, h1⟩
    · rw [hnx]; omega
    · have := r.dom b k h1; rw [hnx]; omega
  · rcases hnew b k hk with ⟨rfl, rfl⟩ | ⟨_, h1⟩
    · exact hb.mono (Nat.zero_le _) (fun b hb => by omega) rfl
    · exact (r.blk b k h1).mono (by rw [hnx]; omega) (fun _ _ => rfl) rfl
  · rcases hnew b k hk with ⟨rfl, rfl⟩ | ⟨_, h1⟩
    · rcases hnew b' k' hk' with ⟨rfl, _⟩ | ⟨_, h2⟩
      · exact absurd rfl hne
      · exact fun e => hf b' k' h2 e.symm
    · rcases hnew b' k' hk' with ⟨rfl, _⟩ | ⟨_, h2⟩
      · exact hf b k h1
      · exact r.inj b b' k k' h1 h2 hne ho
  · have := r.ng
    simp only [H.new]
    rw [if_neg (by omega)]
    exact r.globB g hg
/-- The globals alone, with room for more. -/
def loneN (E : Env) (n : Nat) : H := ⟨fun b => if b < E.NG then E.G b else none, n, 0⟩
theorem Rel.loneN {ι : Nat → Emb} {h : H} {w : World} (r : Rel P E ι h w) {n : Nat} (hn : E.NG ≤ n) : Rel P E ι (loneN E n) w := by
  have hb : ∀ b k, (AM.loneN E n).blk b = some k → b < E.NG ∧ E.G b = some k := by
    intro b k hk
    simp only [AM.loneN] at hk
    split at hk
    · exact ⟨by assumption, hk⟩
    · cases hk
  refine ⟨fun b k hk => Nat.lt_of_lt_of_le (hb b k hk).1 hn, fun b k hk => (r.globO b k (hb b k hk).1 (hb b k hk).2).2.mono hn (fun _ _ => rfl) rfl, fun b b' k k' hk hk' hne ho => ?_, hn, r.glob, fun g hg => ?_, r.globO⟩
  · rw [(r.globO b k (hb b k hk).1 (hb b k hk).2).1] at ho
    cases ho
  · simp only [AM.loneN]
    rw [if_pos hg]
section
variable {ι0 : Nat → Emb} {w0 : World} {d : List Deferred} {S : Nat → Prop} {a : Act} {w : World} {k : Nat} {ι : Nat → Emb} {tS : Array Value}
theorem Ar.put {n : Nat} {tm : Array Value} (h : Ar P all Hs V W F ι n k S tS tm) (hz : tm.size = tS.size) {a : Act} (ha : a.tmps = tm) {j : Nat} {o : Oper} (ho : all[j]? = some o) {v v' : Value}
    (hv : VR ι n v v' ∨ (∀ u, o.dst = some u → u ∈ early P all) ∧ ∃ p, p < all.size ∧ W p = true ∧ F p = .al ∧ (S p ∨ p = j) ∧ k ≤ p ∧ p ≤ j ∧ v = V p ∧ VR ι ((Hs p).nx + 1) v v') :
    Ar P all Hs V W F ι n k (fun i => S i ∨ i = j) (AM.put tS o.dst v) (a.put o.dst v').tmps := by
  subst ha
  have old : ∀ (u : Nat) (x x' : Value), tS[u]? = some x → a.tmps[u]? = some x' → VR ι n x x' ∨
      (u ∈ early P all ∧ ∃ p i o, p < all.size ∧ W p = true ∧ F p = .al ∧ (S p ∨ p = j) ∧ k ≤ p ∧ p ≤ i ∧ all[i]? = some o ∧ (S i ∨ i = j) ∧ o.dst = some u ∧ x = V p ∧ VR ι ((Hs p).nx + 1) x x') := by
    intro u x x' hx hx'
    rcases h u x x' hx hx' with h1 | ⟨h1, p, i, o', h2, h3, h4, h5, h6, h7, h8, h9, h10⟩
    · exact .inl h1
    · exact .inr ⟨h1, p, i, o', h2, h3, h4, .inl h5, h6, h7, h8, .inl h9, h10⟩
  cases hd : o.dst with
  | none => exact fun u x x' hx hx' => old u x x' hx hx'
  | some u0 =>
    intro u x x' hx hx'
    simp only [AM.put] at hx
    simp only [Act.put] at hx'
    rw [Array.getElem?_setIfInBounds] at hx hx'
    by_cases hi : u0 = u
    · subst hi
      rw [if_pos rfl] at hx hx'
      split at hx
      · split at hx'
        · cases hx; cases hx'
          rcases hv with hv | ⟨he, p, h2, h3, h4, h5, h6, h7, h8, h9⟩
          · exact .inl hv
          · exact .inr ⟨he u0 hd, p, j, o, h2, h3, h4, h5, h6, h7, ho, .inr rfl, hd, h8, h9⟩
        · cases hx'
      · cases hx
    · rw [if_neg hi] at hx hx'
      exact old u x x' hx hx'
theorem put_size (t : Array Value) (d : Option Tmp) (v : Value) : (AM.put t d v).size = t.size := by cases d <;> simp [AM.put]
theorem aput_size (a : Act) (d : Option Tmp) (v : Value) : (a.put d v).tmps.size = a.tmps.size := by cases d <;> simp [Act.put]
theorem Good.al_nx (g : Good P E rec all T Hs V W F) {p q : Nat} (hp : p < all.size) (hq : q < all.size) (hWp : W p = true) (hFp : F p = .al) (h : p < q) : (Hs p).nx < (Hs q).nx := by
  obtain ⟨K, hK, _⟩ := g.alloc (Array.getElem?_eq_getElem hp) hWp hFp
  have h1 := g.nx_le (a := p + 1) (b := q) (by omega) (by omega)
  rw [hK] at h1
  exact h1
/-- One step of the abstract run over what changes nothing, or has been done early. -/
theorem Good.adv (g : Good P E rec all T Hs V W F) (inv : Inv P E all T Hs V W F ι0 w0 d S a w k ι tS) (hk : k < all.size) (h : ¬ Mod W F k ∨ S k) : Inv P E all T Hs V W F ι0 w0 d S a w (k + 1) ι tS := by
  by_cases hm : Mod W F k
  · have hSk : S k := h.resolve_left fun h => h hm
    have hFk : F k = .al := by
      cases hFk : F k with
      | st _ _ _ => have := (inv.hard k hk hm.1 (by rw [hFk]; rfl)).1 hSk; omega
      | md => have := (inv.hard k hk hm.1 (by rw [hFk]; rfl)).1 hSk; omega
      | wb _ => have := (inv.hard k hk hm.1 (by rw [hFk]; rfl)).1 hSk; omega
      | al => rfl
      | pure => have := hm.2; rw [hFk] at this; cases this
      | ld _ _ _ => have := hm.2; rw [hFk] at this; cases this
      | rb _ => have := hm.2; rw [hFk] at this; cases this
      | rd => have := hm.2; rw [hFk] at this; cases this
    obtain ⟨K, hK, hKo, hb, hsz, hfr⟩ := inv.pend k hk hm.1 hFk hSk (Nat.le_refl _)
    have hnx : (Hs (k + 1)).nx = (Hs k).nx + 1 := by rw [hK]; rfl
    have hnew : ∀ b k', (Hs (k + 1)).blk b = some k' → (b = (Hs k).nx ∧ k' = K) ∨ (Hs k).blk b = some k' := by
      intro b k' hk'
      rw [hK] at hk'
      simp only [H.new] at hk'
      split at hk'
      · rename_i he; cases hk'; exact .inl ⟨he, rfl⟩
      · exact .inr hk'
    refine ⟨by omega, fun j hj hW hh => ?_, fun j hj hW hF hlt => ?_, by rw [hK]; exact inv.rel.commit hb hfr, ?_, inv.sl, inv.arz, fun u v v' hv hv' => ?_, fun j hj hW hF hS hle => ?_, fun i j hi hj hWi hWj hFi hFj hSi hSj hle hlt => inv.dis i j hi hj hWi hWj hFi hFj hSi hSj (by omega) hlt, inv.defers, inv.closed⟩
    · have hne : j ≠ k := by rintro rfl; rw [hFk] at hh; cases hh
      rw [inv.hard j hj hW hh]
      omega
    · by_cases he : j = k
      · rw [he]; exact hSk
      · exact inv.als j hj hW hF (by omega)
    · refine ⟨by have := inv.tr.nx; omega, inv.tr.ext, inv.tr.os, inv.tr.tape, inv.tr.output, inv.tr.size, inv.tr.fr, fun b k' hk' ho => ?_⟩
      rcases hnew b k' hk' with ⟨rfl, _⟩ | h1
      · exact .inr hsz
      · exact inv.tr.own b k' h1 ho
    · rcases inv.ar u v v' hv hv' with h1 | ⟨h1, p, i, o, h2, h3, h4, h5, h6, h7, h8, h9, h10, h11, h12⟩
      · exact .inl (h1.mono (by omega) fun _ _ => rfl)
      · by_cases he : p = k
        · subst he
          rw [hnx]
          exact .inl h12
        · exact .inr ⟨h1, p, i, o, h2, h3, h4, h5, by omega, h7, h8, h9, h10, h11, h12⟩
    · obtain ⟨K', h1, h2, h3, h4, h5⟩ := inv.pend j hj hW hF hS (by omega)
      refine ⟨K', h1, h2, h3, h4, fun b k' hk' => ?_⟩
      rcases hnew b k' hk' with ⟨rfl, _⟩ | h6
      · exact inv.dis k j hk hj hm.1 hW hFk hF hSk hS (Nat.le_refl _) (by omega)
      · exact h5 b k' h6
  · have hc := g.const hk hm
    refine ⟨by omega, fun j hj hW hh => ?_, fun j hj hW hF hlt => ?_, by rw [hc]; exact inv.rel, by rw [hc]; exact inv.tr, inv.sl, inv.arz, fun u v v' hv hv' => ?_, fun j hj hW hF hS hle => ?_, fun i j hi hj hWi hWj hFi hFj hSi hSj hle hlt => inv.dis i j hi hj hWi hWj hFi hFj hSi hSj (by omega) hlt, inv.defers, inv.closed⟩
    · have hne : j ≠ k := by rintro rfl; exact hm ⟨hW, hard_mod hh⟩
      rw [inv.hard j hj hW hh]
      omega
    · have hne : j ≠ k := by rintro rfl; exact hm ⟨hW, by rw [hF]; rfl⟩
      exact inv.als j hj hW hF (by omega)
    · rw [hc]
      rcases inv.ar u v v' hv hv' with h1 | ⟨h1, p, i, o, h2, h3, h4, h5, h6, h7, h8, h9, h10, h11, h12⟩
      · exact .inl h1
      · have hne : p ≠ k := by rintro rfl; exact hm ⟨h3, by rw [h4]; rfl⟩
        exact .inr ⟨h1, p, i, o, h2, h3, h4, h5, by omega, h7, h8, h9, h10, h11, h12⟩
    · obtain ⟨K', h1, h2, h3, h4, h5⟩ := inv.pend j hj hW hF hS (by omega)
      exact ⟨K', h1, h2, h3, h4, by rw [hc]; exact h5⟩
theorem Good.norm (g : Good P E rec all T Hs V W F) : ∀ (m k : Nat), k + m = all.size → Inv P E all T Hs V W F ι0 w0 d S a w k ι tS → ∃ k', Inv P E all T Hs V W F ι0 w0 d S a w k' ι tS ∧ Nrm W F all.size S k' := by
  intro m
  induction m with
  | zero => intro k hk inv; exact ⟨k, inv, .inl (by omega)⟩
  | succ m ih =>
    intro k hk inv
    by_cases h : ¬ Mod W F k ∨ S k
    · exact ih (k + 1) (by omega) (g.adv inv (by omega) h)
    · have h1 : Mod W F k := Classical.byContradiction fun hc => h (.inl hc)
      exact ⟨k, inv, .inr ⟨by omega, h1, fun hS => h (.inr hS)⟩⟩
/-- What an operation reads. -/
theorem Good.ev_ar (g : Good P E rec all T Hs V W F) (inv : Inv P E all T Hs V W F ι0 w0 d S a w k ι tS) {j : Nat} {o : Oper} (ho : all[j]? = some o) (hj : j < all.size) (hS : ¬ S j) {x : Operand} (hx : x ∈ o.op.operands) (hok : okOperand E x = true) :
    VR ι (Hs k).nx (ev tS x) (a.eval x) ∨ ∃ u p, u ∈ reads o ∧ u ∈ early P all ∧ p < all.size ∧ W p = true ∧ F p = .al ∧ S p ∧ k ≤ p ∧ p < j ∧ ev tS x = V p ∧ VR ι ((Hs p).nx + 1) (ev tS x) (a.eval x) := by
  cases x with
  | tmp u =>
    simp only [ev, Act.eval, Array.getD_eq_getD_getElem?]
    cases hv : tS[u]? with
    | none =>
      have : a.tmps[u]? = none := by
        rw [Array.getElem?_eq_none_iff] at hv ⊢
        have := inv.arz
        omega
      rw [this]
      exact .inl .undef
    | some v =>
      have hu : u < a.tmps.size := by rw [inv.arz]; exact (Array.getElem?_eq_some_iff.1 hv).1
      have hv' := Array.getElem?_eq_getElem hu
      rw [hv']
      simp only [Option.getD_some]
      rcases inv.ar u v _ hv hv' with h1 | ⟨h1, p, i, o', h2, h3, h4, h5, h6, h7, h8, h9, h10, h11, h12⟩
      · exact .inl h1
      · have hne : i ≠ j := by rintro rfl; exact hS h9
        have hi : i < all.size := (Array.getElem?_eq_some_iff.1 h8).1
        have hij : i < j := by
          rcases g.ok.rd j o i o' u ho h8 hne h10 (reads_mem hx) with h | h
          · exact before_lt all g.ok.back j hj i h
          · exact absurd (inv.closed i hi h9 j h) hS
        exact .inr ⟨u, p, reads_mem hx, h1, h2, h3, h4, h5, h6, by omega, h11, h12⟩
  | const v => exact .inl (closedV_rel 5 v hok)
  | global q =>
    have hg : q < E.NG := of_decide_eq_true hok
    obtain ⟨h1, h2⟩ := inv.rel.glob q hg
    have := VR.ptr (ι := ι) (n := (Hs k).nx) (b := q) (o := 0) (Nat.lt_of_lt_of_le hg inv.rel.ng)
    rw [h1, h2] at this
    exact .inl this
  | func f => exact .inl (.func rfl rfl (fun i v v' hv => by simp at hv) (fun i v v' hv => by simp at hv))
theorem quiet_kind {al : Bool} {t : Array Value} {o : Oper} {f : FP} (h : fpA P al t o = some f) (hm : isMod f = false) : hardKind o = false ∧ storeKind o = false := by
  have hne : f ≠ .al := by rintro rfl; cases hm
  obtain ⟨dst, opn, type, pos, after, guard⟩ := o
  rcases fpA_or h hne with ⟨_, hk⟩ | hf
  · cases opn <;> simp only [lookKind, Bool.false_eq_true] at hk
    exact ⟨rfl, rfl⟩
  · clear h
    cases opn <;> simp only [fp, reduceCtorEq, Option.some.injEq] at hf <;> try (exact ⟨rfl, rfl⟩)
    all_goals try (subst hf; cases hm; done)
    case store T x y =>
      split at hf
      · obtain ⟨m, _, hf⟩ := bind_some hf
        split at hf
        · cases hf
        · cases hf; cases hm
      · cases hf
    case mapUpdate T m k x => split at hf <;> (cases hf; cases hm)
    case insert T m k x => split at hf <;> (cases hf; cases hm)
    case mapEntry T m k => split at hf <;> (cases hf; cases hm)
    case entryStore T m k x => split at hf <;> (cases hf; cases hm)
    case call c =>
      obtain ⟨callee, args, argTypes⟩ := c
      cases callee with
      | invoke x m => simp only [Option.some.injEq] at hf; subst hf; cases hm
      | value f' => simp only [Option.some.injEq] at hf; subst hf; cases hm
      | builtin b =>
        simp only at hf
        cases b <;> simp only [Option.some.injEq] at hf <;> first | exact ⟨rfl, rfl⟩ | (subst hf; cases hm)
/-- A step at the abstract run's own heap. -/
theorem Good.step_at (g : Good P E rec all T Hs V W F) (inv : Inv P E all T Hs V W F ι0 w0 d S a w k ι tS) {h' : H} {ι1 : Nat → Emb} {w1 : World} (hgr : Grow (Hs k) h')
    (hfar : ∀ p, p < all.size → W p = true → F p = .al → S p → k ≤ p → h'.nx ≤ (Hs p).nx)
    (t1 : Tr ι (Hs k) w ι1 h' w1) (r1 : Rel P E ι1 h' w1) :
    ∃ ι2 : Nat → Emb, (∀ b, b < (Hs k).nx → ι2 b = ι b) ∧ (∀ b, h'.nx ≤ b → ι2 b = ι b) ∧ (∀ b, b < h'.nx → ι2 b = ι1 b) ∧ Rel P E ι2 h' w1 ∧ Tr ι0 (Hs 0) w0 ι2 h' w1 ∧
      (∀ j, j < all.size → W j = true → F j = .al → S j → k ≤ j → ∃ K, Hs (j + 1) = (Hs j).new K ∧ K.own = true ∧ BlkR P ι2 0 w1 (Hs j).nx K ∧ w0.heap.size ≤ (ι2 (Hs j).nx).g ∧ ∀ b k', h'.blk b = some k' → (ι2 b).g ≠ (ι2 (Hs j).nx).g) := by
  have e1 : ∀ b, b < h'.nx → (fun b => if b < h'.nx then ι1 b else ι b) b = ι1 b := fun b hb => if_pos hb
  have e2 : ∀ b, h'.nx ≤ b → (fun b => if b < h'.nx then ι1 b else ι b) b = ι b := fun b hb => if_neg (by omega)
  have e3 : ∀ b, b < (Hs k).nx → (fun b => if b < h'.nx then ι1 b else ι b) b = ι b := fun b hb => by rw [e1 b (Nat.lt_of_lt_of_le hb t1.nx)]; exact t1.ext b hb
  generalize (fun b => if b < h'.nx then ι1 b else ι b) = ι2 at e1 e2 e3
  refine ⟨ι2, e3, e2, e1, r1.emb e1, ?_, fun j hj hW hF hS hle => ?_⟩
  · refine inv.tr.trans ⟨t1.nx, e3, t1.os, t1.tape, t1.output, t1.size, t1.fr, fun b k' hb ho => ?_⟩
    rw [e1 b (r1.dom b k' hb)]
    exact t1.own b k' hb ho
  · obtain ⟨K, h1, h2, h3, h4, h5⟩ := inv.pend j hj hW hF hS hle
    have ha := hfar j hj hW hF hS hle
    have hea := e2 (Hs j).nx ha
    refine ⟨K, h1, h2, ?_, by rw [hea]; exact h4, fun b k' hb => ?_⟩
    · have hfr := t1.fr (ι (Hs j).nx).g h3.lt fun b k' hb ho => h5 b k' hb
      exact (h3.congr hfr t1.size).mono (Nat.le_refl _) (fun b hb => by omega) hea
    · rw [hea, e1 b (r1.dom b k' hb)]
      cases ho : k'.own with
      | true =>
        rcases t1.own b k' hb ho with ⟨b0, k0, hb0, _, hg⟩ | hg
        · rw [← hg]; exact h5 b0 k0 hb0
        · have := h3.lt; omega
      | false =>
        have hb0 := hgr.2.2.2 b k' hb ho
        rw [t1.ext b (inv.rel.dom b k' hb0)]
        exact h5 b k' hb0
end
/-- One operation more. -/
theorem Good.next (g : Good P E rec all T Hs V W F) (hea : needAl P all = true → okEarly P all = true) {ι0 : Nat → Emb} {w0 : World} {d : List Deferred} {S : Nat → Prop} {a : Act} {w : World} {k : Nat} {ι : Nat → Emb} {tS : Array Value}
    (inv : Inv P E all T Hs V W F ι0 w0 d S a w k ι tS) (hn : Nrm W F all.size S k) {j : Nat} (hj : j < all.size) (hS : ¬ S j) (hpre : ∀ i, ((Region.before all).getD j 0).testBit i = true → S i)
    {K : Act → World → Prop} {Q : Exit → Act → World → Prop} (hK0 : ∀ a' w' k' ι' tS', Inv P E all T Hs V W F ι0 w0 d (fun i => S i ∨ i = j) a' w' k' ι' tS' → Nrm W F all.size (fun i => S i ∨ i = j) k' → K a' w') : wpOp P all Q j K a w := by
  have hK : ∀ a' w' k' ι' tS', Inv P E all T Hs V W F ι0 w0 d (fun i => S i ∨ i = j) a' w' k' ι' tS' → K a' w' := fun a' w' k' ι' tS' i' => by
    obtain ⟨k2, i2, n2⟩ := g.norm (all.size - k') k' (by have := i'.hk; omega) i'
    exact hK0 a' w' k2 ι' tS' i2 n2
  have ho := Array.getElem?_eq_getElem hj
  have hwant : Region.wanted all[j] (yielded all a.tmps) = W j := by
    rw [← g.same_wanted inv.sl ho hj hpre]
    have : yielded all a.tmps = yielded all tS := by
      funext q
      unfold yielded
      cases hd : (all[q]?).bind (·.dst) with
      | none => rfl
      | some d' =>
        simp only [Option.bind_some]
        cases hv : tS[d']? with
        | none =>
          have : a.tmps[d']? = none := by
            rw [Array.getElem?_eq_none_iff] at hv ⊢
            have := inv.arz
            omega
          rw [this]
        | some v =>
          have hu : d' < a.tmps.size := by rw [inv.arz]; exact (Array.getElem?_eq_some_iff.1 hv).1
          have hv' := Array.getElem?_eq_getElem hu
          rw [hv']
          have hr : ∃ m, VR ι m v a.tmps[d'] := by
            rcases inv.ar d' v _ hv hv' with h1 | ⟨_, p, i, o', h2, h3, h4, h5, h6, h7, h8, h9, h10, h11, h12⟩
            · exact ⟨_, h1⟩
            · exact ⟨_, h12⟩
          obtain ⟨m, hr⟩ := hr
          generalize a.tmps[d'] = v' at hr
          cases hr <;> rfl
    rw [this]
  unfold wpOp
  simp only [ho]
  rw [hwant]
  obtain ⟨_, _, h3, h4⟩ := g.run.step j _ (Nat.zero_le _) ho
  have hclosed : ∀ i, i < all.size → (S i ∨ i = j) → ∀ m, ((Region.before all).getD i 0).testBit m = true → S m ∨ m = j := by
    intro i hi hSi m hm
    rcases hSi with h | h
    · exact .inl (inv.closed i hi h m hm)
    · subst h; exact .inl (hpre m hm)
  have hsl' := inv.sl.put (V := V) g.ok ho
  have hdef : ∀ v', (a.put all[j].dst v').defers = d := fun v' => by rw [put_defers]; exact inv.defers
  have hsz : ∀ v v', (a.put all[j].dst v').tmps.size = (AM.put tS all[j].dst v).size := fun v v' => by rw [aput_size, put_size]; exact inv.arz
  -- what changes no heap keeps all
  have keepH : isHard (F j) = false ∨ W j = false → ∀ i, i < all.size → W i = true → isHard (F i) = true → ((S i ∨ i = j) ↔ i < k) := by
    intro hnh i hi hW hh
    have hne : i ≠ j := by
      rintro rfl
      rcases hnh with h | h
      · rw [hh] at h; cases h
      · rw [hW] at h; cases h
    rw [← inv.hard i hi hW hh]
    exact ⟨fun h => h.resolve_right hne, .inl⟩
  have keepA : ∀ i, i < all.size → W i = true → F i = .al → i < k → S i ∨ i = j := fun i hi hW hF hlt => .inl (inv.als i hi hW hF hlt)
  -- new pending blocks: none
  have noNew : F j ≠ .al ∨ W j = false → ∀ i, W i = true → F i = .al → (S i ∨ i = j) → S i := by
    intro h i hW hF hSi
    refine hSi.resolve_right ?_
    rintro rfl
    rcases h with h | h
    · exact h hF
    · rw [hW] at h; cases h
  cases hW : W j with
  | false =>
    rw [if_neg (by simp)]
    obtain ⟨hv, hh⟩ := h4 hW
    rw [hv] at hsl'
    exact hK _ _ k ι _ ⟨inv.hk, keepH (.inr hW), keepA, inv.rel, inv.tr, hsl', hsz _ _, inv.ar.put inv.arz rfl ho (.inl .undef), fun i hi hWi hF hSi hle => inv.pend i hi hWi hF (noNew (.inr hW) i hWi hF hSi) hle,
      fun p q hp hq hWp hWq hFp hFq hSp hSq hle hlt => inv.dis p q hp hq hWp hWq hFp hFq (noNew (.inr hW) p hWp hFp hSp) (noNew (.inr hW) q hWq hFq hSq) hle hlt, hdef _, hclosed⟩
  | true =>
    rw [if_pos rfl]
    refine .inl ?_
    obtain ⟨hf, hop⟩ := h3 hW
    have hev := g.same_ev inv.sl inv.closed ho hj hS hpre
    rw [op_congr (Hs j) hev] at hop
    have hfS : fpA P (needAl P all) tS all[j] = some (F j) := by rw [← fpA_congr hev]; exact hf
    have hear := fun {x : Operand} (hx : x ∈ all[j].op.operands) (hok : okOperand E x = true) => g.ev_ar inv ho hj hS hx hok
    -- early blocks are only handed on
    have hearly : ∀ p, W p = true → F p = .al → p < all.size → okEarly P all = true := by
      intro p hWp hFp hp
      refine hea ?_
      obtain ⟨_, _, q3, _⟩ := g.run.step p _ (Nat.zero_le _) (Array.getElem?_eq_getElem hp)
      have := (q3 hWp).1
      rw [hFp] at this
      unfold fpA at this
      cases hna : needAl P all with
      | true => rfl
      | false =>
        rw [hna] at this
        simp only [Bool.false_and, Bool.false_eq_true, if_false] at this
        exact absurd this fp_ne_al
    have okE : okEarly P all = true → (allocKind P all[j] = true → ∀ u, all[j].dst = some u → u ∈ early P all) ∧
        ((∃ u ∈ reads all[j], u ∈ early P all) → (copyKind all[j] = true ∧ ∀ u, all[j].dst = some u → u ∈ early P all) ∨ hardKind all[j] = true ∨ storeKind all[j] = true) := by
      intro hok
      unfold okEarly at hok
      simp only [List.all_eq_true] at hok
      have h1 := hok all[j] (by simp)
      simp only [Bool.and_eq_true, Bool.or_eq_true, Bool.not_eq_true'] at h1
      constructor
      · intro hk u hu
        rcases h1.1 with h2 | h2
        · rw [hk] at h2; cases h2
        · rw [hu] at h2
          exact List.contains_iff_mem.1 h2
      · rintro ⟨u, hu, hue⟩
        rcases h1.2 with ((h2 | h2) | h2) | h2
        · rw [List.any_eq_false] at h2
          exact absurd (List.contains_iff_mem.2 hue) (h2 u hu)
        · refine .inl ⟨h2.1, fun u' hu' => ?_⟩
          have := h2.2
          rw [hu'] at this
          exact List.contains_iff_mem.1 this
        · exact .inr (.inl h2)
        · exact .inr (.inr h2)
    by_cases hFal : F j = .al
    · -- a new block
      obtain ⟨B, hB, hBo, hcl, hdep, hak, hint, hrun⟩ := g.alloc ho hW hFal
      have hkj : k ≤ j := by
        rcases Nat.lt_or_ge j k with h | h
        · exact absurd (inv.als j hj hW hFal h) hS
        · exact h
      have hnle := g.nx_le hkj (by omega)
      have hng : E.NG ≤ (Hs j).nx := Nat.le_trans inv.rel.ng hnle
      have hop1 : op P E rec tS all[j] (loneN E (Hs j).nx) = some (V j, (loneN E (Hs j).nx).new B) := by
        rw [← op_congr _ hev]
        exact hrun _ rfl
      refine op_wpE g.rec_ hop1 (inv.rel.loneN hng) (fun x hx hok => ?_) fun v' ι1 w1 t1 r1 hv => ?_
      · have hi := hint x hx
        rw [hev x hx] at hi
        rcases hear hx hok with h1 | ⟨u, p, _, _, _, _, _, _, _, _, _, h1⟩
        · exact (isInt_lo hi _ _ _ h1).mono (Nat.zero_le _) fun b hb => by omega
        · exact (isInt_lo hi _ _ _ h1).mono (Nat.zero_le _) fun b hb => by omega
      · have hnone : ∀ b k', (loneN E (Hs j).nx).blk b = some k' → k'.own = false := by
          intro b k' hb
          simp only [loneN] at hb
          split at hb
          · rename_i hlt
            exact (inv.rel.globO b k' hlt hb).1
          · cases hb
        have hfr : ∀ q, q < w.heap.size → w1.heap[q]? = w.heap[q]? := fun q hq => t1.fr q hq fun b k' hb ho' => by rw [hnone b k' hb] at ho'; cases ho'
        have hblk : ((loneN E (Hs j).nx).new B).blk (Hs j).nx = some B := by simp [H.new, loneN]
        have hgB : w.heap.size ≤ (ι1 (Hs j).nx).g := by
          rcases t1.own _ B hblk hBo with ⟨b0, k0, hb0, ho0, _⟩ | h
          · rw [hnone b0 k0 hb0] at ho0; cases ho0
          · exact h
        have ea : (fun b => if b = (Hs j).nx then ι1 (Hs j).nx else ι b) (Hs j).nx = ι1 (Hs j).nx := if_pos rfl
        have eo : ∀ b, b ≠ (Hs j).nx → (fun b => if b = (Hs j).nx then ι1 (Hs j).nx else ι b) b = ι b := fun b hb => if_neg hb
        have el : ∀ b, b < (Hs k).nx → (fun b => if b = (Hs j).nx then ι1 (Hs j).nx else ι b) b = ι b := fun b hb => eo b (by omega)
        generalize (fun b => if b = (Hs j).nx then ι1 (Hs j).nx else ι b) = ι2 at ea eo el
        have hpne : ∀ p, p < all.size → W p = true → F p = .al → S p → (Hs p).nx ≠ (Hs j).nx := by
          intro p hp hWp hFp hSp
          have hne : p ≠ j := by rintro rfl; exact hS hSp
          rcases Nat.lt_or_gt_of_ne hne with h | h
          · have := g.al_nx hp hj hWp hFp h; omega
          · have := g.al_nx hj hp hW hFal h; omega
        have ar2 : Ar P all Hs V W F ι2 (Hs k).nx k S tS a.tmps := by
          intro u v v' hv hv'
          rcases inv.ar u v v' hv hv' with h1 | ⟨h1, p, i, o', h2, h3, h4, h5, h6, h7, h8, h9, h10, h11, h12⟩
          · exact .inl (h1.mono (Nat.le_refl _) el)
          · obtain ⟨_, _, _, _, hdp, _⟩ := g.alloc (Array.getElem?_eq_getElem h2) h3 h4
            refine .inr ⟨h1, p, i, o', h2, h3, h4, h5, h6, h7, h8, h9, h10, h11, ?_⟩
            rw [h11] at h12 ⊢
            exact hdp _ _ _ _ (eo _ (hpne p h2 h3 h4 h5)) h12
        refine hK _ _ k ι2 _ ⟨inv.hk, keepH (.inl (by rw [hFal]; rfl)), keepA, (inv.rel.grown t1.size hfr).emb el, ?_, hsl', hsz _ _, ar2.put inv.arz rfl ho (.inr ⟨(okE (hearly j hW hFal hj)).1 hak, j, hj, hW, hFal, .inr rfl, hkj, Nat.le_refl _, rfl, hdep _ _ _ _ ea hv⟩), fun i hi hWi hF hSi hle => ?_,
          fun p q hp hq hWp hWq hFp hFq hSp hSq hle hlt => ?_, hdef _, hclosed⟩
        · refine ⟨inv.tr.nx, fun b hb => ?_, t1.os.trans inv.tr.os, t1.tape.trans inv.tr.tape, t1.output.trans inv.tr.output, Nat.le_trans inv.tr.size t1.size, fun q hq hno => ?_, fun b k' hb ho' => ?_⟩
          · rw [el b (Nat.lt_of_lt_of_le hb inv.tr.nx)]
            exact inv.tr.ext b hb
          · rw [hfr q (Nat.lt_of_lt_of_le hq inv.tr.size)]
            exact inv.tr.fr q hq hno
          · rw [el b (inv.rel.dom b k' hb)]
            exact inv.tr.own b k' hb ho'
        · by_cases hij : i = j
          · subst hij
            refine ⟨B, hB, hBo, ?_, ?_, fun b k' hb => ?_⟩
            · exact (hcl _ _ _ _ (r1.blk _ B hblk)).mono (Nat.le_refl _) (fun b hb => by omega) ea
            · rw [ea]; exact Nat.le_trans inv.tr.size hgB
            · rw [ea, el b (inv.rel.dom b k' hb)]
              have := (inv.rel.blk b k' hb).lt
              omega
          · have hSi' : S i := hSi.resolve_right hij
            obtain ⟨K', h1, h2, h3, h5, h6⟩ := inv.pend i hi hWi hF hSi' hle
            have hei := eo _ (hpne i hi hWi hF hSi')
            refine ⟨K', h1, h2, (h3.congr (hfr _ h3.lt) t1.size).mono (Nat.le_refl _) (fun b hb => by omega) hei, by rw [hei]; exact h5, fun b k' hb => ?_⟩
            rw [hei, el b (inv.rel.dom b k' hb)]
            exact h6 b k' hb
        · have old : ∀ i, i < all.size → W i = true → F i = .al → S i → k ≤ i → (ι2 (Hs i).nx).g < w.heap.size := by
            intro i hi hWi hFi hSi hle
            obtain ⟨K', h1, h2, h3, h5, h6⟩ := inv.pend i hi hWi hFi hSi hle
            rw [eo _ (hpne i hi hWi hFi hSi)]
            exact h3.lt
          by_cases hpj : p = j
          · subst hpj
            have hSq' : S q := hSq.resolve_right (by omega)
            have := old q hq hWq hFq hSq' (by omega)
            rw [ea]
            omega
          · by_cases hqj : q = j
            · subst hqj
              have := old p hp hWp hFp (hSp.resolve_right hpj) hle
              rw [ea]
              omega
            · have hSp' := hSp.resolve_right hpj
              have hSq' := hSq.resolve_right hqj
              rw [eo _ (hpne p hp hWp hFp hSp'), eo _ (hpne q hq hWq hFq hSq')]
              exact inv.dis p q hp hq hWp hWq hFp hFq hSp' hSq' hle hlt
    · have nn := noNew (.inl hFal)
      -- a step at the abstract run's own heap, to another place of it
      have stp : ∀ (h' : H) (k' : Nat), op P E rec tS all[j] (Hs k) = some (V j, h') → h' = Hs k' → k' ≤ all.size → k ≤ k' → (∀ p, p < all.size → W p = true → F p = .al → S p → k ≤ p → k' ≤ p) →
          (∀ i, i < all.size → W i = true → isHard (F i) = true → ((S i ∨ i = j) ↔ i < k')) → (∀ i, i < all.size → W i = true → F i = .al → i < k' → S i ∨ i = j) →
          (∀ x ∈ all[j].op.operands, okOperand E x = true → VR ι (Hs k).nx (ev tS x) (a.eval x)) → Oper.wp P all[j] a w K Q := by
        intro h' k' hq hh hk' hkk hfar hh1 hh2 hops
        subst hh
        refine op_wpE g.rec_ hq inv.rel hops fun v' ι1 w1 t1 r1 hv => ?_
        obtain ⟨ι2, e3, e2, e1, r2, t2, pd⟩ := g.step_at inv (op_grows g.rec_ hq) (fun p hp hWp hFp hSp hle => g.nx_le (hfar p hp hWp hFp hSp hle) (by omega)) t1 r1
        have hfe : ∀ p, p < all.size → W p = true → F p = .al → S p → k ≤ p → ι2 (Hs p).nx = ι (Hs p).nx := fun p hp hWp hFp hSp hle => e2 _ (g.nx_le (hfar p hp hWp hFp hSp hle) (by omega))
        have ar2 : Ar P all Hs V W F ι2 (Hs k').nx k' S tS a.tmps := by
          intro u v v' hv hv'
          rcases inv.ar u v v' hv hv' with h1 | ⟨h1, p, i, o', h2, h3, h4, h5, h6, h7, h8, h9, h10, h11, h12⟩
          · exact .inl (h1.mono t1.nx e3)
          · obtain ⟨_, _, _, _, hdp, _⟩ := g.alloc (Array.getElem?_eq_getElem h2) h3 h4
            refine .inr ⟨h1, p, i, o', h2, h3, h4, h5, hfar p h2 h3 h4 h5 h6, h7, h8, h9, h10, h11, ?_⟩
            rw [h11] at h12 ⊢
            exact hdp _ _ _ _ (hfe p h2 h3 h4 h5 h6) h12
        exact hK _ _ k' ι2 _ ⟨hk', hh1, hh2, r2, t2, hsl', hsz _ _, ar2.put inv.arz rfl ho (.inl (hv.mono (Nat.le_refl _) e1)), fun i hi hWi hF hSi hle => pd i hi hWi hF (nn i hWi hF hSi) (by omega),
          fun p q hp hq' hWp hWq hFp hFq hSp hSq hle hlt => by
            have hSp' := nn p hWp hFp hSp
            have hSq' := nn q hWq hFq hSq
            rw [hfe p hp hWp hFp hSp' (by omega), hfe q hq' hWq hFq hSq' (by omega)]
            exact inv.dis p q hp hq' hWp hWq hFp hFq hSp' hSq' (by omega) hlt, hdef _, hclosed⟩
      -- an operation that changes nothing
      have quiet : isMod (F j) = false → op P E rec tS all[j] (Hs k) = some (V j, Hs k) → Oper.wp P all[j] a w K Q := by
        intro hnm hq
        have hnh : isHard (F j) = false := by
          cases hh : isHard (F j) with
          | false => rfl
          | true => rw [hard_mod hh] at hnm; cases hnm
        by_cases hcp : copyKind all[j] = true
        · -- a copy
          have hcopy : ∃ x, all[j].op.operands = #[x] ∧ ev tS x = V j ∧ okOperand E x = true ∧ execOp a.eval all[j] = pure (Next.value (a.eval x)) := by
            generalize all[j] = o at hcp hq
            obtain ⟨dst, opn, type, pos, after, guard⟩ := o
            unfold op at hq
            cases opn <;> simp only [copyKind, Bool.false_eq_true] at hcp
            case move x =>
              cases hok : okOperand E x with
              | false => simp [Op.operands, hok] at hq
              | true =>
                simp [Op.operands, hok] at hq
                exact ⟨x, rfl, hq, hok, rfl⟩
            case assign x =>
              cases hok : okOperand E x with
              | false => simp [Op.operands, hok] at hq
              | true =>
                simp [Op.operands, hok] at hq
                exact ⟨x, rfl, hq, hok, rfl⟩
          obtain ⟨x, hx1, hx2, hx3, hx4⟩ := hcopy
          have hxm : x ∈ all[j].op.operands := by rw [hx1]; simp
          unfold Oper.wp
          rw [hx4]
          simp only [Sem.run_pure, Oper.upon_value]
          have hval : VR ι (Hs k).nx (V j) (a.eval x) ∨ (∀ u, all[j].dst = some u → u ∈ early P all) ∧ ∃ p, p < all.size ∧ W p = true ∧ F p = .al ∧ (S p ∨ p = j) ∧ k ≤ p ∧ p ≤ j ∧ V j = V p ∧ VR ι ((Hs p).nx + 1) (V j) (a.eval x) := by
            rw [← hx2]
            rcases hear hxm hx3 with h1 | ⟨u, p, h1, h2, h5, h6, h7, h8, h9, h10, h11, h12⟩
            · exact .inl h1
            · rcases (okE (hearly p h6 h7 h5)).2 ⟨u, h1, h2⟩ with h | h | h
              · exact .inr ⟨h.2, p, h5, h6, h7, .inl h8, h9, by omega, h11, h12⟩
              · have := (quiet_kind hfS hnm).1; rw [h] at this; cases this
              · have := (quiet_kind hfS hnm).2; rw [h] at this; cases this
          exact hK _ _ k ι _ ⟨inv.hk, keepH (.inl hnh), keepA, inv.rel, inv.tr, hsl', hsz _ _, inv.ar.put inv.arz rfl ho hval, fun i hi hWi hF hSi hle => inv.pend i hi hWi hF (nn i hWi hF hSi) hle,
            fun p q hp hq hWp hWq hFp hFq hSp hSq hle hlt => inv.dis p q hp hq hWp hWq hFp hFq (nn p hWp hFp hSp) (nn q hWq hFq hSq) hle hlt, hdef _, hclosed⟩
        · refine stp (Hs k) k hq rfl inv.hk (Nat.le_refl _) (fun p _ _ _ _ h => h) (keepH (.inl hnh)) keepA fun x hx hok => ?_
          rcases hear hx hok with h1 | ⟨u, p, h1, h2, h5, h6, h7, h8, h9, h10, h11, h12⟩
          · exact h1
          · rcases (okE (hearly p h6 h7 h5)).2 ⟨u, h1, h2⟩ with h | h | h
            · exact absurd h.1 hcp
            · have := (quiet_kind hfS hnm).1; rw [h] at this; cases this
            · have := (quiet_kind hfS hnm).2; rw [h] at this; cases this
      have seen := fun {b : Nat} (hF : (∃ q n, F j = .ld b q n) ∨ F j = .rb b) => g.same_seen inv.hk inv.hard inv.als hn inv.closed hj hW hS hpre hF
      have heap := fun (hF : F j = .rd ∨ isHard (F j) = true) => g.same_heap inv.hk inv.hard inv.als hn inv.closed hj hW hS hpre hF
      -- an operation that changes something
      have loud : isHard (F j) = true → Oper.wp P all[j] a w K Q := by
        intro hh
        obtain ⟨_, hkj⟩ := heap (.inr hh)
        have hkj := hkj hh
        subst hkj
        have hfar : ∀ p, p < all.size → W p = true → F p = .al → S p → k ≤ p → k + 1 ≤ p := by
          intro p hp hWp hFp hSp hle
          have : p ≠ k := by rintro rfl; exact hS hSp
          omega
        refine stp (Hs (k + 1)) (k + 1) hop rfl hj (by omega) hfar (fun i hi hWi hhi => ?_) (fun i hi hWi hF hlt => ?_) fun x hx hok => ?_
        · rw [inv.hard i hi hWi hhi]; omega
        · have hne : i ≠ k := by rintro rfl; exact hFal hF
          exact .inl (inv.als i hi hWi hF (by omega))
        · rcases hear hx hok with h1 | ⟨u, p, h1, h2, h5, h6, h7, h8, h9, h10, h11, h12⟩
          · exact h1
          · omega
      cases hF : F j with
      | pure =>
        rw [hF] at hfS
        exact quiet (by rw [hF]; rfl) ((pure_op (fpA_eq hfS (by simp) (by simp)) hop).2 _)
      | ld b q n =>
        have hfS' := hfS
        rw [hF] at hfS'
        refine quiet (by rw [hF]; rfl) ((ld_op (fpA_eq hfS' (by simp) (by simp)) hop).2.2.2 _ fun i hi _ => ?_)
        exact (seen (.inl ⟨q, n, hF⟩)).1 q n hF i hi
      | rb b =>
        have hfS' := hfS
        rw [hF] at hfS'
        refine quiet (by rw [hF]; rfl) ?_
        rw [← op_congr (Hs k) hev]
        exact (seen (.inr hF)).2 hF
      | rd =>
        have hfS' := hfS
        rw [hF] at hfS'
        have h1 := rdA_op hfS' hop
        obtain ⟨h2, _⟩ := heap (.inl hF)
        refine quiet (by rw [hF]; rfl) ?_
        rw [h2]
        rw [h1] at hop
        exact hop
      | st b q n => exact loud (by rw [hF]; rfl)
      | md => exact loud (by rw [hF]; rfl)
      | wb _ => exact loud (by rw [hF]; rfl)
      | al => exact absurd hF hFal
theorem ready_mem {listed : Array Bool} {i : Nat} : i ∈ Region.ready .any all listed ↔ i < all.size ∧ listed.getD i true = false ∧ ∃ o, all[i]? = some o ∧ ∀ e ∈ o.after.toList, Region.binds .any e = true → listed.getD e.on false = true := by
  unfold Region.ready
  rw [List.mem_filter, List.mem_range]
  constructor
  · rintro ⟨h1, h2⟩
    simp only [Bool.and_eq_true, Bool.not_eq_true'] at h2
    have ho := Array.getElem?_eq_getElem h1
    refine ⟨h1, h2.1, _, ho, fun e he hb => ?_⟩
    have h3 := h2.2
    rw [ho] at h3
    simp only [Option.map_some, Option.getD_some] at h3
    have := Array.all_eq_true_iff_forall_mem.1 h3 e (by simpa using he)
    simpa [hb] using this
  · rintro ⟨h1, h2, o, ho, h3⟩
    refine ⟨h1, ?_⟩
    simp only [Bool.and_eq_true, Bool.not_eq_true']
    refine ⟨h2, ?_⟩
    rw [ho]
    simp only [Option.map_some, Option.getD_some]
    refine Array.all_eq_true_iff_forall_mem.2 fun e he => ?_
    cases hb : Region.binds .any e with
    | false => rfl
    | true => simpa [hb] using h3 e (by simpa using he) hb
theorem Good.all_done (g : Good P E rec all T Hs V W F) {listed : Array Bool} (hsz : listed.size = all.size) (hr : Region.ready .any all listed = []) : ∀ j, j < all.size → listed.getD j false = true := by
  intro j
  induction j using Nat.strongRecOn with
  | _ j ih =>
    intro hj
    cases hl : listed.getD j false with
    | true => rfl
    | false =>
      have ho := Array.getElem?_eq_getElem hj
      have hl' : listed.getD j true = false := by
        rw [Array.getD_eq_getD_getElem?] at hl ⊢
        rw [Array.getElem?_eq_getElem (by omega)] at hl ⊢
        exact hl
      have : j ∈ Region.ready .any all listed := ready_mem.2 ⟨hj, hl', _, ho, fun e he hb => ih e.on (g.ok.back j _ ho e he hb) (by have := g.ok.back j _ ho e he hb; omega)⟩
      rw [hr] at this
      cases this
theorem Good.any (g : Good P E rec all T Hs V W F) (hea : needAl P all = true → okEarly P all = true) {ι0 : Nat → Emb} {w0 : World} {d : List Deferred} {Q : Exit → Act → World → Prop} (hQ : Post P E ι0 (Hs 0) w0 d (T all.size) (Hs all.size) (Q .normal)) :
    ∀ (fuel : Nat) (listed : Array Bool) (a : Act) (w : World) (k : Nat) (ι : Nat → Emb) (tS : Array Value), listed.size = all.size → listed.toList.count false ≤ fuel →
      Inv P E all T Hs V W F ι0 w0 d (fun i => listed.getD i false = true) a w k ι tS → Nrm W F all.size (fun i => listed.getD i false = true) k → wpAny P .any all Q fuel listed a w := by
  have fin : ∀ (listed : Array Bool) (a : Act) (w : World) (k : Nat) (ι : Nat → Emb) (tS : Array Value), listed.size = all.size →
      Inv P E all T Hs V W F ι0 w0 d (fun i => listed.getD i false = true) a w k ι tS → Nrm W F all.size (fun i => listed.getD i false = true) k → Region.ready .any all listed = [] → Q .normal a w := by
    intro listed a w k ι tS hsz inv hn hr
    have hall := g.all_done hsz hr
    have hks : k = all.size := hn.resolve_right fun h => h.2.2 (hall k h.1)
    have hk : Hs all.size = Hs k := by rw [hks]
    have hslT := g.slots all.size (Nat.le_refl _)
    have ht : tS = T all.size := by
      apply Array.ext_getElem?
      intro u
      by_cases hex : ∃ (i : Nat) (p : Oper), all[i]? = some p ∧ p.dst = some u
      · obtain ⟨i, p, hp, hd⟩ := hex
        have hi : i < all.size := (Array.getElem?_eq_some_iff.1 hp).1
        by_cases hus : u < (T 0).size
        · rw [(inv.sl.2 u).1 i p hp (hall i hi) hd hus, (hslT.2 u).1 i p hp hi hd hus]
        · rw [Array.getElem?_eq_none (show tS.size ≤ u by have h9 : tS.size = (T 0).size := inv.sl.1; rw [h9]; exact Nat.not_lt.1 hus), Array.getElem?_eq_none (show (T all.size).size ≤ u by have h9 : (T all.size).size = (T 0).size := hslT.1; rw [h9]; exact Nat.not_lt.1 hus)]
      · rw [(inv.sl.2 u).2 (fun i p hp _ hd => hex ⟨i, p, hp, hd⟩), (hslT.2 u).2 (fun i p hp _ hd => hex ⟨i, p, hp, hd⟩)]
    refine hQ ι a w ?_ ?_ ?_ inv.defers
    · rw [hk]; exact inv.tr
    · rw [hk]; exact inv.rel
    · rw [hk, ← ht]
      refine ⟨inv.arz.symm, fun u v v' hv hv' => ?_⟩
      rcases inv.ar u v v' hv hv' with h1 | ⟨_, p, i, o, h2, h3, h4, h5, h6, h7, h8, h9, h10, h11, h12⟩
      · exact h1
      · omega
  intro fuel
  induction fuel with
  | zero =>
    intro listed a w k ι tS hsz hc inv hn
    have hr : Region.ready .any all listed = [] := by
      apply List.eq_nil_iff_forall_not_mem.2
      intro i hi
      obtain ⟨h1, h2, _⟩ := ready_mem.1 hi
      have h3 : listed.toList.count false = 0 := by omega
      rw [List.count_eq_zero] at h3
      apply h3
      rw [Array.getD_eq_getD_getElem?, Array.getElem?_eq_getElem (by omega)] at h2
      simp only [Option.getD_some] at h2
      rw [← h2]
      simp
    exact ⟨hr, fin listed a w k ι tS hsz inv hn hr⟩
  | succ fuel ih =>
    intro listed a w k ι tS hsz hc inv hn
    refine ⟨fin listed a w k ι tS hsz inv hn, fun i hi => ?_⟩
    obtain ⟨h1, h2, o, ho, h3⟩ := ready_mem.1 hi
    have hil : i < listed.size := by omega
    have hli : listed[i]? = some false := by
      rw [Array.getD_eq_getD_getElem?, Array.getElem?_eq_getElem hil] at h2
      simp only [Option.getD_some] at h2
      rw [Array.getElem?_eq_getElem hil, h2]
    have hnS : ¬ (listed.getD i false = true) := by
      rw [Array.getD_eq_getD_getElem?, hli]
      simp
    have hpre : ∀ m, ((Region.before all).getD i 0).testBit m = true → listed.getD m false = true := by
      intro m hm
      obtain ⟨e, he, hb, hx⟩ := before_spec all g.ok.back ho hm
      have hlt := g.ok.back i o ho e he hb
      rcases hx with rfl | hx
      · exact h3 e he hb
      · exact inv.closed e.on (by omega) (h3 e he hb) m hx
    refine g.next hea inv hn h1 hnS hpre fun a' w' k' ι' tS' inv' hn' => ?_
    have hset : (fun m => (listed.setIfInBounds i true).getD m false = true) = (fun m => listed.getD m false = true ∨ m = i) := by
      funext m
      apply propext
      rw [Array.getD_eq_getD_getElem?, Array.getD_eq_getD_getElem?, Array.getElem?_setIfInBounds]
      by_cases hm : i = m
      · subst hm; rw [if_pos rfl, if_pos hil]; simp
      · rw [if_neg hm]
        exact ⟨.inl, fun h => h.resolve_right (fun e => hm e.symm)⟩
    refine ih _ a' w' k' ι' tS' (by simp [hsz]) ?_ (by rw [hset]; exact inv') (by rw [hset]; exact hn')
    · rw [Array.toList_setIfInBounds, List.count_set (by simpa using hil)]
      have hmem : listed.toList[i]? = some false := by simpa using hli
      have hget : listed.toList[i]'(by simpa using hil) = false := by
        have := List.getElem?_eq_getElem (l := listed.toList) (i := i) (by simpa using hil)
        rw [this] at hmem
        exact Option.some.inj hmem
      have hpos : 0 < listed.toList.count false := List.count_pos_iff.2 (List.mem_of_getElem? hmem)
      simp [hget]
      simp only [Array.count_toList] at *
      omega
structure PermD (ord : List Nat) (n : Nat) : Prop where
  len : ord.length = n
  at_ : ∀ i, i < n → ord[ord.idxOf i]? = some i
  back : ∀ p, p < n → ∃ i, ord[p]? = some i ∧ i < n ∧ ord.idxOf i = p
theorem okPerm_spec {ord : List Nat} {n : Nat} (h : okPerm ord n = true) : PermD ord n := by
  unfold okPerm at h
  simp only [Bool.and_eq_true, decide_eq_true_iff, List.all_eq_true, List.mem_range] at h
  refine ⟨h.1, fun i hi => (h.2 i hi).1, fun p hp => ?_⟩
  have := (h.2 p hp).2
  cases hq : ord[p]? with
  | none => rw [hq] at this; cases this
  | some j =>
    rw [hq] at this
    simp only [Bool.and_eq_true, decide_eq_true_iff] at this
    exact ⟨j, rfl, this.1, this.2⟩
theorem PermD.lt {ord : List Nat} {n : Nat} (pd : PermD ord n) {i : Nat} (hi : i < n) : ord.idxOf i < n := by
  have := (List.getElem?_eq_some_iff.1 (pd.at_ i hi)).1
  rw [pd.len] at this
  exact this
theorem PermD.get {ord : List Nat} {all : Array Oper} (pd : PermD ord all.size) {p : Nat} (hp : p < all.size) : ∃ i o, ord[p]? = some i ∧ i < all.size ∧ ord.idxOf i = p ∧ all[i]? = some o ∧ (permute ord all)[p]? = some (moved ord o) := by
  obtain ⟨i, h1, h2, h3⟩ := pd.back p hp
  refine ⟨i, all[i], h1, h2, h3, Array.getElem?_eq_getElem h2, ?_⟩
  have hmap : (ord.filterMap fun i => (all[i]?).map (moved ord)) = ord.map fun i => moved ord (all[i]?.getD default) := by
    have hall : ∀ i ∈ ord, i < all.size := by
      intro i hi
      obtain ⟨q, hq, rfl⟩ := List.getElem_of_mem hi
      obtain ⟨i', e1, e2, _⟩ := pd.back q (by rw [← pd.len]; exact hq)
      rw [List.getElem?_eq_getElem hq] at e1
      cases e1
      exact e2
    clear h1 h3 pd
    generalize moved ord = f
    induction ord with
    | nil => rfl
    | cons x ord ih =>
      have hx := hall x List.mem_cons_self
      rw [List.filterMap_cons, Array.getElem?_eq_getElem hx, List.map_cons]
      simp only [Option.map_some, Option.getD_some]
      rw [ih fun i hi => hall i (List.mem_cons_of_mem _ hi)]
      simp only [Array.getElem?_eq_getElem hx, Option.getD_some]
  unfold permute
  rw [hmap, List.getElem?_toArray, List.getElem?_map, h1]
  simp only [Option.map_some, Array.getElem?_eq_getElem h2, Option.getD_some]
theorem PermD.size {ord : List Nat} {all : Array Oper} (pd : PermD ord all.size) : (permute ord all).size = all.size := by
  refine Nat.le_antisymm ?_ ?_
  · unfold permute
    rw [List.size_toArray]
    have := List.length_filterMap_le (fun i => (all[i]?).map (moved ord)) ord
    rw [pd.len] at this
    exact this
  · rcases Nat.eq_zero_or_pos all.size with h | h
    · omega
    · obtain ⟨i, o, _, _, _, _, h1⟩ := pd.get (p := all.size - 1) (by omega)
      have := (Array.getElem?_eq_some_iff.1 h1).1
      omega
theorem PermD.pos {ord : List Nat} {all : Array Oper} (pd : PermD ord all.size) {i : Nat} {o : Oper} (ho : all[i]? = some o) : (permute ord all)[ord.idxOf i]? = some (moved ord o) := by
  have hi := (Array.getElem?_eq_some_iff.1 ho).1
  obtain ⟨i', o', h1, _, _, h4, h5⟩ := pd.get (pd.lt hi)
  rw [pd.at_ i hi] at h1
  cases h1
  rw [ho] at h4
  cases h4
  exact h5
theorem exec_moved (ord : List Nat) (ρ : Operand → Value) (o : Oper) : execOp ρ (moved ord o) = execOp ρ o := by
  obtain ⟨dst, opn, type, pos, after, guard⟩ := o
  cases opn <;> rfl
theorem wanted_moved {ord : List Nat} {all : Array Oper} (pd : PermD ord all.size) (hg : ∀ (j : Nat) (o : Oper), all[j]? = some o → ∀ g b, o.guard = some (g, b) → g < j) {i : Nat} {o : Oper} (ho : all[i]? = some o) (tm : Array Value) :
    Region.wanted (moved ord o) (yielded (permute ord all) tm) = Region.wanted o (yielded all tm) := by
  unfold Region.wanted moved
  simp only
  cases hgd : o.guard with
  | none => rfl
  | some q =>
    obtain ⟨g, b⟩ := q
    simp only [Option.map_some]
    have hlt := hg i o ho g b hgd
    have hi := (Array.getElem?_eq_some_iff.1 ho).1
    have hog := Array.getElem?_eq_getElem (show g < all.size by omega)
    have : yielded (permute ord all) tm (ord.idxOf g) = yielded all tm g := by
      unfold yielded
      rw [pd.pos hog, hog]
      rfl
    rw [this]
theorem upon_moved (ord : List Nat) (o : Oper) (a : Act) (K : Act → World → Prop) (Q : Exit → Act → World → Prop) (r : Result Next) : (moved ord o).upon P a K Q r → o.upon P a K Q r := by
  intro h
  exact h
/-- Whatever holds of the region in one order holds of it in the other one. -/
theorem wpAny_perm {ord : List Nat} {all : Array Oper} (pd : PermD ord all.size) (okd : OkD all) {Q : Exit → Act → World → Prop} : ∀ (fuel : Nat) (listed listed' : Array Bool) (a : Act) (w : World), listed.size = all.size → listed'.size = all.size →
    (∀ i, i < all.size → listed'[ord.idxOf i]? = listed[i]?) → wpAny P .any (permute ord all) Q fuel listed' a w → wpAny P .any all Q fuel listed a w := by
  have hguard : ∀ (j : Nat) (o : Oper), all[j]? = some o → ∀ g b, o.guard = some (g, b) → g < j := fun j o ho g b h => (okd.guard j o ho g b h).2
  have hsz := pd.size
  have binds : ∀ (e : Edge) (n : Nat), Region.binds .any { e with on := n } = Region.binds .any e := by
    intro e n
    rfl
  have rdy : ∀ (listed listed' : Array Bool), listed.size = all.size → listed'.size = all.size → (∀ i, i < all.size → listed'[ord.idxOf i]? = listed[i]?) → ∀ i, i ∈ Region.ready .any all listed ↔ (i < all.size ∧ ord.idxOf i ∈ Region.ready .any (permute ord all) listed') := by
    intro listed listed' hl hl' hrel i
    have getD : ∀ (d : Bool) i, i < all.size → listed'.getD (ord.idxOf i) d = listed.getD i d := fun d i hi => by
      rw [Array.getD_eq_getD_getElem?, Array.getD_eq_getD_getElem?, hrel i hi]
    rw [ready_mem, ready_mem]
    constructor
    · rintro ⟨h1, h2, o, ho, h3⟩
      refine ⟨h1, by rw [hsz]; exact pd.lt h1, by rw [getD _ i h1]; exact h2, _, pd.pos ho, fun e he hb => ?_⟩
      unfold moved at he
      simp only [Array.toList_map, List.mem_map] at he
      obtain ⟨e0, he0, rfl⟩ := he
      rw [binds] at hb
      have hlt := okd.back i o ho e0 he0 hb
      simp only
      rw [getD _ _ (by omega)]
      exact h3 e0 he0 hb
    · rintro ⟨h1, _, h2, o', ho', h3⟩
      have ho := Array.getElem?_eq_getElem h1
      rw [pd.pos ho] at ho'
      cases ho'
      refine ⟨h1, by rw [← getD _ i h1]; exact h2, _, ho, fun e he hb => ?_⟩
      have hlt := okd.back i _ ho e he hb
      have := h3 { e with on := ord.idxOf e.on } (by
        unfold moved
        simp only [Array.toList_map, List.mem_map]
        exact ⟨e, he, rfl⟩) (by rw [binds]; exact hb)
      simp only at this
      rw [getD _ _ (by omega)] at this
      exact this
  have rdy' : ∀ (listed listed' : Array Bool), listed.size = all.size → listed'.size = all.size → (∀ i, i < all.size → listed'[ord.idxOf i]? = listed[i]?) → Region.ready .any all listed = [] → Region.ready .any (permute ord all) listed' = [] := by
    intro listed listed' hl hl' hrel h
    apply List.eq_nil_iff_forall_not_mem.2
    intro p hp
    have hp1 := (ready_mem.1 hp).1
    rw [hsz] at hp1
    obtain ⟨i, o, e1, e2, e3, _⟩ := pd.get hp1
    have : i ∈ Region.ready .any all listed := (rdy listed listed' hl hl' hrel i).2 ⟨e2, by rw [e3]; exact hp⟩
    rw [h] at this
    cases this
  intro fuel
  induction fuel with
  | zero =>
    intro listed listed' a w hl hl' hrel h
    refine ⟨?_, h.2⟩
    apply List.eq_nil_iff_forall_not_mem.2
    intro i hi
    have := ((rdy listed listed' hl hl' hrel i).1 hi).2
    rw [h.1] at this
    cases this
  | succ fuel ih =>
    intro listed listed' a w hl hl' hrel h
    refine ⟨fun hr => h.1 (rdy' listed listed' hl hl' hrel hr), fun i hi => ?_⟩
    obtain ⟨hin, hi'⟩ := (rdy listed listed' hl hl' hrel i).1 hi
    have ho := Array.getElem?_eq_getElem hin
    have h1 := h.2 _ hi'
    have hK : ∀ a w, wpAny P .any (permute ord all) Q fuel (listed'.setIfInBounds (ord.idxOf i) true) a w → wpAny P .any all Q fuel (listed.setIfInBounds i true) a w := by
      intro a w hw
      refine ih _ _ a w (by simp [hl]) (by simp [hl']) (fun q hq => ?_) hw
      rw [Array.getElem?_setIfInBounds, Array.getElem?_setIfInBounds]
      by_cases he : i = q
      · subst he
        rw [if_pos rfl, if_pos rfl, if_pos (by rw [hl']; exact pd.lt hin), if_pos (by rw [hl]; exact hin)]
      · have hne : ord.idxOf i ≠ ord.idxOf q := by
          intro e
          have h2 := pd.at_ i hin
          rw [e, pd.at_ q hq] at h2
          exact he (Option.some.inj h2).symm
        rw [if_neg hne, if_neg he]
        exact hrel q hq
    unfold wpOp at h1 ⊢
    simp only [pd.pos ho, ho] at h1 ⊢
    rw [wanted_moved pd hguard ho] at h1
    split
    · rename_i hw
      rw [if_pos hw] at h1
      rcases h1 with h1 | ⟨h1, h2⟩
      · left
        refine Oper.wp_mono hK ?_
        unfold Oper.wp at h1 ⊢
        rw [exec_moved] at h1
        exact upon_moved ord _ _ _ _ _ h1
      · right
        refine ⟨?_, h2⟩
        unfold Oper.asks at h1 ⊢
        rw [exec_moved] at h1
        exact h1
    · rename_i hw
      rw [if_neg hw] at h1
      exact hK _ _ h1
/-- REGIONS THAT DRAW THEIR ORDER. -/
theorem draw_ok (hmix : P.follows .mixedOrders = true) (hrec : SoundR P E rec) : DrawOk P E rec := by
  intro id all0 t t' h h' hd
  unfold draw at hd
  split at hd
  · rename_i hok
    unfold okOrder at hok
    simp only [Bool.and_eq_true, Bool.or_eq_true, Bool.not_eq_true'] at hok
    obtain ⟨⟨⟨ok1, ok2⟩, ok3⟩, ok4⟩ := hok
    have okd0 := okDraw_spec ok1
    have hsize : (order P all0).size = all0.size := by
      unfold order
      split
      · rename_i hl
        exact (okPerm_spec (ok2.resolve_left (by rw [hl]; simp))).size
      · rfl
    have hwp : ∀ (a : Act) (w : World) (Q : Exit → Act → World → Prop), wpAny P .any (order P all0) Q all0.size (Array.replicate all0.size false) a w → wpAny P .any all0 Q all0.size (Array.replicate all0.size false) a w := by
      intro a w Q hw
      unfold order at hw
      split at hw
      · rename_i hl
        have pd := okPerm_spec (ok2.resolve_left (by rw [hl]; simp))
        refine wpAny_perm pd okd0 _ _ _ a w (by simp) (by simp) (fun i hi => ?_) hw
        rw [Array.getElem?_replicate, Array.getElem?_replicate, if_pos hi, if_pos (pd.lt hi)]
      · exact hw
    generalize order P all0 = all at *
    have okd := okDraw_spec ok3
    have hea : needAl P all = true → okEarly P all = true := fun h => ok4.resolve_left (by rw [h]; simp)
    obtain ⟨T, Hs, V, W, F, q1, q2, q3, q4, q5, q6⟩ := drawGo_run all.toList 0 [] t t' h h' rfl (Nat.zero_le _) hd
    have g : Good P E rec all T Hs V W F := ⟨okd, q5, fun j hj hW i hi hWi => (q6 j (Nat.zero_le _) hj hW).2 i (Nat.zero_le _) hi hWi, hrec⟩
    refine ⟨?_, fun ι w a Q r ht hQ => ?_⟩
    · have h1 := g.grows (a := 0) all.size (by omega)
      rw [Nat.zero_add, q2, q4] at h1
      exact h1
    · refine wp_region_any hmix (hwp _ _ _ ?_)
      rw [← hsize]
      rw [← q2] at r ht hQ
      rw [← q3, ← q4] at hQ
      rw [← q1] at ht
      have hQ' : Post P E ι (Hs 0) { w with drawn := w.drawn + 1 } a.defers (T all.size) (Hs all.size) (Q .normal) := fun ι' a' w' t1 t2 t3 t4 => hQ ι' a' w' t1.drew t2 t3 t4
      have hnone : ∀ i, (Array.replicate all.size false).getD i false = false := by
        intro i
        rw [Array.getD_eq_getD_getElem?, Array.getElem?_replicate]
        split <;> rfl
      have hinv : Inv P E all T Hs V W F ι { w with drawn := w.drawn + 1 } a.defers (fun i => (Array.replicate all.size false).getD i false = true) a { w with drawn := w.drawn + 1 } 0 ι (T 0) := by
        refine ⟨Nat.zero_le _, fun j _ _ _ => ?_, fun j _ _ _ h => by omega, r.drew _, .refl _ _ _, ⟨rfl, fun u => ⟨fun i o _ hS => ?_, fun _ => rfl⟩⟩, ht.1.symm, fun u v v' hv hv' => .inl (ht.2 u v v' hv hv'), fun j _ _ _ hS => ?_, fun i j _ _ _ _ _ _ hS => ?_, rfl, fun j _ hS => ?_⟩
        · simp only [hnone]; simp
        · simp only [hnone] at hS; cases hS
        · simp only [hnone] at hS; cases hS
        · simp only [hnone] at hS; cases hS
        · simp only [hnone] at hS; cases hS
      obtain ⟨k', inv', hn'⟩ := g.norm all.size 0 (by omega) hinv
      exact g.any hea hQ' all.size _ a _ k' ι (T 0) (by simp) (by simp) inv' hn'
  · cases hd
/-- THE SOUNDNESS OF THE ABSTRACT MACHINE. -/
theorem sound (hmix : P.follows .mixedOrders = true) (n : Nat) : SoundR P E (call P E n) := call_sound (fun _ h => draw_ok hmix h) n
end
end Go.AM
end
