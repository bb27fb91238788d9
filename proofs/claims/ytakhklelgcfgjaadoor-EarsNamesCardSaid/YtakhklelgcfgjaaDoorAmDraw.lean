/- Regions in the text's order; code; calls. -/
/- Regions that draw their order. -/
/- Regions that draw their order: what each kind of operation does. -/
/- Regions that draw their order: whatever order comes up, it comes to what the text's order comes to. -/
import Derived.Test.YtakhklelgcfgjaaDoorAmHeap
import Derived.Tactics
import Derived.LoopN

namespace Go.AM

section
variable {P : Program} {E : Env}

theorem yielded_rel {ι : Nat → Emb} {n : Nat} {t t' : Array Value} (ht : AR ι n t t') (all : Array Oper) (j : Nat) : yielded all t j = yielded all t' j := by
  unfold yielded
  cases hd : (all[j]?).bind (·.dst) with
  | none => rfl
  | some d =>
    simp only [Option.bind_some]
    cases hv : t[d]? with
    | none =>
      have : t'[d]? = none := by
        rw [Array.getElem?_eq_none_iff] at hv ⊢
        have := ht.1
        omega
      rw [this]
    | some v =>
      obtain ⟨v', h1, h2⟩ := ht.get hv
      rw [h1]
      cases h2 <;> rfl

theorem wanted_rel {ι : Nat → Emb} {n : Nat} {t t' : Array Value} (ht : AR ι n t t') (all : Array Oper) (o : Oper) : Region.wanted o (yielded all t) = Region.wanted o (yielded all t') := by
  have : yielded all t = yielded all t' := funext fun j => yielded_rel ht all j
  rw [this]

theorem put_rel {ι : Nat → Emb} {n : Nat} {t : Array Value} {a : Act} (ht : AR ι n t a.tmps) (d : Option Tmp) {v v' : Value} (hv : VR ι n v v') : AR ι n (put t d v) (a.put d v').tmps := by
  cases d with
  | none => exact ht
  | some d =>
    refine ⟨by simp [put, Act.put, ht.1], fun i x x' hx hx' => ?_⟩
    simp only [put] at hx
    simp only [Act.put] at hx'
    rw [Array.getElem?_setIfInBounds] at hx hx'
    by_cases hi : d = i
    · rw [if_pos hi] at hx hx'
      split at hx
      · split at hx'
        · cases hx; cases hx'; exact hv
        · cases hx'
      · cases hx
    · rw [if_neg hi] at hx hx'
      exact ht.2 i x x' hx hx'

theorem put_defers (a : Act) (d : Option Tmp) (v : Value) : (a.put d v).defers = a.defers := by cases d <;> rfl

/-- What is asked of whatever follows. -/
def Post (P : Program) (E : Env) (ι : Nat → Emb) (h : H) (w : World) (d : List Deferred) (t' : Array Value) (h' : H) (K : Act → World → Prop) : Prop :=
  ∀ ι' a' w', Tr ι h w ι' h' w' → Rel P E ι' h' w' → AR ι' h'.nx t' a'.tmps → a'.defers = d → K a' w'

theorem Post.step {ι ι1 : Nat → Emb} {h h1 h' : H} {w w1 : World} {d : List Deferred} {t' : Array Value} {K : Act → World → Prop} (p : Post P E ι h w d t' h' K) (t1 : Tr ι h w ι1 h1 w1) : Post P E ι1 h1 w1 d t' h' K :=
  fun ι' a' w' ht hr ha hd => p ι' a' w' (t1.trans ht) hr ha hd

theorem ops_grows {rec : Rec} (hrec : SoundR P E rec) (all : Array Oper) : ∀ (l : List Oper) (t t' : Array Value) (h h' : H), ops P E rec all l t h = some (t', h') → Grow h h' := by
  intro l
  induction l with
  | nil => intro t t' h h' ho; cases ho; exact .refl _
  | cons o l ih =>
    intro t t' h h' ho
    simp only [ops] at ho
    split at ho
    · obtain ⟨⟨v, h1⟩, h2, h3⟩ := bind_some ho
      exact (op_grows hrec h2).trans (ih _ _ _ _ h3)
    · exact ih _ _ _ _ ho

theorem ops_wp {rec : Rec} (hrec : SoundR P E rec) (all : Array Oper) {Q : Exit → Act → World → Prop} : ∀ (l : List Oper) (t t' : Array Value) (h h' : H), ops P E rec all l t h = some (t', h') →
    ∀ (ι : Nat → Emb) (w : World) (a : Act), Rel P E ι h w → AR ι h.nx t a.tmps → Post P E ι h w a.defers t' h' (Q .normal) → wpList P all Q l a w := by
  intro l
  induction l with
  | nil =>
    intro t t' h h' ho ι w a r ht hQ
    cases ho
    exact hQ ι a w (.refl _ _ _) r ht rfl
  | cons o l ih =>
    intro t t' h h' ho ι w a r ht hQ
    simp only [ops] at ho
    rw [wanted_rel ht all o] at ho
    unfold wpList
    split at ho
    · rename_i hw
      rw [if_pos hw]
      obtain ⟨⟨v, h1⟩, h2, h3⟩ := bind_some ho
      refine .inl (op_wp hrec h2 r ht fun v' ι' w' q1 q2 q3 => ?_)
      refine ih _ _ _ _ h3 ι' w' (a.put o.dst v') q2 (put_rel (ht.mono q1.nx q1.ext) o.dst q3) ?_
      rw [put_defers]
      exact hQ.step q1
    · rename_i hw
      rw [if_neg hw]
      refine ih _ _ _ _ ho ι w (a.put o.dst undef) r (put_rel ht o.dst .undef) ?_
      rw [put_defers]
      exact hQ

/-- What is asked of regions that draw their order (proved in the next text). -/
def DrawOk (P : Program) (E : Env) (rec : Rec) : Prop := ∀ (id : Nat) (all : Array Oper) (t t' : Array Value) (h h' : H), draw P E rec all t h = some (t', h') →
  Grow h h' ∧ ∀ (ι : Nat → Emb) (w : World) (a : Act) (Q : Exit → Act → World → Prop), Rel P E ι h w → AR ι h.nx t a.tmps → Post P E ι h w a.defers t' h' (Q .normal) → (Code.region id all true).wp P Q a w

def Ex.toExit : Ex → Exit
  | .normal => .normal
  | .exit i => .exit i
  | .ret => .ret

theorem code_sound {rec : Rec} (hrec : SoundR P E rec) (hdraw : DrawOk P E rec) (k : Nat) : ∀ (c : Code) (t t' : Array Value) (h h' : H) (e : Ex), code P E rec k c t h = some (e, t', h') →
    Grow h h' ∧ ∀ (ι : Nat → Emb) (w : World) (a : Act) (Q : Exit → Act → World → Prop), Rel P E ι h w → AR ι h.nx t a.tmps → Post P E ι h w a.defers t' h' (Q e.toExit) → c.wp P Q a w := by
  intro c
  induction c with
  | skip =>
    intro t t' h h' e hc
    simp only [code] at hc
    cases hc
    exact ⟨.refl _, fun ι w a Q r ht hQ => wp_skip (hQ ι a w (.refl _ _ _) r ht rfl)⟩
  | region id all dr =>
    intro t t' h h' e hc
    cases dr with
    | false =>
      simp only [code] at hc
      obtain ⟨⟨t1, h1⟩, h2, h3⟩ := map_some hc
      cases h3
      exact ⟨ops_grows hrec all _ _ _ _ _ h2, fun ι w a Q r ht hQ => wp_region_list (ops_wp hrec all _ _ _ _ _ h2 ι w a r ht hQ)⟩
    | true =>
      simp only [code] at hc
      obtain ⟨⟨t1, h1⟩, h2, h3⟩ := map_some hc
      cases h3
      exact hdraw id all t t1 h h1 h2
  | seq x y ihx ihy =>
    intro t t' h h' e hc
    simp only [code] at hc
    obtain ⟨⟨e1, t1, h1⟩, h2, h3⟩ := bind_some hc
    obtain ⟨gx, wx⟩ := ihx _ _ _ _ _ h2
    cases e1 with
    | normal =>
      simp only at h3
      obtain ⟨gy, wy⟩ := ihy _ _ _ _ _ h3
      refine ⟨gx.trans gy, fun ι w a Q r ht hQ => wp_seq (wx ι w a _ r ht fun ι1 a1 w1 q1 q2 q3 q4 => ?_)⟩
      refine wy ι1 w1 a1 Q q2 q3 ?_
      rw [q4]
      exact hQ.step q1
    | exit i =>
      simp only at h3
      cases h3
      exact ⟨gx, fun ι w a Q r ht hQ => wp_seq (wx ι w a _ r ht hQ)⟩
    | ret =>
      simp only at h3
      cases h3
      exact ⟨gx, fun ι w a Q r ht hQ => wp_seq (wx ι w a _ r ht hQ)⟩
  | cond b x y ihx ihy =>
    intro t t' h h' e hc
    simp only [code] at hc
    split at hc
    · cases hc
    · rename_i hok
      have hok' : okOperand E b = true := by simpa using hok
      split at hc
      · rename_i hb
        obtain ⟨gx, wx⟩ := ihx _ _ _ _ _ hc
        refine ⟨gx, fun ι w a Q r ht hQ => ?_⟩
        have hv := ev_rel r ht hok'
        rw [hb] at hv
        generalize hce : a.eval b = u at hv
        cases hv
        exact wp_cond (t := true) hce (wx ι w a Q r ht hQ)
      · rename_i hb
        obtain ⟨gy, wy⟩ := ihy _ _ _ _ _ hc
        refine ⟨gy, fun ι w a Q r ht hQ => ?_⟩
        have hv := ev_rel r ht hok'
        rw [hb] at hv
        generalize hce : a.eval b = u at hv
        cases hv
        exact wp_cond (t := false) hce (wy ι w a Q r ht hQ)
      · cases hc
  | block id x ih =>
    intro t t' h h' e hc
    simp only [code] at hc
    obtain ⟨⟨e1, t1, h1⟩, h2, h3⟩ := map_some hc
    obtain ⟨gx, wx⟩ := ih _ _ _ _ _ h2
    cases e1 with
    | normal =>
      simp only at h3
      cases h3
      exact ⟨gx, fun ι w a Q r ht hQ => wp_block (wx ι w a _ r ht hQ)⟩
    | exit i =>
      simp only at h3
      cases h3
      refine ⟨gx, fun ι w a Q r ht hQ => wp_block (wx ι w a _ r ht fun ι1 a1 w1 q1 q2 q3 q4 => ?_)⟩
      have := hQ ι1 a1 w1 q1 q2 q3 q4
      simp only [Ex.toExit, Exit.inBlock]
      by_cases hi : i = id
      · rw [if_pos hi] at this ⊢; exact this
      · rw [if_neg hi] at this ⊢; exact this
    | ret =>
      simp only at h3
      cases h3
      exact ⟨gx, fun ι w a Q r ht hQ => wp_block (wx ι w a _ r ht hQ)⟩
  | loop x ih =>
    intro t t' h h' e hc
    simp only [code] at hc
    have key : ∀ (m : Nat) (t t' : Array Value) (h h' : H) (e : Ex), loop (code P E rec k x) m t h = some (e, t', h') →
        Grow h h' ∧ ∀ (ι : Nat → Emb) (w : World) (a : Act) (Q : Exit → Act → World → Prop), Rel P E ι h w → AR ι h.nx t a.tmps → Post P E ι h w a.defers t' h' (Q e.toExit) → Code.rounds P x Q m a w := by
      intro m
      induction m with
      | zero => intro t t' h h' e hc; cases hc
      | succ m ihm =>
        intro t t' h h' e hc
        simp only [loop] at hc
        obtain ⟨⟨e1, t1, h1⟩, h2, h3⟩ := bind_some hc
        obtain ⟨gx, wx⟩ := ih _ _ _ _ _ h2
        cases e1 with
        | normal =>
          simp only at h3
          obtain ⟨gm, wm⟩ := ihm _ _ _ _ _ h3
          refine ⟨gx.trans gm, fun ι w a Q r ht hQ => ?_⟩
          rw [rounds_succ]
          refine wx ι w a _ r ht fun ι1 a1 w1 q1 q2 q3 q4 => ?_
          refine wm ι1 w1 a1 Q q2 q3 ?_
          rw [q4]
          exact hQ.step q1
        | exit i =>
          simp only at h3
          cases h3
          refine ⟨gx, fun ι w a Q r ht hQ => ?_⟩
          rw [rounds_succ]
          exact wx ι w a _ r ht hQ
        | ret =>
          simp only at h3
          cases h3
          refine ⟨gx, fun ι w a Q r ht hQ => ?_⟩
          rw [rounds_succ]
          exact wx ι w a _ r ht hQ
    obtain ⟨g, hw⟩ := key k _ _ _ _ _ hc
    exact ⟨g, fun ι w a Q r ht hQ => wp_loop_rounds k (hw ι w a Q r ht hQ)⟩
  | exit id =>
    intro t t' h h' e hc
    simp only [code] at hc
    cases hc
    exact ⟨.refl _, fun ι w a Q r ht hQ => wp_exit (hQ ι a w (.refl _ _ _) r ht rfl)⟩
  | ret =>
    intro t t' h h' e hc
    simp only [code] at hc
    cases hc
    exact ⟨.refl _, fun ι w a Q r ht hQ => wp_ret (hQ ι a w (.refl _ _ _) r ht rfl)⟩
  | _ => intro t t' h h' e hc; simp only [code] at hc; cases hc

/-- The results. -/
theorem resV_run {ι : Nat → Emb} {h : H} {w : World} (r : Rel P E ι h w) {t t' : Array Value} (ht : AR ι h.nx t t') : ∀ (l : List ResultVar) (vs : List Value), l.mapM (resV P t h) = some vs →
    ∃ vs', (l.mapM (fun | .tmp i => pure (t'.getD i undef) | .cell a ty => do loadVar ty (← asAddr (t'.getD a undef))) : Sem (List Value)).run P w = .ok vs' w ∧ LR ι h.nx vs vs' := by
  have hget : ∀ i, VR ι h.nx (t.getD i undef) (t'.getD i undef) := fun i => by
    have := ev_rel (E := E) (P := P) (a := ⟨t', []⟩) r ht (x := .tmp i) rfl
    exact this
  intro l
  induction l with
  | nil => intro vs hv; cases hv; exact ⟨[], rfl, .nil⟩
  | cons x l ih =>
    intro vs hv
    simp only [List.mapM_cons] at hv ⊢
    obtain ⟨v, hv1, hv2⟩ := bind_some hv
    obtain ⟨vs1, hv3, hv4⟩ := bind_some hv2
    cases hv4
    obtain ⟨vs', h1, h2⟩ := ih vs1 hv3
    have : ∃ v', (match x with | .tmp i => pure (t'.getD i undef) | .cell a ty => (do loadVar ty (← asAddr (t'.getD a undef))) : Sem Value).run P w = .ok v' w ∧ VR ι h.nx v v' := by
      cases x with
      | tmp i =>
        simp only [resV] at hv1
        cases hv1
        exact ⟨_, rfl, hget i⟩
      | cell a ty =>
        simp only [resV] at hv1
        obtain ⟨v', g1, g2⟩ := load_run r (hget a) hv1
        refine ⟨v', ?_, g2⟩
        rw [← g1]
        unfold load at hv1
        split at hv1
        · rename_i b o hb
          have := hget a
          rw [hb] at this
          show (do loadVar ty (← asAddr (t'.getD a undef)) : Sem Value).run P w = (Instr.loadAt ty (t'.getD a undef)).run P w
          generalize t'.getD a undef = u at this
          cases this
          rfl
        · cases hv1
    obtain ⟨v', g1, g2⟩ := this
    refine ⟨v' :: vs', ?_, .cons g2 h2⟩
    cases x <;> simp only [Sem.run_bind, g1, Result.andThen_ok, h1, Sem.run_pure] at g1 ⊢ <;> simp only [Sem.run_bind, g1, Result.andThen_ok, h1, Sem.run_pure]

theorem res_run {ι : Nat → Emb} {h : H} {w : World} (r : Rel P E ι h w) {fn : Func} {t t' : Array Value} (ht : AR ι h.nx t t') {v : Value} (hv : res P fn t h = some v) :
    ∃ v', (results fn t').run P w = .ok v' w ∧ VR ι h.nx v v' := by
  unfold res at hv
  obtain ⟨vs, h1, h2⟩ := map_some hv
  obtain ⟨vs', h3, h4⟩ := resV_run r ht _ _ h1
  have hm : (fn.results.mapM (fun | .tmp i => pure (t'.getD i undef) | .cell a ty => do loadVar ty (← asAddr (t'.getD a undef))) : Sem (Array Value)).run P w = .ok vs'.toArray w := by
    rw [Array.mapM_eq_mapM_toList]
    simp only [Sem.run_map, h3, Result.andThen_ok]
  have hlen := h4.1
  unfold results
  simp only [Sem.run_bind]
  refine ⟨if h : vs'.toArray.size = 1 then vs'.toArray[0] else .tuple vs'.toArray, ?_, ?_⟩
  · exact Eq.trans (congrArg (fun q : Result (Array Value) => q.andThen fun a w' => Sem.run P (pure (if h : a.size = 1 then a[0] else Value.tuple a)) w') hm) rfl
  · rw [← h2]
    cases vs with
    | nil =>
      have : vs' = [] := List.length_eq_zero_iff.1 (by simpa using hlen.symm)
      subst this
      exact .tuple rfl (fun i v v' hv => by simp at hv)
    | cons x vs =>
      obtain ⟨x', u, rfl, hx, hu⟩ := h4.uncons
      cases vs with
      | nil =>
        have : u = [] := List.length_eq_zero_iff.1 (by have := hu.1; simpa using this.symm)
        subst this
        simpa using hx
      | cons y vs =>
        obtain ⟨y', u, rfl, hy, hu⟩ := hu.uncons
        rw [dif_neg (by simp)]
        exact .tuple h4.toArray.1 h4.toArray.2

theorem init_rel {ι : Nat → Emb} {n m : Nat} {args args' : Array Value} (ha : AR ι n args args') : AR ι n (args ++ Array.replicate (m - args.size) undef) (args' ++ Array.replicate (m - args'.size) undef) := by
  rw [ha.1]
  refine AR.append ha ⟨rfl, fun i v v' hv hv' => ?_⟩
  rw [hv] at hv'
  cases hv'
  rw [Array.getElem?_replicate] at hv
  split at hv
  · cases hv; exact .undef
  · cases hv

/-- One body. -/
theorem body_sound {rec : Rec} (hrec : SoundR P E rec) (hdraw : DrawOk P E rec) {n : Nat} {f : FuncId} {args : Array Value} {h h' : H} {v : Value} (hb : body P E rec n f args h = some (v, h')) :
    (∃ fn c, P.funcs[f]? = some fn ∧ fn.body = some c ∧ fn.name ≠ "runtime.NumGoroutine") ∧ Grow h h' ∧
      ∀ ι w args', Rel P E ι h w → AR ι h.nx args args' → Calls P f args' w fun e w' => ∃ v' ι', e = .returned v' ∧ Tr ι h w ι' h' w' ∧ Rel P E ι' h' w' ∧ VR ι' h'.nx v v' := by
  unfold body at hb
  split at hb
  · rename_i fn hf
    split at hb
    · rename_i c hc
      split at hb
      · cases hb
      · rename_i hname
        obtain ⟨⟨e, t1, h1⟩, h2, h3⟩ := bind_some hb
        obtain ⟨g, hw⟩ := code_sound hrec hdraw n c _ _ _ _ _ h2
        have hres : e ≠ .exit 0 ∧ (∀ i, e ≠ .exit i) ∧ h1 = h' ∧ res P fn t1 h1 = some v := by
          cases e with
          | exit i => simp at h3
          | normal => simp only at h3; obtain ⟨u, q1, q2⟩ := map_some h3; cases q2; exact ⟨by simp, by simp, rfl, q1⟩
          | ret => simp only at h3; obtain ⟨u, q1, q2⟩ := map_some h3; cases q2; exact ⟨by simp, by simp, rfl, q1⟩
        obtain ⟨_, hne, rfl, hr⟩ := hres
        refine ⟨⟨fn, c, hf, hc, hname⟩, g, fun ι w args' r ha => ?_⟩
        refine calls_of_wp hf hc (hw ι w _ _ r (init_rel ha) fun ι' a' w' q1 q2 q3 q4 => ?_)
        obtain ⟨v', g1, g2⟩ := res_run q2 q3 hr
        have hd : a'.defers = [] := q4
        cases e with
        | exit i => exact absurd rfl (hne i)
        | normal => exact ⟨hd, v', g1, v', ι', rfl, q1, q2, g2⟩
        | ret => exact ⟨hd, v', g1, v', ι', rfl, q1, q2, g2⟩
    · cases hb
  · cases hb

theorem plainV_eq {ι : Nat → Emb} {n : Nat} {v v' : Value} (hp : plainV v = true) (hv : VR ι n v v') : v' = v := by
  cases hv <;> first | rfl | (simp [plainV] at hp; done)

theorem plainV_rel {ι : Nat → Emb} {n : Nat} {v : Value} (hp : plainV v = true) : VR ι n v v := by
  unfold plainV at hp
  split at hp
  · exact .int _ _
  · exact .bool _
  · cases hp

theorem plainR_rel {ι ι' : Nat → Emb} {n n' : Nat} {v v' : Value} (hp : plainR v = true) (hv : VR ι n v v') : VR ι' n' v v' := by
  cases hv with
  | int k x => exact .int k x
  | bool b => exact .bool b
  | tuple h1 h2 =>
    simp only [plainR, List.all_eq_true] at hp
    exact .tuple h1 fun i v v' a b => by
      have hpv := hp v (by simpa using Array.mem_of_getElem? a)
      rw [plainV_eq hpv (h2 i v v' a b)]
      exact plainV_rel hpv
  | _ => simp [plainR] at hp

theorem Rel.lone {ι : Nat → Emb} {h : H} {w : World} (r : Rel P E ι h w) : Rel P E ι (lone E) w := by
  have hb : ∀ b k, (AM.lone E).blk b = some k → b < E.NG ∧ E.G b = some k := by
    intro b k hk
    simp only [AM.lone] at hk
    split at hk
    · exact ⟨by assumption, hk⟩
    · cases hk
  refine ⟨fun b k hk => (hb b k hk).1, fun b k hk => (r.globO b k (hb b k hk).1 (hb b k hk).2).2, fun b b' k k' hk hk' hne ho => ?_, Nat.le_refl _, r.glob, fun g hg => ?_, r.globO⟩
  · rw [(r.globO b k (hb b k hk).1 (hb b k hk).2).1] at ho
    cases ho
  · simp only [AM.lone]
    rw [if_pos hg]

/-- THE SOUNDNESS OF THE ABSTRACT MACHINE. -/
theorem call_sound (hdraw : ∀ rec, SoundR P E rec → DrawOk P E rec) : ∀ n, SoundR P E (call P E n) := by
  intro n
  induction n with
  | zero => exact ⟨fun f args h v h' hc => (by cases hc), fun f args h v h' hc => (by cases hc), fun f args h v h' hc => (by cases hc)⟩
  | succ n ih =>
    have hd := hdraw _ ih
    have split : ∀ f args h v h', call P E (n + 1) f args h = some (v, h') → body P E (call P E n) (n + 1) f args h = some (v, h') ∨
        (h' = h ∧ plainR v = true ∧ (∀ x ∈ args.toList, plainV x = true) ∧ ∃ h2, body P E (call P E n) (n + 1) f args (AM.lone E) = some (v, h2)) := by
      intro f args h v h' hc
      simp only [call] at hc
      split at hc
      · rename_i hiso
        obtain ⟨⟨u, h2⟩, q1, q2⟩ := bind_some hc
        simp only at q2
        split at q2
        · rename_i hp
          cases q2
          simp only [Bool.and_eq_true, List.all_eq_true] at hiso
          exact .inr ⟨rfl, hp, hiso.2, h2, q1⟩
        · cases q2
      · exact .inl hc
    refine ⟨fun f args h v h' hc => ?_, fun f args h v h' hc => ?_, fun f args h v h' hc ι w args' r ha => ?_⟩
    · rcases split f args h v h' hc with hb | ⟨_, _, _, h2, hb⟩
      · exact (body_sound ih hd hb).1
      · exact (body_sound ih hd hb).1
    · rcases split f args h v h' hc with hb | ⟨rfl, _, _, h2, hb⟩
      · exact (body_sound ih hd hb).2.1
      · exact .refl _
    · rcases split f args h v h' hc with hb | ⟨rfl, hp, hpl, h2, hb⟩
      · exact (body_sound ih hd hb).2.2 ι w args' r ha
      · have ha' : AR ι (AM.lone E).nx args args' := ⟨ha.1, fun i v v' a b => by
          have hpv := hpl v (by simpa using Array.mem_of_getElem? a)
          rw [plainV_eq hpv (ha.2 i v v' a b)]
          exact plainV_rel hpv⟩
        refine ((body_sound ih hd hb).2.2 ι w args' r.lone ha').mono fun e w' he => ?_
        obtain ⟨v', ι', rfl, t1, t2, t3⟩ := he
        have hfr : ∀ g, g < w.heap.size → w'.heap[g]? = w.heap[g]? := fun g hg => t1.fr g hg fun b k hk ho => by
          simp only [AM.lone] at hk
          split at hk
          · rename_i hlt
            rw [(r.globO b k hlt hk).1] at ho
            cases ho
          · cases hk
        refine ⟨v', ι, rfl, ⟨Nat.le_refl _, fun _ _ => rfl, t1.os, t1.tape, t1.output, t1.size, fun g hg _ => hfr g hg, fun b k hb ho => .inl ⟨b, k, hb, ho, rfl⟩⟩, ?_, plainR_rel hp t3⟩
        exact ⟨r.dom, fun b k hb => (r.blk b k hb).congr (hfr _ (r.blk b k hb).lt) t1.size, r.inj, r.ng, r.glob, r.globB, fun g k hg hk => ⟨(r.globO g k hg hk).1, (r.globO g k hg hk).2.congr (hfr _ (r.globO g k hg hk).2.lt) t1.size⟩⟩

end
end Go.AM

namespace Go.AM

/-! ### What comes before what -/

def bv (acc : Array Nat) (o : Oper) : Nat := o.after.foldl (fun s e => if Region.binds .any e then s ||| 2 ^ e.on ||| acc.getD e.on 0 else s) 0

theorem before_fold : ∀ (l : List Oper) (acc : Array Nat), ∃ r : Array Nat, l.foldl (fun acc o => acc.push (bv acc o)) acc = r ∧ r.size = acc.size + l.length ∧
    (∀ i, i < acc.size → r[i]? = acc[i]?) ∧ ∀ j o, l[j]? = some o → ∃ acc' : Array Nat, r[acc.size + j]? = some (bv acc' o) ∧ acc'.size = acc.size + j ∧ ∀ i, i < acc'.size → acc'[i]? = r[i]? := by
  intro l
  induction l with
  | nil => intro acc; exact ⟨acc, rfl, by simp, fun i _ => rfl, fun j o h => by simp at h⟩
  | cons x l ih =>
    intro acc
    obtain ⟨r, h1, h2, h3, h4⟩ := ih (acc.push (bv acc x))
    refine ⟨r, h1, ?_, fun i hi => ?_, fun j o ho => ?_⟩
    · rw [h2]; simp; omega
    · rw [h3 i (by simp; omega), Array.getElem?_push_lt hi, Array.getElem?_eq_getElem hi]
    · cases j with
      | zero =>
        simp only [List.getElem?_cons_zero, Option.some.injEq] at ho
        subst ho
        refine ⟨acc, ?_, by simp, fun i hi => ?_⟩
        · rw [Nat.add_zero, h3 acc.size (by simp)]
          exact Array.getElem?_push_size
        · rw [h3 i (by simp; omega), Array.getElem?_push_lt hi, Array.getElem?_eq_getElem hi]
      | succ j =>
        simp only [List.getElem?_cons_succ] at ho
        obtain ⟨acc', g1, g2, g3⟩ := h4 j o ho
        have e : (acc.push (bv acc x)).size + j = acc.size + (j + 1) := by simp; omega
        rw [e] at g1 g2
        exact ⟨acc', g1, g2, g3⟩

theorem before_eq (all : Array Oper) : Region.before all = all.toList.foldl (fun acc o => acc.push (bv acc o)) #[] := by
  unfold Region.before
  rw [← Array.foldl_toList]
  rfl

theorem fold_or (X : Array Nat) : ∀ (l : List Edge) (s i : Nat), (l.foldl (fun s e => if Region.binds .any e then s ||| 2 ^ e.on ||| X.getD e.on 0 else s) s).testBit i = true →
    s.testBit i = true ∨ ∃ e ∈ l, Region.binds .any e = true ∧ (i = e.on ∨ (X.getD e.on 0).testBit i = true) := by
  intro l
  induction l with
  | nil => intro s i h; exact .inl h
  | cons e l ih =>
    intro s i h
    simp only [List.foldl_cons] at h
    rcases ih _ i h with h1 | ⟨e', he', hb, hi⟩
    · split at h1
      · rename_i hb
        simp only [Nat.testBit_or, Bool.or_eq_true] at h1
        rcases h1 with (h2 | h2) | h2
        · exact .inl h2
        · rw [Nat.testBit_two_pow] at h2
          exact .inr ⟨e, by simp, hb, .inl (of_decide_eq_true h2).symm⟩
        · exact .inr ⟨e, by simp, hb, .inr h2⟩
      · exact .inl h1
    · exact .inr ⟨e', by simp [he'], hb, hi⟩

/-- The edges of an operation, and what they reach. -/
theorem before_spec (all : Array Oper) (hback : ∀ j o, all[j]? = some o → ∀ e ∈ o.after.toList, Region.binds .any e = true → e.on < j) {j : Nat} {o : Oper} (ho : all[j]? = some o) {i : Nat}
    (h : ((Region.before all).getD j 0).testBit i = true) : ∃ e ∈ o.after.toList, Region.binds .any e = true ∧ (i = e.on ∨ ((Region.before all).getD e.on 0).testBit i = true) := by
  obtain ⟨r, h1, h2, h3, h4⟩ := before_fold all.toList #[]
  rw [before_eq, h1] at h ⊢
  obtain ⟨acc', g1, g2, g3⟩ := h4 j o (by simpa using ho)
  simp only [List.size_toArray, List.length_nil, Nat.zero_add] at g1 g2
  have e1 : r.getD j 0 = bv acc' o := by rw [Array.getD_eq_getD_getElem?, g1]; rfl
  rw [e1] at h
  unfold bv at h
  rw [← Array.foldl_toList] at h
  rcases fold_or acc' _ 0 i h with h0 | ⟨e, he, hb, hi⟩
  · simp at h0
  · refine ⟨e, he, hb, hi.imp_right fun hx => ?_⟩
    have hlt := hback j o ho e he hb
    have : acc'.getD e.on 0 = r.getD e.on 0 := by
      rw [Array.getD_eq_getD_getElem?, Array.getD_eq_getD_getElem?, g3 e.on (by omega)]
    rw [← this]
    exact hx

theorem before_lt (all : Array Oper) (hback : ∀ j o, all[j]? = some o → ∀ e ∈ o.after.toList, Region.binds .any e = true → e.on < j) : ∀ (j : Nat), j < all.size → ∀ i, ((Region.before all).getD j 0).testBit i = true → i < j := by
  intro j
  induction j using Nat.strongRecOn with
  | _ j ih =>
    intro hj i h
    have ho : all[j]? = some all[j] := Array.getElem?_eq_getElem hj
    obtain ⟨e, he, hb, hi⟩ := before_spec all hback ho h
    have hlt := hback j _ ho e he hb
    rcases hi with rfl | hi
    · exact hlt
    · exact Nat.lt_trans (ih e.on hlt (by omega) i hi) hlt

section
variable {P : Program} {E : Env}

/-- The closed facts, spelt out. -/
structure OkD (all : Array Oper) : Prop where
  back : ∀ (j : Nat) (o : Oper), all[j]? = some o → ∀ e ∈ o.after.toList, Region.binds .any e = true → e.on < j
  guard : ∀ (j : Nat) (o : Oper), all[j]? = some o → ∀ g b, o.guard = some (g, b) → ((Region.before all).getD j 0).testBit g = true ∧ g < j
  dst : ∀ (j : Nat) (o : Oper) (i : Nat) (p : Oper) (d : Tmp), all[j]? = some o → all[i]? = some p → i ≠ j → p.dst = some d → o.dst ≠ some d
  rd : ∀ (j : Nat) (o : Oper) (i : Nat) (p : Oper) (d : Tmp), all[j]? = some o → all[i]? = some p → i ≠ j → p.dst = some d → d ∈ reads o → ((Region.before all).getD j 0).testBit i = true ∨ ((Region.before all).getD i 0).testBit j = true

theorem okDraw_spec {all : Array Oper} (h : okDraw all = true) : OkD all := by
  unfold okDraw at h
  simp only [List.all_eq_true] at h
  have mem : ∀ j o, all[j]? = some o → (o, j) ∈ all.toList.zipIdx := by
    intro j o ho
    rw [List.mem_zipIdx_iff_getElem?]
    simpa using ho
  refine ⟨fun j o ho e he hb => ?_, fun j o ho g b hg => ?_, fun j o i p d ho hp hne hd => ?_, fun j o i p d ho hp hne hd hr => ?_⟩
  · have h1 := h (o, j) (mem j o ho)
    simp only [Bool.and_eq_true] at h1
    have h2 := Array.all_eq_true_iff_forall_mem.1 h1.1.1 e (by simpa using he)
    simp only [hb, Bool.not_true, Bool.false_or] at h2
    exact of_decide_eq_true h2
  · have h1 := h (o, j) (mem j o ho)
    simp only [Bool.and_eq_true, hg] at h1
    exact ⟨h1.1.2.1, of_decide_eq_true h1.1.2.2⟩
  · have h1 := h (o, j) (mem j o ho)
    simp only [Bool.and_eq_true, List.all_eq_true] at h1
    have h2 := h1.2 (p, i) (mem i p hp)
    simp only [hne, decide_false, Bool.false_or, hd, Bool.and_eq_true, Bool.not_eq_true', beq_eq_false_iff_ne] at h2
    exact h2.1
  · have h1 := h (o, j) (mem j o ho)
    simp only [Bool.and_eq_true, List.all_eq_true] at h1
    have h2 := h1.2 (p, i) (mem i p hp)
    simp only [hne, decide_false, Bool.false_or, hd, Bool.and_eq_true, Bool.or_eq_true, Bool.not_eq_true'] at h2
    rcases h2.2 with (h3 | h3) | h3
    · rw [List.contains_iff_mem.2 hr] at h3; cases h3
    · exact .inl h3
    · exact .inr h3

/-- A record of a run in the text's order. -/
structure Run (P : Program) (E : Env) (rec : Rec) (all : Array Oper) (T : Nat → Array Value) (Hs : Nat → H) (V : Nat → Value) (W : Nat → Bool) (F : Nat → FP) (j0 : Nat) : Prop where
  step : ∀ j o, j0 ≤ j → all[j]? = some o → W j = Region.wanted o (yielded all (T j)) ∧ T (j + 1) = put (T j) o.dst (V j) ∧
    (W j = true → fp P (T j) o = some (F j) ∧ op P E rec (T j) o (Hs j) = some (V j, Hs (j + 1))) ∧ (W j = false → V j = undef ∧ Hs (j + 1) = Hs j)

def did (Hs : Nat → H) (F : Nat → FP) (i : Nat) : Did := ⟨i, F i, (Hs i).nx, decide ((Hs (i + 1)).wr = (Hs i).wr)⟩

theorem drawGo_run {rec : Rec} {all : Array Oper} {B : Array Nat} : ∀ (l : List Oper) (j0 : Nat) (log : List Did) (t t' : Array Value) (h h' : H), l = all.toList.drop j0 → j0 ≤ all.size →
    drawGo P E rec all B l j0 log t h = some (t', h') →
    ∃ T Hs V W F, T j0 = t ∧ Hs j0 = h ∧ T all.size = t' ∧ Hs all.size = h' ∧ Run P E rec all T Hs V W F j0 ∧
      (∀ j, j0 ≤ j → j < all.size → W j = true → (∀ d ∈ log, (B.getD j 0).testBit d.i = true ∨ free d (did Hs F j) = true) ∧
        ∀ i, j0 ≤ i → i < j → W i = true → (B.getD j 0).testBit i = true ∨ free (did Hs F i) (did Hs F j) = true) := by
  intro l
  induction l with
  | nil =>
    intro j0 log t t' h h' hl hj ho
    simp only [drawGo] at ho
    cases ho
    have hsz : all.size ≤ j0 := by
      have := congrArg List.length hl
      simp at this
      omega
    obtain rfl : j0 = all.size := by omega
    refine ⟨fun _ => t, fun _ => h, fun _ => undef, fun _ => false, fun _ => .pure, rfl, rfl, rfl, rfl, ⟨fun j o hj ho => ?_⟩, fun j h1 h2 => by omega⟩
    rw [Array.getElem?_eq_none (by omega)] at ho
    cases ho
  | cons o l ih =>
    intro j0 log t t' h h' hl hj ho
    have hlt : j0 < all.size := by
      have := congrArg List.length hl
      simp at this
      omega
    have hoj : all[j0]? = some o := by
      have := congrArg (fun l => l[0]?) hl
      simp only [List.getElem?_cons_zero, List.getElem?_drop, Nat.add_zero] at this
      simpa using this.symm
    have hl' : l = all.toList.drop (j0 + 1) := by
      have := congrArg List.tail hl
      simpa using this
    -- how to put one step in front
    have front : ∀ (w : Bool) (v : Value) (f : FP) (t1 : Array Value) (h1 : H) (log1 : List Did), w = Region.wanted o (yielded all t) → t1 = put t o.dst v →
        (w = true → fp P t o = some f ∧ op P E rec t o h = some (v, h1)) → (w = false → v = undef ∧ h1 = h) →
        (∀ d ∈ log, d ∈ log1) → (w = true → ⟨j0, f, h.nx, decide (h1.wr = h.wr)⟩ ∈ log1) →
        (w = true → ∀ d ∈ log, (B.getD j0 0).testBit d.i = true ∨ free d ⟨j0, f, h.nx, decide (h1.wr = h.wr)⟩ = true) →
        drawGo P E rec all B l (j0 + 1) log1 t1 h1 = some (t', h') →
        ∃ T Hs V W F, T j0 = t ∧ Hs j0 = h ∧ T all.size = t' ∧ Hs all.size = h' ∧ Run P E rec all T Hs V W F j0 ∧
          (∀ j, j0 ≤ j → j < all.size → W j = true → (∀ d ∈ log, (B.getD j 0).testBit d.i = true ∨ free d (did Hs F j) = true) ∧
            ∀ i, j0 ≤ i → i < j → W i = true → (B.getD j 0).testBit i = true ∨ free (did Hs F i) (did Hs F j) = true) := by
      intro w v f t1 h1 log1 e1 e2 e3 e4 e5 e6 e7 e8
      obtain ⟨T, Hs, V, W, F, q1, q2, q3, q4, q5, q6⟩ := ih (j0 + 1) log1 t1 t' h1 h' hl' (by omega) e8
      have hne : ∀ j, j0 + 1 ≤ j → ¬ j = j0 := fun j h => by omega
      have n1 : ¬ (j0 + 1 = j0) := by omega
      have n2 : ¬ (all.size = j0) := by omega
      refine ⟨fun j => if j = j0 then t else T j, fun j => if j = j0 then h else Hs j, fun j => if j = j0 then v else V j, fun j => if j = j0 then w else W j, fun j => if j = j0 then f else F j,
        if_pos rfl, if_pos rfl, by simp only [if_neg n2]; exact q3, by simp only [if_neg n2]; exact q4, ⟨fun j o' hj' ho' => ?_⟩, fun j hj1 hj2 hW => ?_⟩
      · by_cases hjj : j = j0
        · subst hjj
          rw [hoj] at ho'
          cases ho'
          simp only [if_true, if_neg n1]
          refine ⟨e1, ?_, fun hw => ?_, fun hw => ?_⟩
          · rw [q1, e2]
          · rw [q2]; exact e3 hw
          · rw [q2]; exact e4 hw
        · have h3 : j0 + 1 ≤ j := by omega
          have h4 : ¬ (j + 1 = j0) := by omega
          simp only [if_neg hjj, if_neg h4]
          exact q5.step j o' h3 ho'
      · have didne : ∀ i, j0 + 1 ≤ i → did (fun j => if j = j0 then h else Hs j) (fun j => if j = j0 then f else F j) i = did Hs F i := by
          intro i hi
          unfold did
          simp only [if_neg (hne i hi), if_neg (hne (i + 1) (by omega))]
        have did0 : did (fun j => if j = j0 then h else Hs j) (fun j => if j = j0 then f else F j) j0 = ⟨j0, f, h.nx, decide (h1.wr = h.wr)⟩ := by
          unfold did
          simp only [if_true, if_neg n1, q2]
        by_cases hjj : j = j0
        · subst hjj
          simp only [if_true] at hW
          rw [did0]
          exact ⟨e7 hW, fun i a b => by omega⟩
        · have h3 : j0 + 1 ≤ j := by omega
          simp only [if_neg hjj] at hW
          rw [didne j h3]
          obtain ⟨r1, r2⟩ := q6 j h3 hj2 hW
          refine ⟨fun d hd => r1 d (e5 d hd), fun i hi1 hi2 hWi => ?_⟩
          by_cases hi0 : i = j0
          · subst hi0
            simp only [if_true] at hWi
            rw [did0]
            exact r1 _ (e6 hWi)
          · have h5 : j0 + 1 ≤ i := by omega
            simp only [if_neg hi0] at hWi
            rw [didne i h5]
            exact r2 i h5 hi2 hWi
    simp only [drawGo] at ho
    split at ho
    · rename_i hw
      obtain ⟨f, hf, ho1⟩ := bind_some ho
      obtain ⟨⟨v, h1⟩, hop, ho2⟩ := bind_some ho1
      simp only at ho2
      split at ho2
      · rename_i hchk
        simp only [List.all_eq_true, Bool.or_eq_true] at hchk
        exact front true v f _ h1 _ hw.symm rfl (fun _ => ⟨hf, hop⟩) (fun h => by cases h) (fun d hd => List.mem_cons_of_mem _ hd) (fun _ => List.mem_cons_self) (fun _ => hchk) ho2
      · cases ho2
    · rename_i hw
      exact front false undef .pure _ h _ (by simpa using hw) rfl (fun h => by cases h) (fun _ => ⟨rfl, rfl⟩) (fun d hd => hd) (fun h => by cases h) (fun h => by cases h) ho

end
end Go.AM

namespace Go.AM

section
variable {P : Program} {E : Env} {rec : Rec}

theorem op_congr {t t2 : Array Value} {o : Oper} (h : H) (he : ∀ x ∈ o.op.operands, ev t x = ev t2 x) : op P E rec t o h = op P E rec t2 o h := by
  obtain ⟨dst, opn, type, pos, after, guard⟩ := o
  simp only at he
  have mapc : ∀ xs : Array Operand, (∀ x ∈ xs, ev t x = ev t2 x) → xs.map (ev t) = xs.map (ev t2) := fun xs hx => Array.map_congr_left hx
  have mapl : ∀ xs : List Operand, (∀ x ∈ xs, ev t x = ev t2 x) → xs.map (ev t) = xs.map (ev t2) := fun xs hx => List.map_congr_left hx
  have pairs : ∀ ps : List (Nat × Operand), (∀ p ∈ ps, ev t p.2 = ev t2 p.2) → (ps.map fun (i, x) => (i, ev t x)) = (ps.map fun (i, x) => (i, ev t2 x)) := fun ps hp =>
    List.map_congr_left fun p hm => by obtain ⟨i, x⟩ := p; simp only [hp (i, x) hm]
  have opt : ∀ q : Option Operand, (∀ x, q = some x → ev t x = ev t2 x) → q.map (ev t) = q.map (ev t2) := fun q hq => by
    cases q with
    | none => rfl
    | some x => simp only [Option.map_some, hq x rfl]
  unfold op
  simp only
  split
  · rfl
  · rename_i hneg
    clear hneg
    cases opn <;> simp only
    case move x => rw [he x (by simp [Op.operands])]
    case assign x => rw [he x (by simp [Op.operands])]
    case pick c x y => rw [he c (by simp [Op.operands]), he x (by simp [Op.operands]), he y (by simp [Op.operands])]
    case box e x => rw [he x (by simp [Op.operands])]
    case build T ps => rw [pairs _ (fun p hp => he p.2 (by simp only [Op.operands, List.mem_toArray, List.mem_map]; exact ⟨p, hp, rfl⟩))]
    case buildSlice T n ps => rw [pairs _ (fun p hp => he p.2 (by simp only [Op.operands, List.mem_toArray, List.mem_map]; exact ⟨p, hp, rfl⟩))]
    case load T x => rw [he x (by simp [Op.operands])]
    case store T x y => rw [he x (by simp [Op.operands]), he y (by simp [Op.operands])]
    case nilCheck x => rw [he x (by simp [Op.operands])]
    case binOp b T x y T2 => rw [he x (by simp [Op.operands]), he y (by simp [Op.operands])]
    case unOp b T x => rw [he x (by simp [Op.operands])]
    case convert s d x => rw [he x (by simp [Op.operands])]
    case makeFunc fn xs ys =>
      rw [mapc xs (fun x hx => he x (by simp only [Op.operands, Array.mem_append]; exact .inl hx)), mapc ys (fun x hx => he x (by simp only [Op.operands, Array.mem_append]; exact .inr hx))]
    case makeMap T rr => rw [opt rr (fun x hx => he x (by subst hx; simp [Op.operands]))]
    case makeSlice T l c => rw [he l (by simp [Op.operands]), he c (by simp [Op.operands])]
    case slice T x lo hi mx =>
      rw [he x (by simp [Op.operands]), opt lo (fun x hx => he x (by subst hx; simp [Op.operands])), opt hi (fun x hx => he x (by subst hx; simp [Op.operands])), opt mx (fun x hx => he x (by subst hx; simp [Op.operands]))]
    case fieldAddr s x f => rw [he x (by simp [Op.operands])]
    case field s x f => rw [he x (by simp [Op.operands])]
    case indexAddr s x i => rw [he x (by simp [Op.operands]), he i (by simp [Op.operands])]
    case index s x i => rw [he x (by simp [Op.operands]), he i (by simp [Op.operands])]
    case lookup T m k ok => rw [he m (by simp [Op.operands]), he k (by simp [Op.operands])]
    case mapUpdate T m k x => rw [he m (by simp [Op.operands]), he k (by simp [Op.operands]), he x (by simp [Op.operands])]
    case extract x i => rw [he x (by simp [Op.operands])]
    case call c =>
      obtain ⟨callee, args, argTypes⟩ := c
      cases callee with
      | invoke x m => rfl
      | builtin b =>
        simp only
        rw [mapl _ (fun x hx => he x (by simp only [Op.operands, Call.operands]; simpa using hx))]
      | value f =>
        simp only
        rw [he f (by simp [Op.operands, Call.operands]), mapc args (fun x hx => he x (by simp only [Op.operands, Call.operands]; simp [hx]))]

theorem len_pure {tys : List TypeId} {e : TypeId} (hd : (tys[0]?).bind P.underlying = some (.slice e)) {L : List Value} {h h' : H} {v : Value} (hb : builtin P .len tys L h = some (v, h')) :
    h' = h ∧ ∀ h2, builtin P .len tys L h2 = some (v, h2) := by
  rcases L with _ | ⟨x, _ | ⟨y, l⟩⟩
  · simp [builtin] at hb
  · cases x <;> simp only [builtin, hd, reduceCtorEq] at hb ⊢
    cases hb
    exact ⟨rfl, fun _ => rfl⟩
  · simp [builtin] at hb

theorem min_pure {tys : List TypeId} {L : List Value} {h h' : H} {v : Value} (hb : builtin P .min tys L h = some (v, h')) : h' = h ∧ ∀ h2, builtin P .min tys L h2 = some (v, h2) := by
  simp only [builtin] at hb ⊢
  obtain ⟨u, h1, h2⟩ := map_some hb
  cases h2
  exact ⟨rfl, fun h2 => by rw [h1]; rfl⟩

theorem max_pure {tys : List TypeId} {L : List Value} {h h' : H} {v : Value} (hb : builtin P .max tys L h = some (v, h')) : h' = h ∧ ∀ h2, builtin P .max tys L h2 = some (v, h2) := by
  simp only [builtin] at hb ⊢
  obtain ⟨u, h1, h2⟩ := map_some hb
  cases h2
  exact ⟨rfl, fun h2 => by rw [h1]; rfl⟩

/-- An operation that touches nothing answers the same over any heap. -/
theorem pure_op {t : Array Value} {o : Oper} {h h' : H} {v : Value} (hf : fp P t o = some .pure) (ho : op P E rec t o h = some (v, h')) : h' = h ∧ ∀ h2, op P E rec t o h2 = some (v, h2) := by
  obtain ⟨dst, opn, type, pos, after, guard⟩ := o
  have pm : ∀ {x : Option Value}, x.map (fun v => (v, h)) = some (v, h') → h' = h ∧ ∀ h2 : H, x.map (fun v => (v, h2)) = some (v, h2) := by
    intro x hx
    obtain ⟨_, h1, hb⟩ := map_some hx
    cases hb
    exact ⟨rfl, fun h2 => by rw [h1]; rfl⟩
  have atn : ∀ {st : Bool} {ty : TypeId} {a : Value} {q : FP}, (match a with
      | .pointer (some ⟨b, o, none⟩) => (size? P ty).bind fun n => if n = 0 then none else some (if st then FP.st b o n else .ld b o n)
      | _ => none) = some q → q ≠ .pure := by
    intro st ty a q hq
    split at hq
    · obtain ⟨n, _, hq⟩ := bind_some hq
      split at hq
      · cases hq
      · cases st <;> cases hq <;> simp
    · cases hq
  unfold op at ho ⊢
  simp only at ho ⊢
  split at ho
  · cases ho
  · rename_i hok
    simp only [hok, Bool.false_eq_true, if_false]
    cases opn <;> simp only [fp, reduceCtorEq, Option.some.injEq] at hf <;> simp only at ho ⊢ <;> try (exact pm ho; done)
    case move x => cases ho; exact ⟨rfl, fun _ => rfl⟩
    case assign x => cases ho; exact ⟨rfl, fun _ => rfl⟩
    case pick c x y =>
      split at ho
      · cases ho; exact ⟨rfl, fun _ => rfl⟩
      · cases ho; exact ⟨rfl, fun _ => rfl⟩
      · cases ho
    case load T x => exact absurd rfl (atn (st := false) hf)
    case lookup T m k ok => split at hf <;> cases hf
    case slice T x lo hi mx =>
      generalize ev t x = u at hf ho ⊢
      split at hf
      · cases hf
      · rename_i n c
        have hs : ∀ h2, slice P T (.slice none n c) (lo.map (ev t)) (hi.map (ev t)) (mx.map (ev t)) h2 = slice P T (.slice none n c) (lo.map (ev t)) (hi.map (ev t)) (mx.map (ev t)) h := by
          intro h2
          cases hu : P.underlying T with
          | none => simp only [slice, hu]
          | some d => cases d <;> first | (simp only [slice, hu]; done) | (cases n <;> cases c <;> simp only [slice, hu])
        obtain ⟨u, h1, h2⟩ := map_some ho
        cases h2
        exact ⟨rfl, fun h2 => by rw [hs h2, h1]; rfl⟩
      · cases hf
    case store T x y => exact absurd rfl (atn (st := true) hf)
    case nilCheck x =>
      split at ho
      · cases ho; exact ⟨rfl, fun _ => rfl⟩
      · cases ho; exact ⟨rfl, fun _ => rfl⟩
      · cases ho
    case makeFunc fn xs ys =>
      split at ho
      · cases ho; exact ⟨rfl, fun _ => rfl⟩
      · cases ho
    case extract x i =>
      split at ho
      · exact pm ho
      · cases ho
    case call c =>
      obtain ⟨callee, args, argTypes⟩ := c
      cases callee with
      | invoke x m => cases ho
      | value f => simp at hf
      | builtin b =>
        simp only at ho hf ⊢
        cases b <;> simp only [reduceCtorEq, Option.some.injEq] at hf
        case len =>
          split at hf
          · rename_i e hd
            exact len_pure (by rw [Array.getElem?_toList]; exact hd) ho
          · cases hf
        case min => exact min_pure ho
        case max => exact max_pure ho

/-- A load: where it looks. -/
theorem ld_op {t : Array Value} {o : Oper} {h h' : H} {v : Value} {b q n : Nat} (hf : fp P t o = some (.ld b q n)) (ho : op P E rec t o h = some (v, h')) :
    h' = h ∧ 0 < n ∧ (∃ i, i < n ∧ (h.cell b (q + i)).isSome = true) ∧ ∀ h2 : H, (∀ i, i < n → (h.cell b (q + i)).isSome = true → h2.cell b (q + i) = h.cell b (q + i)) → op P E rec t o h2 = some (v, h2) := by
  obtain ⟨dst, opn, type, pos, after, guard⟩ := o
  unfold op at ho ⊢
  simp only at ho ⊢
  split at ho
  · cases ho
  · rename_i hok
    simp only [hok, Bool.false_eq_true, if_false]
    cases opn <;> simp only [fp, reduceCtorEq, Option.some.injEq] at hf <;> simp only at ho ⊢
    case load T x =>
      generalize hx : ev t x = u at hf ho ⊢
      split at hf
      · rename_i bb qq
        obtain ⟨m, hm, hf1⟩ := bind_some hf
        clear hf
        split at hf1
        · cases hf1
        · rename_i hm0
          simp only [Option.some.injEq] at hf1
          have hf2 : FP.ld bb qq m = FP.ld b q n := hf1
          simp only [FP.ld.injEq] at hf2
          obtain ⟨rfl, rfl, rfl⟩ := hf2
          obtain ⟨u, h1, h2⟩ := map_some ho
          cases h2
          refine ⟨rfl, by omega, ?_⟩
          simp only [load] at h1 ⊢
          cases ha : aggT P T with
          | none => rw [ha] at h1; cases h1
          | some g =>
            rw [ha] at h1
            cases g with
            | true =>
              simp only [hm, Option.bind_some] at h1 ⊢
              obtain ⟨l, h3, h4⟩ := map_some h1
              unfold H.rd at h3
              split at h3
              · rename_i c e own hblk
                split at h3
                · rename_i hle
                  have hc : ∀ i, i < m → h.cell bb (qq + i) = some c[qq + i]! := fun i hi => by
                    simp only [H.cell, hblk]
                    rw [List.getElem?_eq_getElem (by omega), getElem!_pos c _ (by omega)]
                  refine ⟨⟨0, by omega, by rw [hc 0 (by omega)]; rfl⟩, fun h2 hs => ?_⟩
                  have hs' := fun i hi => hs i hi (by rw [hc i hi]; rfl)
                  have h0 := hs' (m - 1) (by omega)
                  rw [hc (m - 1) (by omega)] at h0
                  unfold H.cell at h0
                  split at h0
                  · rename_i c2 e2 own2 hblk2
                    have hlt := (List.getElem?_eq_some_iff.1 h0).1
                    have : h2.rd bb qq m = some l := by
                      simp only [H.rd, hblk2]
                      rw [if_pos (by omega), ← h3]
                      congr 1
                      apply List.ext_getElem?
                      intro i
                      by_cases hi : i < m
                      · rw [List.getElem?_take_of_lt hi, List.getElem?_take_of_lt hi, List.getElem?_drop, List.getElem?_drop]
                        have := hs' i hi
                        simp only [H.cell, hblk, hblk2] at this
                        exact this
                      · rw [List.getElem?_eq_none (by simp; omega), List.getElem?_eq_none (by simp; omega)]
                    rw [this]
                    simp only [Option.map_some, h4]
                  · cases h0
                · cases h3
              · cases h3
            | false =>
              simp only at h1 ⊢
              refine ⟨⟨0, by omega, by rw [Nat.add_zero, h1]; rfl⟩, fun h2 hs => ?_⟩
              have := hs 0 (by omega) (by rw [Nat.add_zero, h1]; rfl)
              rw [Nat.add_zero, h1] at this
              rw [this]
              rfl
      · cases hf
    case lookup T m k ok => split at hf <;> cases hf
    case slice T x lo hi mx => split at hf <;> cases hf
    case store T x y =>
      split at hf
      · obtain ⟨m, hm, hf⟩ := bind_some hf
        split at hf <;> simp at hf
      · cases hf
    case call c =>
      obtain ⟨callee, args, argTypes⟩ := c
      cases callee with
      | invoke x m => simp at hf
      | value f => simp at hf
      | builtin b =>
        simp only at hf
        cases b <;> simp only [reduceCtorEq, Option.some.injEq] at hf
        split at hf <;> cases hf

/-- An operation that looks at one block. -/
theorem rb_op {t : Array Value} {o : Oper} {h h' : H} {v : Value} {b : Nat} (hf : fp P t o = some (.rb b)) (ho : op P E rec t o h = some (v, h')) :
    h' = h ∧ ∀ h2 : H, h2.blk b = h.blk b → op P E rec t o h2 = some (v, h2) := by
  obtain ⟨dst, opn, type, pos, after, guard⟩ := o
  unfold op at ho ⊢
  simp only at ho ⊢
  split at ho
  · cases ho
  · rename_i hok
    simp only [hok, Bool.false_eq_true, if_false]
    cases opn <;> simp only [fp, reduceCtorEq, Option.some.injEq] at hf <;> simp only at ho ⊢
    case load T x =>
      split at hf
      · obtain ⟨m, hm, hf⟩ := bind_some hf
        split at hf <;> simp at hf
      · cases hf
    case lookup T m k ok =>
      generalize ev t m = u at hf ho ⊢
      split at hf
      · rename_i bb
        cases hf
        obtain ⟨u, h1, h2⟩ := map_some ho
        cases h2
        refine ⟨rfl, fun h2 he => ?_⟩
        have : lookup P T (.map (some b)) (ev t k) ok h2 = lookup P T (.map (some b)) (ev t k) ok h := by simp only [lookup, mapOf, he]
        rw [this, h1]; rfl
      · cases hf
    case slice T x lo hi mx =>
      generalize ev t x = u at hf ho ⊢
      split at hf
      · rename_i bb q n c
        cases hf
        obtain ⟨u, h1, h2⟩ := map_some ho
        cases h2
        refine ⟨rfl, fun h2 he => ?_⟩
        have : slice P T (.slice (some ⟨b, q, none⟩) n c) (lo.map (ev t)) (hi.map (ev t)) (mx.map (ev t)) h2 = slice P T (.slice (some ⟨b, q, none⟩) n c) (lo.map (ev t)) (hi.map (ev t)) (mx.map (ev t)) h := by
          cases hu : P.underlying T with
          | none => simp only [slice, hu]
          | some d => cases d <;> simp only [slice, hu, he]
        rw [this, h1]; rfl
      · cases hf
      · cases hf
    case store T x y =>
      split at hf
      · obtain ⟨m, hm, hf⟩ := bind_some hf
        split at hf <;> simp at hf
      · cases hf
    case call c =>
      obtain ⟨callee, args, argTypes⟩ := c
      cases callee with
      | invoke x m => simp at hf
      | value f => simp at hf
      | builtin b =>
        simp only at hf
        cases b <;> simp only [reduceCtorEq, Option.some.injEq] at hf
        split at hf <;> cases hf

theorem rd_op {t : Array Value} {o : Oper} {h h' : H} {v : Value} (hf : fp P t o = some .rd) (ho : op P E rec t o h = some (v, h')) : h' = h := by
  obtain ⟨dst, opn, type, pos, after, guard⟩ := o
  have pm : ∀ {x : Option Value}, x.map (fun v => (v, h)) = some (v, h') → h' = h := by
    intro x hx
    obtain ⟨_, h1, hb⟩ := map_some hx
    cases hb
    rfl
  unfold op at ho
  simp only at ho
  split at ho
  · cases ho
  · rename_i hneg
    clear hneg
    cases opn <;> simp only [fp, reduceCtorEq, Option.some.injEq] at hf <;> simp only at ho <;> try (exact pm ho; done)
    case store T x y =>
      split at hf
      · obtain ⟨m, hm, hf⟩ := bind_some hf
        split at hf <;> simp at hf
      · cases hf
    case call c =>
      obtain ⟨callee, args, argTypes⟩ := c
      cases callee with
      | invoke x m => cases ho
      | value f => simp at hf
      | builtin b =>
        simp only at ho hf
        cases b <;> simp only [reduceCtorEq, Option.some.injEq] at hf
        generalize List.map (ev t) args.toList = L at ho
        rcases L with _ | ⟨x, _ | ⟨y, l⟩⟩
        · simp [builtin] at ho
        · simp only [builtin] at ho
          split at ho
          · cases ho; rfl
          · cases ho; rfl
          · split at ho
            · cases ho; rfl
            · cases ho
          · cases ho
        · simp [builtin] at ho

theorem setAt_other (vs : List Value) : ∀ (c : List Value) (o i : Nat), (i < o ∨ o + vs.length ≤ i) → (setAt c o vs)[i]? = c[i]? := by
  induction vs with
  | nil => intro c o i _; rfl
  | cons v vs ih =>
    intro c o i hi
    simp only [setAt]
    simp only [List.length_cons] at hi
    rw [ih (c.set o v) (o + 1) i (by omega), List.getElem?_set_ne (by omega)]

/-- A store: the cells that it leaves. -/
theorem st_op {t : Array Value} {o : Oper} {h h' : H} {v : Value} {b q n : Nat} (hf : fp P t o = some (.st b q n)) (ho : op P E rec t o h = some (v, h')) :
    ∀ b2 q2, (b2 ≠ b ∨ q2 < q ∨ q + n ≤ q2) → h'.cell b2 q2 = h.cell b2 q2 := by
  obtain ⟨dst, opn, type, pos, after, guard⟩ := o
  unfold op at ho
  simp only at ho
  split at ho
  · cases ho
  · rename_i hneg
    clear hneg
    cases opn <;> simp only [fp, reduceCtorEq, Option.some.injEq] at hf <;> simp only at ho
    case lookup T m k ok => split at hf <;> cases hf
    case slice T x lo hi mx => split at hf <;> cases hf
    case load T x =>
      split at hf
      · obtain ⟨m, hm, hf⟩ := bind_some hf
        split at hf <;> simp at hf
      · cases hf
    case store T x y =>
      obtain ⟨h1, hs, he⟩ := map_some ho
      cases he
      generalize ev t x = u at hf hs
      split at hf
      · rename_i bb qq
        obtain ⟨m, hm, hf1⟩ := bind_some hf
        clear hf
        split at hf1
        · cases hf1
        · simp only [Option.some.injEq] at hf1
          have hf2 : FP.st bb qq m = FP.st b q n := hf1
          simp only [FP.st.injEq] at hf2
          obtain ⟨rfl, rfl, rfl⟩ := hf2
          simp only [store] at hs
          split at hs
          · rename_i c e hblk
            split at hs
            · rename_i hc
              simp only [Option.some.injEq] at hs
              subst hs
              intro b2 q2 hd
              simp only [H.cell, H.set]
              by_cases hb : b2 = bb
              · subst hb
                simp only [if_true, hblk]
                refine setAt_other _ _ _ _ ?_
                rw [hm] at hc
                have : m = (ev t y).cells.size := Option.some.inj hc.1
                simp only [Array.length_toList]
                omega
              · rw [if_neg hb]
            · cases hs
          · cases hs
      · cases hf
    case call c =>
      obtain ⟨callee, args, argTypes⟩ := c
      cases callee with
      | invoke x m => simp at hf
      | value f => simp at hf
      | builtin b =>
        simp only at hf
        cases b <;> simp only [reduceCtorEq, Option.some.injEq] at hf
        split at hf <;> cases hf

end
end Go.AM

namespace Go.AM

def isMod : FP → Bool
  | .st _ _ _ => true
  | .md => true
  | _ => false

section
variable {P : Program} {E : Env} {rec : Rec} {all : Array Oper} {T : Nat → Array Value} {Hs : Nat → H} {V : Nat → Value} {W : Nat → Bool} {F : Nat → FP}

def Mod (W : Nat → Bool) (F : Nat → FP) (j : Nat) : Prop := W j = true ∧ isMod (F j) = true

/-- A run in the text's order, with all that was looked at. -/
structure Good (P : Program) (E : Env) (rec : Rec) (all : Array Oper) (T : Nat → Array Value) (Hs : Nat → H) (V : Nat → Value) (W : Nat → Bool) (F : Nat → FP) : Prop where
  ok : OkD all
  run : Run P E rec all T Hs V W F 0
  chk : ∀ j, j < all.size → W j = true → ∀ i, i < j → W i = true → ((Region.before all).getD j 0).testBit i = true ∨ free (did Hs F i) (did Hs F j) = true
  rec_ : SoundR P E rec

theorem Good.const (g : Good P E rec all T Hs V W F) {j : Nat} (hj : j < all.size) (hm : ¬ Mod W F j) : Hs (j + 1) = Hs j := by
  obtain ⟨h1, h2, h3, h4⟩ := g.run.step j _ (Nat.zero_le _) (Array.getElem?_eq_getElem hj)
  cases hW : W j with
  | false => exact (h4 hW).2
  | true =>
    obtain ⟨hf, ho⟩ := h3 hW
    cases hF : F j with
    | pure => rw [hF] at hf; exact (pure_op hf ho).1
    | ld b q n => rw [hF] at hf; exact (ld_op hf ho).1
    | rd => rw [hF] at hf; exact rd_op hf ho
    | rb b => rw [hF] at hf; exact (rb_op hf ho).1
    | st b q n => exact absurd ⟨hW, by rw [hF]; rfl⟩ hm
    | md => exact absurd ⟨hW, by rw [hF]; rfl⟩ hm

theorem Good.grow (g : Good P E rec all T Hs V W F) {j : Nat} (hj : j < all.size) : Grow (Hs j) (Hs (j + 1)) := by
  obtain ⟨h1, h2, h3, h4⟩ := g.run.step j _ (Nat.zero_le _) (Array.getElem?_eq_getElem hj)
  cases hW : W j with
  | false => rw [(h4 hW).2]; exact .refl _
  | true => exact op_grows g.rec_ (h3 hW).2

theorem Good.hs_eq (g : Good P E rec all T Hs V W F) : ∀ (d a : Nat), a + d ≤ all.size → (∀ i, a ≤ i → i < a + d → ¬ Mod W F i) → Hs (a + d) = Hs a := by
  intro d
  induction d with
  | zero => intro a _ _; rfl
  | succ d ih =>
    intro a hle hno
    rw [← Nat.add_assoc, g.const (j := a + d) (by omega) (hno _ (by omega) (by omega))]
    exact ih a (by omega) (fun i h1 h2 => hno i h1 (by omega))

/-- What the slots hold when some operations have been done. -/
def Sl (all : Array Oper) (V : Nat → Value) (t : Array Value) (S : Nat → Prop) (tS : Array Value) : Prop :=
  tS.size = t.size ∧ ∀ u, (∀ i o, all[i]? = some o → S i → o.dst = some u → u < t.size → tS[u]? = some (V i)) ∧
    ((∀ i o, all[i]? = some o → S i → o.dst ≠ some u) → tS[u]? = t[u]?)

theorem Sl.put {t : Array Value} {S : Nat → Prop} {tS : Array Value} (ok : OkD all) (h : Sl all V t S tS) {j : Nat} {o : Oper} (ho : all[j]? = some o) :
    Sl all V t (fun i => S i ∨ i = j) (AM.put tS o.dst (V j)) := by
  refine ⟨?_, fun u => ⟨fun i p hp hS hd hu => ?_, fun hno => ?_⟩⟩
  · cases o.dst <;> simp [AM.put, h.1]
  · by_cases hij : i = j
    · subst hij
      rw [ho] at hp
      cases hp
      rw [hd]
      simp only [AM.put]
      rw [Array.getElem?_setIfInBounds, if_pos rfl, if_pos (by rw [h.1]; exact hu)]
    · have hSi : S i := by rcases hS with hS | hS; exact hS; exact absurd hS hij
      have h1 := (h.2 u).1 i p hp hSi hd hu
      cases hod : o.dst with
      | none => exact h1
      | some d =>
        simp only [AM.put]
        rw [Array.getElem?_setIfInBounds, if_neg, h1]
        intro hdu
        subst hdu
        exact ok.dst j o i p d ho hp hij hd hod
  · have h1 := (h.2 u).2 (fun i p hp hS => hno i p hp (.inl hS))
    have h2 := hno j o ho (.inr rfl)
    cases hod : o.dst with
    | none => exact h1
    | some d =>
      rw [hod] at h2
      simp only [AM.put]
      rw [Array.getElem?_setIfInBounds, if_neg (fun e => h2 (by rw [e])), h1]

theorem Good.slots (g : Good P E rec all T Hs V W F) : ∀ j, j ≤ all.size → Sl all V (T 0) (· < j) (T j) := by
  intro j
  induction j with
  | zero => intro _; exact ⟨rfl, fun u => ⟨fun i o _ h => by omega, fun _ => rfl⟩⟩
  | succ j ih =>
    intro hj
    have ho := Array.getElem?_eq_getElem (show j < all.size by omega)
    have h1 := (ih (by omega)).put (V := V) g.ok ho
    rw [(g.run.step j _ (Nat.zero_le _) ho).2.1]
    have : (fun i => i < j ∨ i = j) = (fun i => i < j + 1) := by
      funext i
      apply propext
      omega
    rw [this] at h1
    exact h1

/-- What has been done, and what the world is then. -/
structure Inv (P : Program) (E : Env) (all : Array Oper) (T : Nat → Array Value) (Hs : Nat → H) (V : Nat → Value) (W : Nat → Bool) (F : Nat → FP) (ι0 : Nat → Emb) (w0 : World) (d : List Deferred)
    (S : Nat → Prop) (a : Act) (w : World) (k : Nat) (ι : Nat → Emb) (tS : Array Value) : Prop where
  hk : k ≤ all.size
  mods : ∀ j, j < all.size → Mod W F j → (S j ↔ j < k)
  rel : Rel P E ι (Hs k) w
  tr : Tr ι0 (Hs 0) w0 ι (Hs k) w
  sl : Sl all V (T 0) S tS
  ar : AR ι (Hs k).nx tS a.tmps
  defers : a.defers = d
  closed : ∀ j, j < all.size → S j → ∀ i, ((Region.before all).getD j 0).testBit i = true → S i

/-- A slot that an operation reads holds what it held in the text's order. -/
theorem Good.same_slot (g : Good P E rec all T Hs V W F) {S : Nat → Prop} {tS : Array Value} (hsl : Sl all V (T 0) S tS) (hcl : ∀ j, j < all.size → S j → ∀ i, ((Region.before all).getD j 0).testBit i = true → S i)
    {j : Nat} {o : Oper} (ho : all[j]? = some o) (hj : j < all.size) (hS : ¬ S j) (hpre : ∀ i, ((Region.before all).getD j 0).testBit i = true → S i) {u : Tmp} (hu : u ∈ reads o) : tS[u]? = (T j)[u]? := by
  have hT := g.slots j (Nat.le_of_lt hj)
  have key : ∀ i p, all[i]? = some p → p.dst = some u → i ≠ j → (S i ↔ i < j) := by
    intro i p hp hd hne
    rcases g.ok.rd j o i p u ho hp hne hd hu with h | h
    · exact ⟨fun _ => before_lt all g.ok.back j hj i h, fun _ => hpre i h⟩
    · have hi : i < all.size := (Array.getElem?_eq_some_iff.1 hp).1
      have hlt := before_lt all g.ok.back i hi j h
      exact ⟨fun hSi => absurd (hcl i hi hSi j h) hS, fun h2 => by omega⟩
  by_cases hex : ∃ i p, all[i]? = some p ∧ p.dst = some u ∧ i ≠ j ∧ i < j
  · obtain ⟨i, p, hp, hd, hne, hlt⟩ := hex
    by_cases hus : u < (T 0).size
    · rw [(hsl.2 u).1 i p hp ((key i p hp hd hne).2 hlt) hd hus, (hT.2 u).1 i p hp hlt hd hus]
    · rw [Array.getElem?_eq_none (show tS.size ≤ u by have h9 : tS.size = (T 0).size := hsl.1; rw [h9]; exact Nat.not_lt.1 hus), Array.getElem?_eq_none (show (T j).size ≤ u by have h9 : (T j).size = (T 0).size := hT.1; rw [h9]; exact Nat.not_lt.1 hus)]
  · rw [(hsl.2 u).2, (hT.2 u).2]
    · intro i p hp hlt hd
      exact hex ⟨i, p, hp, hd, by omega, hlt⟩
    · intro i p hp hSi hd
      by_cases hne : i = j
      · subst hne; exact hS hSi
      · exact hex ⟨i, p, hp, hd, hne, (key i p hp hd hne).1 hSi⟩

theorem reads_mem {o : Oper} {u : Tmp} (h : Operand.tmp u ∈ o.op.operands) : u ∈ reads o := by
  unfold reads
  rw [List.mem_filterMap]
  exact ⟨.tmp u, by simpa using h, rfl⟩

theorem Good.same_ev (g : Good P E rec all T Hs V W F) {S : Nat → Prop} {tS : Array Value} (hsl : Sl all V (T 0) S tS) (hcl : ∀ j, j < all.size → S j → ∀ i, ((Region.before all).getD j 0).testBit i = true → S i)
    {j : Nat} {o : Oper} (ho : all[j]? = some o) (hj : j < all.size) (hS : ¬ S j) (hpre : ∀ i, ((Region.before all).getD j 0).testBit i = true → S i) :
    ∀ x ∈ o.op.operands, ev (T j) x = ev tS x := by
  intro x hx
  cases x with
  | tmp u =>
    have := g.same_slot hsl hcl ho hj hS hpre (reads_mem hx)
    simp only [ev, Array.getD_eq_getD_getElem?, this]
  | const v => rfl
  | global v => rfl
  | func v => rfl

theorem Good.same_wanted (g : Good P E rec all T Hs V W F) {S : Nat → Prop} {tS : Array Value} (hsl : Sl all V (T 0) S tS) {j : Nat} {o : Oper} (ho : all[j]? = some o) (hj : j < all.size)
    (hpre : ∀ i, ((Region.before all).getD j 0).testBit i = true → S i) : Region.wanted o (yielded all tS) = W j := by
  rw [(g.run.step j o (Nat.zero_le _) ho).1]
  unfold Region.wanted
  cases hg : o.guard with
  | none => rfl
  | some q =>
    obtain ⟨gi, b⟩ := q
    simp only
    obtain ⟨hb, hlt⟩ := g.ok.guard j o ho gi b hg
    have hSg := hpre gi hb
    have hT := g.slots j (Nat.le_of_lt hj)
    have : yielded all tS gi = yielded all (T j) gi := by
      unfold yielded
      have hog := Array.getElem?_eq_getElem (show gi < all.size by omega)
      rw [hog]
      simp only [Option.bind_some]
      cases hd : all[gi].dst with
      | none => rfl
      | some d =>
        simp only [Option.bind_some]
        have : tS[d]? = (T j)[d]? := by
          by_cases hus : d < (T 0).size
          · rw [(hsl.2 d).1 gi _ hog hSg hd hus, (hT.2 d).1 gi _ hog hlt hd hus]
          · rw [Array.getElem?_eq_none (show tS.size ≤ d by have h9 : tS.size = (T 0).size := hsl.1; rw [h9]; exact Nat.not_lt.1 hus), Array.getElem?_eq_none (show (T j).size ≤ d by have h9 : (T j).size = (T 0).size := hT.1; rw [h9]; exact Nat.not_lt.1 hus)]
        rw [this]
    rw [this]

/-- An operation that is ordered with all that changes something sees the very heap. -/
theorem Good.same_heap (g : Good P E rec all T Hs V W F) {S : Nat → Prop} {k : Nat} (hk : k ≤ all.size) (hmods : ∀ j, j < all.size → Mod W F j → (S j ↔ j < k))
    (hcl : ∀ j, j < all.size → S j → ∀ i, ((Region.before all).getD j 0).testBit i = true → S i) {j : Nat} (hj : j < all.size) (hW : W j = true) (hS : ¬ S j)
    (hpre : ∀ i, ((Region.before all).getD j 0).testBit i = true → S i) (hF : F j = .rd ∨ isMod (F j) = true) : Hs k = Hs j ∧ ∀ i, i < all.size → Mod W F i → (S i ↔ i < j) := by
  have key : ∀ i, i < all.size → Mod W F i → (S i ↔ i < j) := by
    intro i hi hm
    have nofree1 : free (did Hs F i) (did Hs F j) = false := by
      have h1 := hm.2
      unfold free did
      simp only
      rcases hF with h2 | h2
      · rw [h2]; cases hFi : F i <;> rw [hFi] at h1 <;> first | rfl | cases h1
      · cases hFi : F i <;> rw [hFi] at h1 <;> first | (cases h1; done) | (cases hFj : F j <;> rw [hFj] at h2 <;> first | rfl | cases h2)
    have nofree2 : free (did Hs F j) (did Hs F i) = false := by
      have h1 := hm.2
      unfold free did
      simp only
      rcases hF with h2 | h2
      · rw [h2]; cases hFi : F i <;> rw [hFi] at h1 <;> first | rfl | cases h1
      · cases hFi : F i <;> rw [hFi] at h1 <;> first | (cases h1; done) | (cases hFj : F j <;> rw [hFj] at h2 <;> first | rfl | cases h2)
    rcases Nat.lt_trichotomy i j with h | h | h
    · refine ⟨fun _ => h, fun _ => ?_⟩
      rcases g.chk j hj hW i h hm.1 with h1 | h1
      · exact hpre i h1
      · rw [nofree1] at h1; cases h1
    · subst h
      exact ⟨fun h => absurd h hS, fun h => by omega⟩
    · refine ⟨fun hSi => ?_, fun h2 => by omega⟩
      rcases g.chk i hi hm.1 j h hW with h1 | h1
      · exact absurd (hcl i hi hSi j h1) hS
      · rw [nofree2] at h1; cases h1
  refine ⟨?_, key⟩
  rcases Nat.le_total k j with h | h
  · obtain ⟨d, rfl⟩ := Nat.exists_eq_add_of_le h
    refine (g.hs_eq d k (by omega) fun i h1 h2 hm => ?_).symm
    have hi : i < all.size := by omega
    have a := hmods i hi hm
    have b := key i hi hm
    have : i < k := a.1 (b.2 (by omega))
    omega
  · obtain ⟨d, rfl⟩ := Nat.exists_eq_add_of_le h
    refine g.hs_eq d j (by omega) fun i h1 h2 hm => ?_
    have hi : i < all.size := by omega
    have a := hmods i hi hm
    have b := key i hi hm
    have : i < j := b.1 (a.2 (by omega))
    omega

/-- A load sees the same cells in whatever heap it may come upon. -/
theorem Good.same_cells (g : Good P E rec all T Hs V W F) {S : Nat → Prop} {k : Nat} (hk : k ≤ all.size) (hmods : ∀ j, j < all.size → Mod W F j → (S j ↔ j < k))
    (hcl : ∀ j, j < all.size → S j → ∀ i, ((Region.before all).getD j 0).testBit i = true → S i) {j : Nat} (hj : j < all.size) (hW : W j = true) (hS : ¬ S j)
    (hpre : ∀ i, ((Region.before all).getD j 0).testBit i = true → S i) {b q n : Nat} (hF : F j = .ld b q n) : ∀ i, i < n → (Hs k).cell b (q + i) = (Hs j).cell b (q + i) := by
  intro c hc
  have step : ∀ i, i < all.size → (Mod W F i → (free (did Hs F i) (did Hs F j) = true ∨ free (did Hs F j) (did Hs F i) = true)) → (Hs (i + 1)).cell b (q + c) = (Hs i).cell b (q + c) := by
    intro i hi hfree
    by_cases hm : Mod W F i
    · obtain ⟨h1, h2, h3, h4⟩ := g.run.step i _ (Nat.zero_le _) (Array.getElem?_eq_getElem hi)
      obtain ⟨hf, ho⟩ := h3 hm.1
      cases hFi : F i with
      | st b' q' n' =>
        rw [hFi] at hf
        have hdis : b ≠ b' ∨ q + n ≤ q' ∨ q' + n' ≤ q := by
          rcases hfree hm with h | h <;>
          · unfold free did at h
            simp only [hFi, hF, Bool.and_eq_true, decide_eq_true_eq] at h
            exact h.2
        refine st_op hf ho b (q + c) ?_
        rcases hdis with h | h | h
        · exact .inl h
        · exact .inr (.inl (by omega))
        · exact .inr (.inr (by omega))
      | md =>
        have hq : b < (Hs i).nx ∧ (Hs (i + 1)).wr = (Hs i).wr := by
          rcases hfree hm with h | h <;>
          · unfold free did at h
            simp only [hFi, hF, Bool.and_eq_true, decide_eq_true_eq] at h
            exact h
        simp only [H.cell, (g.grow hi).2.2 hq.2 b hq.1]
      | pure => have := hm.2; rw [hFi] at this; cases this
      | ld _ _ _ => have := hm.2; rw [hFi] at this; cases this
      | rb _ => have := hm.2; rw [hFi] at this; cases this
      | rd => have := hm.2; rw [hFi] at this; cases this
    · rw [g.const hi hm]
  have up : ∀ d a, a + d ≤ all.size → (∀ i, a ≤ i → i < a + d → Mod W F i → (free (did Hs F i) (did Hs F j) = true ∨ free (did Hs F j) (did Hs F i) = true)) →
      (Hs (a + d)).cell b (q + c) = (Hs a).cell b (q + c) := by
    intro d
    induction d with
    | zero => intro a _ _; rfl
    | succ d ih =>
      intro a hle hfr
      rw [← Nat.add_assoc, step (a + d) (by omega) (hfr _ (by omega) (by omega))]
      exact ih a (by omega) (fun i h1 h2 => hfr i h1 (by omega))
  rcases Nat.le_total k j with h | h
  · obtain ⟨d, rfl⟩ := Nat.exists_eq_add_of_le h
    refine (up d k (by omega) fun i h1 h2 hm => ?_).symm
    have hi : i < all.size := by omega
    have hnS : ¬ S i := fun hSi => by have := (hmods i hi hm).1 hSi; omega
    rcases g.chk _ hj hW i h2 hm.1 with h3 | h3
    · exact absurd (hpre i h3) hnS
    · exact .inl h3
  · obtain ⟨d, rfl⟩ := Nat.exists_eq_add_of_le h
    refine up d j (by omega) fun i h1 h2 hm => ?_
    have hi : i < all.size := by omega
    have hSi : S i := (hmods i hi hm).2 h2
    rcases Nat.lt_or_ge j i with h4 | h4
    · rcases g.chk i hi hm.1 j h4 hW with h3 | h3
      · exact absurd (hcl i hi hSi j h3) hS
      · exact .inr h3
    · obtain rfl : i = j := by omega
      have := hm.2
      rw [hF] at this
      cases this

/-- An operation that looks at a block sees the same block in whatever heap it may come upon. -/
theorem Good.same_blk (g : Good P E rec all T Hs V W F) {S : Nat → Prop} {k : Nat} (hk : k ≤ all.size) (hmods : ∀ j, j < all.size → Mod W F j → (S j ↔ j < k))
    (hcl : ∀ j, j < all.size → S j → ∀ i, ((Region.before all).getD j 0).testBit i = true → S i) {j : Nat} (hj : j < all.size) (hW : W j = true) (hS : ¬ S j)
    (hpre : ∀ i, ((Region.before all).getD j 0).testBit i = true → S i) {b : Nat} (hF : F j = .rb b) : (Hs k).blk b = (Hs j).blk b := by
  have step : ∀ i, i < all.size → (Mod W F i → (free (did Hs F i) (did Hs F j) = true ∨ free (did Hs F j) (did Hs F i) = true)) → (Hs (i + 1)).blk b = (Hs i).blk b := by
    intro i hi hfree
    by_cases hm : Mod W F i
    · cases hFi : F i with
      | st b' q' n' =>
        rcases hfree hm with h | h <;>
        · unfold free did at h
          simp [hFi, hF] at h
      | md =>
        have hq : b < (Hs i).nx ∧ (Hs (i + 1)).wr = (Hs i).wr := by
          rcases hfree hm with h | h <;>
          · unfold free did at h
            simp only [hFi, hF, Bool.and_eq_true, decide_eq_true_eq] at h
            exact h
        exact (g.grow hi).2.2 hq.2 b hq.1
      | pure => have := hm.2; rw [hFi] at this; cases this
      | ld _ _ _ => have := hm.2; rw [hFi] at this; cases this
      | rb _ => have := hm.2; rw [hFi] at this; cases this
      | rd => have := hm.2; rw [hFi] at this; cases this
    · rw [g.const hi hm]
  have up : ∀ d a, a + d ≤ all.size → (∀ i, a ≤ i → i < a + d → Mod W F i → (free (did Hs F i) (did Hs F j) = true ∨ free (did Hs F j) (did Hs F i) = true)) →
      (Hs (a + d)).blk b = (Hs a).blk b := by
    intro d
    induction d with
    | zero => intro a _ _; rfl
    | succ d ih =>
      intro a hle hfr
      rw [← Nat.add_assoc, step (a + d) (by omega) (hfr _ (by omega) (by omega))]
      exact ih a (by omega) (fun i h1 h2 => hfr i h1 (by omega))
  rcases Nat.le_total k j with h | h
  · obtain ⟨d, rfl⟩ := Nat.exists_eq_add_of_le h
    refine (up d k (by omega) fun i h1 h2 hm => ?_).symm
    have hi : i < all.size := by omega
    have hnS : ¬ S i := fun hSi => by have := (hmods i hi hm).1 hSi; omega
    rcases g.chk _ hj hW i h2 hm.1 with h3 | h3
    · exact absurd (hpre i h3) hnS
    · exact .inl h3
  · obtain ⟨d, rfl⟩ := Nat.exists_eq_add_of_le h
    refine up d j (by omega) fun i h1 h2 hm => ?_
    have hi : i < all.size := by omega
    have hSi : S i := (hmods i hi hm).2 h2
    rcases Nat.lt_or_ge j i with h4 | h4
    · rcases g.chk i hi hm.1 j h4 hW with h3 | h3
      · exact absurd (hcl i hi hSi j h3) hS
      · exact .inr h3
    · obtain rfl : i = j := by omega
      have := hm.2
      rw [hF] at this
      cases this

theorem fp_congr {t t2 : Array Value} {o : Oper} (he : ∀ x ∈ o.op.operands, ev t x = ev t2 x) : fp P t o = fp P t2 o := by
  obtain ⟨dst, opn, type, pos, after, guard⟩ := o
  simp only at he
  cases opn <;> simp only [fp]
  case load T x => rw [he x (by simp [Op.operands])]
  case store T x y => rw [he x (by simp [Op.operands])]
  case lookup T m k ok => rw [he m (by simp [Op.operands])]
  case slice T x lo hi mx => rw [he x (by simp [Op.operands])]

/-- One operation more. -/
theorem Good.next (g : Good P E rec all T Hs V W F) {ι0 : Nat → Emb} {w0 : World} {d : List Deferred} {S : Nat → Prop} {a : Act} {w : World} {k : Nat} {ι : Nat → Emb} {tS : Array Value}
    (inv : Inv P E all T Hs V W F ι0 w0 d S a w k ι tS) {j : Nat} (hj : j < all.size) (hS : ¬ S j) (hpre : ∀ i, ((Region.before all).getD j 0).testBit i = true → S i)
    {K : Act → World → Prop} {Q : Exit → Act → World → Prop} (hK : ∀ a' w' k' ι' tS', Inv P E all T Hs V W F ι0 w0 d (fun i => S i ∨ i = j) a' w' k' ι' tS' → K a' w') : wpOp P all Q j K a w := by
  have ho := Array.getElem?_eq_getElem hj
  unfold wpOp
  simp only [ho]
  rw [← wanted_rel inv.ar all all[j], g.same_wanted inv.sl ho hj hpre]
  obtain ⟨_, _, h3, h4⟩ := g.run.step j _ (Nat.zero_le _) ho
  have hclosed : ∀ i, i < all.size → (S i ∨ i = j) → ∀ m, ((Region.before all).getD i 0).testBit m = true → S m ∨ m = j := by
    intro i hi hSi m hm
    rcases hSi with h | h
    · exact .inl (inv.closed i hi h m hm)
    · subst h; exact .inl (hpre m hm)
  have hsl' := inv.sl.put (V := V) g.ok ho
  have keep : ¬ Mod W F j → ∀ i, i < all.size → Mod W F i → ((S i ∨ i = j) ↔ i < k) := by
    intro hnm i hi hm
    have hne : i ≠ j := fun e => hnm (e ▸ hm)
    rw [← inv.mods i hi hm]
    exact ⟨fun h => h.resolve_right hne, .inl⟩
  cases hW : W j with
  | false =>
    rw [if_neg (by simp)]
    obtain ⟨hv, hh⟩ := h4 hW
    rw [hv] at hsl'
    refine hK _ _ k ι _ ⟨inv.hk, keep (fun hm => by have h9 := hm.1; rw [hW] at h9; cases h9), inv.rel, inv.tr, hsl', put_rel inv.ar _ .undef, ?_, hclosed⟩
    rw [put_defers]; exact inv.defers
  | true =>
    rw [if_pos rfl]
    refine .inl ?_
    obtain ⟨hf, hop⟩ := h3 hW
    rw [op_congr (Hs j) (g.same_ev inv.sl inv.closed ho hj hS hpre)] at hop
    have hfS : fp P tS all[j] = some (F j) := by rw [← fp_congr (g.same_ev inv.sl inv.closed ho hj hS hpre)]; exact hf
    -- an operation that changes nothing
    have quiet : ¬ Mod W F j → op P E rec tS all[j] (Hs k) = some (V j, Hs k) → Oper.wp P all[j] a w K Q := by
      intro hnm hq
      refine op_wp g.rec_ hq inv.rel inv.ar fun v' ι' w' q1 q2 q3 => ?_
      refine hK _ _ k ι' _ ⟨inv.hk, keep hnm, q2, inv.tr.trans q1, hsl', put_rel (inv.ar.mono q1.nx q1.ext) _ q3, ?_, hclosed⟩
      rw [put_defers]; exact inv.defers
    cases hF : F j with
    | pure =>
      rw [hF] at hfS
      exact quiet (fun hm => by have := hm.2; rw [hF] at this; cases this) ((pure_op hfS hop).2 _)
    | ld b q n =>
      rw [hF] at hfS
      refine quiet (fun hm => by have := hm.2; rw [hF] at this; cases this) ((ld_op hfS hop).2.2.2 _ fun i hi _ => ?_)
      exact g.same_cells inv.hk inv.mods inv.closed hj hW hS hpre hF i hi
    | rb b =>
      rw [hF] at hfS
      exact quiet (fun hm => by have := hm.2; rw [hF] at this; cases this) ((rb_op hfS hop).2 _ (g.same_blk inv.hk inv.mods inv.closed hj hW hS hpre hF))
    | rd =>
      rw [hF] at hfS
      have h1 := rd_op hfS hop
      obtain ⟨h2, _⟩ := g.same_heap inv.hk inv.mods inv.closed hj hW hS hpre (.inl hF)
      refine quiet (fun hm => by have := hm.2; rw [hF] at this; cases this) ?_
      rw [h2]
      rw [h1] at hop
      exact hop
    | _ =>
      obtain ⟨h2, h5⟩ := g.same_heap inv.hk inv.mods inv.closed hj hW hS hpre (.inr (by rw [hF]; rfl))
      rw [← h2] at hop
      refine op_wp g.rec_ hop inv.rel inv.ar fun v' ι' w' q1 q2 q3 => ?_
      refine hK _ _ (j + 1) ι' _ ⟨hj, fun i hi hm => ?_, q2, inv.tr.trans q1, hsl', put_rel (inv.ar.mono q1.nx q1.ext) _ q3, ?_, hclosed⟩
      · rw [h5 i hi hm]; omega
      · rw [put_defers]; exact inv.defers

theorem ready_mem {listed : Array Bool} {i : Nat} : i ∈ Region.ready .any all listed ↔ i < all.size ∧ listed.getD i true = false ∧ ∃ o, all[i]? = some o ∧ ∀ e ∈ o.after.toList, Region.binds .any e = true → listed.getD e.on false = true := by
  unfold Region.ready
  rw [List.mem_filter, List.mem_range]
  constructor
  · rintro ⟨h1, h2⟩
    simp only [Bool.and_eq_true, Bool.not_eq_true'] at h2
    have ho := Array.getElem?_eq_getElem h1
    refine ⟨h1, h2.1, _, ho, fun e he hb => ?_⟩
    have h3 := h2.2
    rw [ho] at h3
    simp only [Option.map_some, Option.getD_some] at h3
    have := Array.all_eq_true_iff_forall_mem.1 h3 e (by simpa using he)
    simpa [hb] using this
  · rintro ⟨h1, h2, o, ho, h3⟩
    refine ⟨h1, ?_⟩
    simp only [Bool.and_eq_true, Bool.not_eq_true']
    refine ⟨h2, ?_⟩
    rw [ho]
    simp only [Option.map_some, Option.getD_some]
    refine Array.all_eq_true_iff_forall_mem.2 fun e he => ?_
    cases hb : Region.binds .any e with
    | false => rfl
    | true => simpa [hb] using h3 e (by simpa using he) hb

theorem Good.all_done (g : Good P E rec all T Hs V W F) {listed : Array Bool} (hsz : listed.size = all.size) (hr : Region.ready .any all listed = []) : ∀ j, j < all.size → listed.getD j false = true := by
  intro j
  induction j using Nat.strongRecOn with
  | _ j ih =>
    intro hj
    cases hl : listed.getD j false with
    | true => rfl
    | false =>
      have ho := Array.getElem?_eq_getElem hj
      have hl' : listed.getD j true = false := by
        rw [Array.getD_eq_getD_getElem?] at hl ⊢
        rw [Array.getElem?_eq_getElem (by omega)] at hl ⊢
        exact hl
      have : j ∈ Region.ready .any all listed := ready_mem.2 ⟨hj, hl', _, ho, fun e he hb => ih e.on (g.ok.back j _ ho e he hb) (by have := g.ok.back j _ ho e he hb; omega)⟩
      rw [hr] at this
      cases this

theorem Good.any (g : Good P E rec all T Hs V W F) {ι0 : Nat → Emb} {w0 : World} {d : List Deferred} {Q : Exit → Act → World → Prop} (hQ : Post P E ι0 (Hs 0) w0 d (T all.size) (Hs all.size) (Q .normal)) :
    ∀ (fuel : Nat) (listed : Array Bool) (a : Act) (w : World) (k : Nat) (ι : Nat → Emb) (tS : Array Value), listed.size = all.size → listed.toList.count false ≤ fuel →
      Inv P E all T Hs V W F ι0 w0 d (fun i => listed.getD i false = true) a w k ι tS → wpAny P .any all Q fuel listed a w := by
  have fin : ∀ (listed : Array Bool) (a : Act) (w : World) (k : Nat) (ι : Nat → Emb) (tS : Array Value), listed.size = all.size →
      Inv P E all T Hs V W F ι0 w0 d (fun i => listed.getD i false = true) a w k ι tS → Region.ready .any all listed = [] → Q .normal a w := by
    intro listed a w k ι tS hsz inv hr
    have hall := g.all_done hsz hr
    have hk : Hs all.size = Hs k := by
      obtain ⟨m, hm⟩ := Nat.exists_eq_add_of_le inv.hk
      rw [hm]
      refine g.hs_eq m k (by omega) fun i h1 h2 hm' => ?_
      have := (inv.mods i (by omega) hm').1 (hall i (by omega))
      omega
    have hslT := g.slots all.size (Nat.le_refl _)
    have ht : tS = T all.size := by
      apply Array.ext_getElem?
      intro u
      by_cases hex : ∃ (i : Nat) (p : Oper), all[i]? = some p ∧ p.dst = some u
      · obtain ⟨i, p, hp, hd⟩ := hex
        have hi : i < all.size := (Array.getElem?_eq_some_iff.1 hp).1
        by_cases hus : u < (T 0).size
        · rw [(inv.sl.2 u).1 i p hp (hall i hi) hd hus, (hslT.2 u).1 i p hp hi hd hus]
        · rw [Array.getElem?_eq_none (show tS.size ≤ u by have h9 : tS.size = (T 0).size := inv.sl.1; rw [h9]; exact Nat.not_lt.1 hus), Array.getElem?_eq_none (show (T all.size).size ≤ u by have h9 : (T all.size).size = (T 0).size := hslT.1; rw [h9]; exact Nat.not_lt.1 hus)]
      · rw [(inv.sl.2 u).2 (fun i p hp _ hd => hex ⟨i, p, hp, hd⟩), (hslT.2 u).2 (fun i p hp _ hd => hex ⟨i, p, hp, hd⟩)]
    refine hQ ι a w ?_ ?_ ?_ inv.defers
    · rw [hk]; exact inv.tr
    · rw [hk]; exact inv.rel
    · rw [hk, ← ht]; exact inv.ar
  intro fuel
  induction fuel with
  | zero =>
    intro listed a w k ι tS hsz hc inv
    have hr : Region.ready .any all listed = [] := by
      apply List.eq_nil_iff_forall_not_mem.2
      intro i hi
      obtain ⟨h1, h2, _⟩ := ready_mem.1 hi
      have h3 : listed.toList.count false = 0 := by omega
      rw [List.count_eq_zero] at h3
      apply h3
      rw [Array.getD_eq_getD_getElem?, Array.getElem?_eq_getElem (by omega)] at h2
      simp only [Option.getD_some] at h2
      rw [← h2]
      simp
    exact ⟨hr, fin listed a w k ι tS hsz inv hr⟩
  | succ fuel ih =>
    intro listed a w k ι tS hsz hc inv
    refine ⟨fin listed a w k ι tS hsz inv, fun i hi => ?_⟩
    obtain ⟨h1, h2, o, ho, h3⟩ := ready_mem.1 hi
    have hil : i < listed.size := by omega
    have hli : listed[i]? = some false := by
      rw [Array.getD_eq_getD_getElem?, Array.getElem?_eq_getElem hil] at h2
      simp only [Option.getD_some] at h2
      rw [Array.getElem?_eq_getElem hil, h2]
    have hnS : ¬ (listed.getD i false = true) := by
      rw [Array.getD_eq_getD_getElem?, hli]
      simp
    have hpre : ∀ m, ((Region.before all).getD i 0).testBit m = true → listed.getD m false = true := by
      intro m hm
      obtain ⟨e, he, hb, hx⟩ := before_spec all g.ok.back ho hm
      have hlt := g.ok.back i o ho e he hb
      rcases hx with rfl | hx
      · exact h3 e he hb
      · exact inv.closed e.on (by omega) (h3 e he hb) m hx
    refine g.next inv h1 hnS hpre fun a' w' k' ι' tS' inv' => ?_
    refine ih _ a' w' k' ι' tS' (by simp [hsz]) ?_ ?_
    · rw [Array.toList_setIfInBounds, List.count_set (by simpa using hil)]
      have hmem : listed.toList[i]? = some false := by simpa using hli
      have hget : listed.toList[i]'(by simpa using hil) = false := by
        have := List.getElem?_eq_getElem (l := listed.toList) (i := i) (by simpa using hil)
        rw [this] at hmem
        exact Option.some.inj hmem
      have hpos : 0 < listed.toList.count false := List.count_pos_iff.2 (List.mem_of_getElem? hmem)
      simp [hget]
      simp only [Array.count_toList] at *
      omega
    · have : (fun m => (listed.setIfInBounds i true).getD m false = true) = (fun m => listed.getD m false = true ∨ m = i) := by
        funext m
        apply propext
        rw [Array.getD_eq_getD_getElem?, Array.getD_eq_getD_getElem?, Array.getElem?_setIfInBounds]
        by_cases hm : i = m
        · subst hm; rw [if_pos rfl, if_pos hil]; simp
        · rw [if_neg hm]
          exact ⟨.inl, fun h => h.resolve_right (fun e => hm e.symm)⟩
      rw [this]
      exact inv'

/-- REGIONS THAT DRAW THEIR ORDER. -/
theorem draw_ok (hmix : P.follows .mixedOrders = true) (hrec : SoundR P E rec) : DrawOk P E rec := by
  intro id all t t' h h' hd
  unfold draw at hd
  split at hd
  · rename_i hok
    have okd := okDraw_spec hok
    obtain ⟨T, Hs, V, W, F, q1, q2, q3, q4, q5, q6⟩ := drawGo_run all.toList 0 [] t t' h h' rfl (Nat.zero_le _) hd
    have g : Good P E rec all T Hs V W F := ⟨okd, q5, fun j hj hW i hi hWi => (q6 j (Nat.zero_le _) hj hW).2 i (Nat.zero_le _) hi hWi, hrec⟩
    refine ⟨?_, fun ι w a Q r ht hQ => ?_⟩
    · have : ∀ j, j ≤ all.size → Grow (Hs 0) (Hs j) := by
        intro j
        induction j with
        | zero => intro _; exact .refl _
        | succ j ih => intro hj; exact (ih (by omega)).trans (g.grow (by omega))
      have h1 := this all.size (Nat.le_refl _)
      rw [q2, q4] at h1
      exact h1
    · refine wp_region_any hmix ?_
      rw [← q2] at r ht hQ
      rw [← q3, ← q4] at hQ
      rw [← q1] at ht
      have hQ' : Post P E ι (Hs 0) { w with drawn := w.drawn + 1 } a.defers (T all.size) (Hs all.size) (Q .normal) := fun ι' a' w' t1 t2 t3 t4 => hQ ι' a' w' t1.drew t2 t3 t4
      have hnone : ∀ i, (Array.replicate all.size false).getD i false = false := by
        intro i
        rw [Array.getD_eq_getD_getElem?, Array.getElem?_replicate]
        split <;> rfl
      refine g.any hQ' all.size _ a _ 0 ι (T 0) (by simp) (by simp) ⟨Nat.zero_le _, fun j _ _ => ?_, r.drew _, .refl _ _ _, ⟨rfl, fun u => ⟨fun i o _ hS => ?_, fun _ => rfl⟩⟩, ht, rfl, fun j _ hS => ?_⟩
      · simp only [hnone]; simp
      · simp only [hnone] at hS; cases hS
      · simp only [hnone] at hS; cases hS
  · cases hd

/-- THE SOUNDNESS OF THE ABSTRACT MACHINE. -/
theorem sound (hmix : P.follows .mixedOrders = true) (n : Nat) : SoundR P E (call P E n) := call_sound (fun _ h => draw_ok hmix h) n

end
end Go.AM
