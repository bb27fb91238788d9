/- Regions in the text's order; code; calls. -/
import Derived.Test.YthmfjfblndophaaAmOpWp
import Derived.Tactics
import Derived.LoopN
namespace Go.AM

section
variable {P : Program} {E : Env}

theorem yielded_rel {ι : Nat → Emb} {n : Nat} {t t' : Array Value} (ht : AR ι n t t') (all : Array Oper) (j : Nat) : yielded all t j = yielded all t' j := by
  unfold yielded
  cases hd : (all[j]?).bind (·.dst) with
  | none => rfl
  | some d =>
    simp only [Option.bind_some]
    cases hv : t[d]? with
    | none =>
      have : t'[d]? = none := by
        rw [Array.getElem?_eq_none_iff] at hv ⊢
        have := ht.1
        omega
      rw [this]
    | some v =>
      obtain ⟨v', h1, h2⟩ := ht.get hv
      rw [h1]
      cases h2 <;> rfl

theorem wanted_rel {ι : Nat → Emb} {n : Nat} {t t' : Array Value} (ht : AR ι n t t') (all : Array Oper) (o : Oper) : Region.wanted o (yielded all t) = Region.wanted o (yielded all t') := by
  have : yielded all t = yielded all t' := funext fun j => yielded_rel ht all j
  rw [this]

theorem put_rel {ι : Nat → Emb} {n : Nat} {t : Array Value} {a : Act} (ht : AR ι n t a.tmps) (d : Option Tmp) {v v' : Value} (hv : VR ι n v v') : AR ι n (put t d v) (a.put d v').tmps := by
  cases d with
  | none => exact ht
  | some d =>
    refine ⟨by simp [put, Act.put, ht.1], fun i x x' hx hx' => ?_⟩
    simp only [put] at hx
    simp only [Act.put] at hx'
    rw [Array.getElem?_setIfInBounds] at hx hx'
    by_cases hi : d = i
    · rw [if_pos hi] at hx hx'
      split at hx
      · split at hx'
        · cases hx; cases hx'; exact hv
        · cases hx'
      · cases hx
    · rw [if_neg hi] at hx hx'
      exact ht.2 i x x' hx hx'

theorem put_defers (a : Act) (d : Option Tmp) (v : Value) : (a.put d v).defers = a.defers := by cases d <;> rfl

/-- What is asked of whatever follows. -/
def Post (P : Program) (E : Env) (ι : Nat → Emb) (h : H) (w : World) (d : List Deferred) (t' : Array Value) (h' : H) (K : Act → World → Prop) : Prop :=
  ∀ ι' a' w', Tr ι h w ι' h' w' → Rel P E ι' h' w' → AR ι' h'.nx t' a'.tmps → a'.defers = d → K a' w'

theorem Post.step {ι ι1 : Nat → Emb} {h h1 h' : H} {w w1 : World} {d : List Deferred} {t' : Array Value} {K : Act → World → Prop} (p : Post P E ι h w d t' h' K) (t1 : Tr ι h w ι1 h1 w1) : Post P E ι1 h1 w1 d t' h' K :=
  fun ι' a' w' ht hr ha hd => p ι' a' w' (t1.trans ht) hr ha hd

theorem ops_grows {rec : Rec} (hrec : SoundR P E rec) (all : Array Oper) : ∀ (l : List Oper) (t t' : Array Value) (h h' : H), ops P E rec all l t h = some (t', h') → Grow h h' := by
  intro l
  induction l with
  | nil => intro t t' h h' ho; cases ho; exact .refl _
  | cons o l ih =>
    intro t t' h h' ho
    simp only [ops] at ho
    split at ho
    · obtain ⟨⟨v, h1⟩, h2, h3⟩ := bind_some ho
      exact (op_grows hrec h2).trans (ih _ _ _ _ h3)
    · exact ih _ _ _ _ ho

theorem ops_wp {rec : Rec} (hrec : SoundR P E rec) (all : Array Oper) {Q : Exit → Act → World → Prop} : ∀ (l : List Oper) (t t' : Array Value) (h h' : H), ops P E rec all l t h = some (t', h') →
    ∀ (ι : Nat → Emb) (w : World) (a : Act), Rel P E ι h w → AR ι h.nx t a.tmps → Post P E ι h w a.defers t' h' (Q .normal) → wpList P all Q l a w := by
  intro l
  induction l with
  | nil =>
    intro t t' h h' ho ι w a r ht hQ
    cases ho
    exact hQ ι a w (.refl _ _ _) r ht rfl
  | cons o l ih =>
    intro t t' h h' ho ι w a r ht hQ
    simp only [ops] at ho
    rw [wanted_rel ht all o] at ho
    unfold wpList
    split at ho
    · rename_i hw
      rw [if_pos hw]
      obtain ⟨⟨v, h1⟩, h2, h3⟩ := bind_some ho
      refine .inl (op_wp hrec h2 r ht fun v' ι' w' q1 q2 q3 => ?_)
      refine ih _ _ _ _ h3 ι' w' (a.put o.dst v') q2 (put_rel (ht.mono q1.nx q1.ext) o.dst q3) ?_
      rw [put_defers]
      exact hQ.step q1
    · rename_i hw
      rw [if_neg hw]
      refine ih _ _ _ _ ho ι w (a.put o.dst undef) r (put_rel ht o.dst .undef) ?_
      rw [put_defers]
      exact hQ

/-- What is asked of regions that draw their order (proved in the next text). -/
def DrawOk (P : Program) (E : Env) (rec : Rec) : Prop := ∀ (id : Nat) (all : Array Oper) (t t' : Array Value) (h h' : H), draw P E rec all t h = some (t', h') →
  Grow h h' ∧ ∀ (ι : Nat → Emb) (w : World) (a : Act) (Q : Exit → Act → World → Prop), Rel P E ι h w → AR ι h.nx t a.tmps → Post P E ι h w a.defers t' h' (Q .normal) → (Code.region id all true).wp P Q a w

def Ex.toExit : Ex → Exit
  | .normal => .normal
  | .exit i => .exit i
  | .ret => .ret

theorem code_sound {rec : Rec} (hrec : SoundR P E rec) (hdraw : DrawOk P E rec) (k : Nat) : ∀ (c : Code) (t t' : Array Value) (h h' : H) (e : Ex), code P E rec k c t h = some (e, t', h') →
    Grow h h' ∧ ∀ (ι : Nat → Emb) (w : World) (a : Act) (Q : Exit → Act → World → Prop), Rel P E ι h w → AR ι h.nx t a.tmps → Post P E ι h w a.defers t' h' (Q e.toExit) → c.wp P Q a w := by
  intro c
  induction c with
  | skip =>
    intro t t' h h' e hc
    simp only [code] at hc
    cases hc
    exact ⟨.refl _, fun ι w a Q r ht hQ => wp_skip (hQ ι a w (.refl _ _ _) r ht rfl)⟩
  | region id all dr =>
    intro t t' h h' e hc
    cases dr with
    | false =>
      simp only [code] at hc
      obtain ⟨⟨t1, h1⟩, h2, h3⟩ := map_some hc
      cases h3
      exact ⟨ops_grows hrec all _ _ _ _ _ h2, fun ι w a Q r ht hQ => wp_region_list (ops_wp hrec all _ _ _ _ _ h2 ι w a r ht hQ)⟩
    | true =>
      simp only [code] at hc
      obtain ⟨⟨t1, h1⟩, h2, h3⟩ := map_some hc
      cases h3
      exact hdraw id all t t1 h h1 h2
  | seq x y ihx ihy =>
    intro t t' h h' e hc
    simp only [code] at hc
    obtain ⟨⟨e1, t1, h1⟩, h2, h3⟩ := bind_some hc
    obtain ⟨gx, wx⟩ := ihx _ _ _ _ _ h2
    cases e1 with
    | normal =>
      simp only at h3
      obtain ⟨gy, wy⟩ := ihy _ _ _ _ _ h3
      refine ⟨gx.trans gy, fun ι w a Q r ht hQ => wp_seq (wx ι w a _ r ht fun ι1 a1 w1 q1 q2 q3 q4 => ?_)⟩
      refine wy ι1 w1 a1 Q q2 q3 ?_
      rw [q4]
      exact hQ.step q1
    | exit i =>
      simp only at h3
      cases h3
      exact ⟨gx, fun ι w a Q r ht hQ => wp_seq (wx ι w a _ r ht hQ)⟩
    | ret =>
      simp only at h3
      cases h3
      exact ⟨gx, fun ι w a Q r ht hQ => wp_seq (wx ι w a _ r ht hQ)⟩
  | cond b x y ihx ihy =>
    intro t t' h h' e hc
    simp only [code] at hc
    split at hc
    · cases hc
    · rename_i hok
      have hok' : okOperand E b = true := by simpa using hok
      split at hc
      · rename_i hb
        obtain ⟨gx, wx⟩ := ihx _ _ _ _ _ hc
        refine ⟨gx, fun ι w a Q r ht hQ => ?_⟩
        have hv := ev_rel r ht hok'
        rw [hb] at hv
        generalize hce : a.eval b = u at hv
        cases hv
        exact wp_cond (t := true) hce (wx ι w a Q r ht hQ)
      · rename_i hb
        obtain ⟨gy, wy⟩ := ihy _ _ _ _ _ hc
        refine ⟨gy, fun ι w a Q r ht hQ => ?_⟩
        have hv := ev_rel r ht hok'
        rw [hb] at hv
        generalize hce : a.eval b = u at hv
        cases hv
        exact wp_cond (t := false) hce (wy ι w a Q r ht hQ)
      · cases hc
  | block id x ih =>
    intro t t' h h' e hc
    simp only [code] at hc
    obtain ⟨⟨e1, t1, h1⟩, h2, h3⟩ := map_some hc
    obtain ⟨gx, wx⟩ := ih _ _ _ _ _ h2
    cases e1 with
    | normal =>
      simp only at h3
      cases h3
      exact ⟨gx, fun ι w a Q r ht hQ => wp_block (wx ι w a _ r ht hQ)⟩
    | exit i =>
      simp only at h3
      cases h3
      refine ⟨gx, fun ι w a Q r ht hQ => wp_block (wx ι w a _ r ht fun ι1 a1 w1 q1 q2 q3 q4 => ?_)⟩
      have := hQ ι1 a1 w1 q1 q2 q3 q4
      simp only [Ex.toExit, Exit.inBlock]
      by_cases hi : i = id
      · rw [if_pos hi] at this ⊢; exact this
      · rw [if_neg hi] at this ⊢; exact this
    | ret =>
      simp only at h3
      cases h3
      exact ⟨gx, fun ι w a Q r ht hQ => wp_block (wx ι w a _ r ht hQ)⟩
  | loop x ih =>
    intro t t' h h' e hc
    simp only [code] at hc
    have key : ∀ (m : Nat) (t t' : Array Value) (h h' : H) (e : Ex), loop (code P E rec k x) m t h = some (e, t', h') →
        Grow h h' ∧ ∀ (ι : Nat → Emb) (w : World) (a : Act) (Q : Exit → Act → World → Prop), Rel P E ι h w → AR ι h.nx t a.tmps → Post P E ι h w a.defers t' h' (Q e.toExit) → Code.rounds P x Q m a w := by
      intro m
      induction m with
      | zero => intro t t' h h' e hc; cases hc
      | succ m ihm =>
        intro t t' h h' e hc
        simp only [loop] at hc
        obtain ⟨⟨e1, t1, h1⟩, h2, h3⟩ := bind_some hc
        obtain ⟨gx, wx⟩ := ih _ _ _ _ _ h2
        cases e1 with
        | normal =>
          simp only at h3
          obtain ⟨gm, wm⟩ := ihm _ _ _ _ _ h3
          refine ⟨gx.trans gm, fun ι w a Q r ht hQ => ?_⟩
          rw [rounds_succ]
          refine wx ι w a _ r ht fun ι1 a1 w1 q1 q2 q3 q4 => ?_
          refine wm ι1 w1 a1 Q q2 q3 ?_
          rw [q4]
          exact hQ.step q1
        | exit i =>
          simp only at h3
          cases h3
          refine ⟨gx, fun ι w a Q r ht hQ => ?_⟩
          rw [rounds_succ]
          exact wx ι w a _ r ht hQ
        | ret =>
          simp only at h3
          cases h3
          refine ⟨gx, fun ι w a Q r ht hQ => ?_⟩
          rw [rounds_succ]
          exact wx ι w a _ r ht hQ
    obtain ⟨g, hw⟩ := key k _ _ _ _ _ hc
    exact ⟨g, fun ι w a Q r ht hQ => wp_loop_rounds k (hw ι w a Q r ht hQ)⟩
  | exit id =>
    intro t t' h h' e hc
    simp only [code] at hc
    cases hc
    exact ⟨.refl _, fun ι w a Q r ht hQ => wp_exit (hQ ι a w (.refl _ _ _) r ht rfl)⟩
  | ret =>
    intro t t' h h' e hc
    simp only [code] at hc
    cases hc
    exact ⟨.refl _, fun ι w a Q r ht hQ => wp_ret (hQ ι a w (.refl _ _ _) r ht rfl)⟩
  | _ => intro t t' h h' e hc; simp only [code] at hc; cases hc

/-- The results. -/
theorem resV_run {ι : Nat → Emb} {h : H} {w : World} (r : Rel P E ι h w) {t t' : Array Value} (ht : AR ι h.nx t t') : ∀ (l : List ResultVar) (vs : List Value), l.mapM (resV P t h) = some vs →
    ∃ vs', (l.mapM (fun | .tmp i => pure (t'.getD i undef) | .cell a ty => do loadVar ty (← asAddr (t'.getD a undef))) : Sem (List Value)).run P w = .ok vs' w ∧ LR ι h.nx vs vs' := by
  have hget : ∀ i, VR ι h.nx (t.getD i undef) (t'.getD i undef) := fun i => by
    have := ev_rel (E := E) (P := P) (a := ⟨t', []⟩) r ht (x := .tmp i) rfl
    exact this
  intro l
  induction l with
  | nil => intro vs hv; cases hv; exact ⟨[], rfl, .nil⟩
  | cons x l ih =>
    intro vs hv
    simp only [List.mapM_cons] at hv ⊢
    obtain ⟨v, hv1, hv2⟩ := bind_some hv
    obtain ⟨vs1, hv3, hv4⟩ := bind_some hv2
    cases hv4
    obtain ⟨vs', h1, h2⟩ := ih vs1 hv3
    have : ∃ v', (match x with | .tmp i => pure (t'.getD i undef) | .cell a ty => (do loadVar ty (← asAddr (t'.getD a undef))) : Sem Value).run P w = .ok v' w ∧ VR ι h.nx v v' := by
      cases x with
      | tmp i =>
        simp only [resV] at hv1
        cases hv1
        exact ⟨_, rfl, hget i⟩
      | cell a ty =>
        simp only [resV] at hv1
        obtain ⟨v', g1, g2⟩ := load_run r (hget a) hv1
        refine ⟨v', ?_, g2⟩
        rw [← g1]
        unfold load at hv1
        split at hv1
        · rename_i b o hb
          have := hget a
          rw [hb] at this
          show (do loadVar ty (← asAddr (t'.getD a undef)) : Sem Value).run P w = (Instr.loadAt ty (t'.getD a undef)).run P w
          generalize t'.getD a undef = u at this
          cases this
          rfl
        · cases hv1
    obtain ⟨v', g1, g2⟩ := this
    refine ⟨v' :: vs', ?_, .cons g2 h2⟩
    cases x <;> simp only [Sem.run_bind, g1, Result.andThen_ok, h1, Sem.run_pure] at g1 ⊢ <;> simp only [Sem.run_bind, g1, Result.andThen_ok, h1, Sem.run_pure]

theorem res_run {ι : Nat → Emb} {h : H} {w : World} (r : Rel P E ι h w) {fn : Func} {t t' : Array Value} (ht : AR ι h.nx t t') {v : Value} (hv : res P fn t h = some v) :
    ∃ v', (results fn t').run P w = .ok v' w ∧ VR ι h.nx v v' := by
  unfold res at hv
  obtain ⟨vs, h1, h2⟩ := map_some hv
  obtain ⟨vs', h3, h4⟩ := resV_run r ht _ _ h1
  have hm : (fn.results.mapM (fun | .tmp i => pure (t'.getD i undef) | .cell a ty => do loadVar ty (← asAddr (t'.getD a undef))) : Sem (Array Value)).run P w = .ok vs'.toArray w := by
    rw [Array.mapM_eq_mapM_toList]
    simp only [Sem.run_map, h3, Result.andThen_ok]
  have hlen := h4.1
  unfold results
  simp only [Sem.run_bind]
  refine ⟨if h : vs'.toArray.size = 1 then vs'.toArray[0] else .tuple vs'.toArray, ?_, ?_⟩
  · exact Eq.trans (congrArg (fun q : Result (Array Value) => q.andThen fun a w' => Sem.run P (pure (if h : a.size = 1 then a[0] else Value.tuple a)) w') hm) rfl
  · rw [← h2]
    cases vs with
    | nil =>
      have : vs' = [] := List.length_eq_zero_iff.1 (by simpa using hlen.symm)
      subst this
      exact .tuple rfl (fun i v v' hv => by simp at hv)
    | cons x vs =>
      obtain ⟨x', u, rfl, hx, hu⟩ := h4.uncons
      cases vs with
      | nil =>
        have : u = [] := List.length_eq_zero_iff.1 (by have := hu.1; simpa using this.symm)
        subst this
        simpa using hx
      | cons y vs =>
        obtain ⟨y', u, rfl, hy, hu⟩ := hu.uncons
        rw [dif_neg (by simp)]
        exact .tuple h4.toArray.1 h4.toArray.2

theorem init_rel {ι : Nat → Emb} {n m : Nat} {args args' : Array Value} (ha : AR ι n args args') : AR ι n (args ++ Array.replicate (m - args.size) undef) (args' ++ Array.replicate (m - args'.size) undef) := by
  rw [ha.1]
  refine AR.append ha ⟨rfl, fun i v v' hv hv' => ?_⟩
  rw [hv] at hv'
  cases hv'
  rw [Array.getElem?_replicate] at hv
  split at hv
  · cases hv; exact .undef
  · cases hv

/-- One body. -/
theorem body_sound {rec : Rec} (hrec : SoundR P E rec) (hdraw : DrawOk P E rec) {n : Nat} {f : FuncId} {args : Array Value} {h h' : H} {v : Value} (hb : body P E rec n f args h = some (v, h')) :
    (∃ fn c, P.funcs[f]? = some fn ∧ fn.body = some c ∧ fn.name ≠ "runtime.NumGoroutine") ∧ Grow h h' ∧
      ∀ ι w args', Rel P E ι h w → AR ι h.nx args args' → Calls P f args' w fun e w' => ∃ v' ι', e = .returned v' ∧ Tr ι h w ι' h' w' ∧ Rel P E ι' h' w' ∧ VR ι' h'.nx v v' := by
  unfold body at hb
  split at hb
  · rename_i fn hf
    split at hb
    · rename_i c hc
      split at hb
      · cases hb
      · rename_i hname
        obtain ⟨⟨e, t1, h1⟩, h2, h3⟩ := bind_some hb
        obtain ⟨g, hw⟩ := code_sound hrec hdraw n c _ _ _ _ _ h2
        have hres : e ≠ .exit 0 ∧ (∀ i, e ≠ .exit i) ∧ h1 = h' ∧ res P fn t1 h1 = some v := by
          cases e with
          | exit i => simp at h3
          | normal => simp only at h3; obtain ⟨u, q1, q2⟩ := map_some h3; cases q2; exact ⟨by simp, by simp, rfl, q1⟩
          | ret => simp only at h3; obtain ⟨u, q1, q2⟩ := map_some h3; cases q2; exact ⟨by simp, by simp, rfl, q1⟩
        obtain ⟨_, hne, rfl, hr⟩ := hres
        refine ⟨⟨fn, c, hf, hc, hname⟩, g, fun ι w args' r ha => ?_⟩
        refine calls_of_wp hf hc (hw ι w _ _ r (init_rel ha) fun ι' a' w' q1 q2 q3 q4 => ?_)
        obtain ⟨v', g1, g2⟩ := res_run q2 q3 hr
        have hd : a'.defers = [] := q4
        cases e with
        | exit i => exact absurd rfl (hne i)
        | normal => exact ⟨hd, v', g1, v', ι', rfl, q1, q2, g2⟩
        | ret => exact ⟨hd, v', g1, v', ι', rfl, q1, q2, g2⟩
    · cases hb
  · cases hb

theorem plainV_eq {ι : Nat → Emb} {n : Nat} {v v' : Value} (hp : plainV v = true) (hv : VR ι n v v') : v' = v := by
  cases hv <;> first | rfl | (simp [plainV] at hp; done)

theorem plainV_rel {ι : Nat → Emb} {n : Nat} {v : Value} (hp : plainV v = true) : VR ι n v v := by
  unfold plainV at hp
  split at hp
  · exact .int _ _
  · exact .bool _
  · cases hp

theorem plainR_rel {ι ι' : Nat → Emb} {n n' : Nat} {v v' : Value} (hp : plainR v = true) (hv : VR ι n v v') : VR ι' n' v v' := by
  cases hv with
  | int k x => exact .int k x
  | bool b => exact .bool b
  | tuple h1 h2 =>
    simp only [plainR, List.all_eq_true] at hp
    exact .tuple h1 fun i v v' a b => by
      have hpv := hp v (by simpa using Array.mem_of_getElem? a)
      rw [plainV_eq hpv (h2 i v v' a b)]
      exact plainV_rel hpv
  | _ => simp [plainR] at hp

theorem Rel.lone {ι : Nat → Emb} {h : H} {w : World} (r : Rel P E ι h w) : Rel P E ι (lone E) w := by
  have hb : ∀ b k, (AM.lone E).blk b = some k → b < E.NG ∧ E.G b = some k := by
    intro b k hk
    simp only [AM.lone] at hk
    split at hk
    · exact ⟨by assumption, hk⟩
    · cases hk
  refine ⟨fun b k hk => (hb b k hk).1, fun b k hk => (r.globO b k (hb b k hk).1 (hb b k hk).2).2, fun b b' k k' hk hk' hne ho => ?_, Nat.le_refl _, r.glob, fun g hg => ?_, r.globO⟩
  · rw [(r.globO b k (hb b k hk).1 (hb b k hk).2).1] at ho
    cases ho
  · simp only [AM.lone]
    rw [if_pos hg]

/-- THE SOUNDNESS OF THE ABSTRACT MACHINE. -/
theorem call_sound (hdraw : ∀ rec, SoundR P E rec → DrawOk P E rec) : ∀ n, SoundR P E (call P E n) := by
  intro n
  induction n with
  | zero => exact ⟨fun f args h v h' hc => (by cases hc), fun f args h v h' hc => (by cases hc), fun f args h v h' hc => (by cases hc)⟩
  | succ n ih =>
    have hd := hdraw _ ih
    have split : ∀ f args h v h', call P E (n + 1) f args h = some (v, h') → body P E (call P E n) (n + 1) f args h = some (v, h') ∨
        (h' = h ∧ plainR v = true ∧ (∀ x ∈ args.toList, plainV x = true) ∧ ∃ h2, body P E (call P E n) (n + 1) f args (AM.lone E) = some (v, h2)) := by
      intro f args h v h' hc
      simp only [call] at hc
      split at hc
      · rename_i hiso
        obtain ⟨⟨u, h2⟩, q1, q2⟩ := bind_some hc
        simp only at q2
        split at q2
        · rename_i hp
          cases q2
          simp only [Bool.and_eq_true, List.all_eq_true] at hiso
          exact .inr ⟨rfl, hp, hiso.2, h2, q1⟩
        · cases q2
      · exact .inl hc
    refine ⟨fun f args h v h' hc => ?_, fun f args h v h' hc => ?_, fun f args h v h' hc ι w args' r ha => ?_⟩
    · rcases split f args h v h' hc with hb | ⟨_, _, _, h2, hb⟩
      · exact (body_sound ih hd hb).1
      · exact (body_sound ih hd hb).1
    · rcases split f args h v h' hc with hb | ⟨rfl, _, _, h2, hb⟩
      · exact (body_sound ih hd hb).2.1
      · exact .refl _
    · rcases split f args h v h' hc with hb | ⟨rfl, hp, hpl, h2, hb⟩
      · exact (body_sound ih hd hb).2.2 ι w args' r ha
      · have ha' : AR ι (AM.lone E).nx args args' := ⟨ha.1, fun i v v' a b => by
          have hpv := hpl v (by simpa using Array.mem_of_getElem? a)
          rw [plainV_eq hpv (ha.2 i v v' a b)]
          exact plainV_rel hpv⟩
        refine ((body_sound ih hd hb).2.2 ι w args' r.lone ha').mono fun e w' he => ?_
        obtain ⟨v', ι', rfl, t1, t2, t3⟩ := he
        have hfr : ∀ g, g < w.heap.size → w'.heap[g]? = w.heap[g]? := fun g hg => t1.fr g hg fun b k hk ho => by
          simp only [AM.lone] at hk
          split at hk
          · rename_i hlt
            rw [(r.globO b k hlt hk).1] at ho
            cases ho
          · cases hk
        refine ⟨v', ι, rfl, ⟨Nat.le_refl _, fun _ _ => rfl, t1.os, t1.tape, t1.output, t1.size, fun g hg _ => hfr g hg, fun b k hb ho => .inl ⟨b, k, hb, ho, rfl⟩⟩, ?_, plainR_rel hp t3⟩
        exact ⟨r.dom, fun b k hb => (r.blk b k hb).congr (hfr _ (r.blk b k hb).lt) t1.size, r.inj, r.ng, r.glob, r.globB, fun g k hg hk => ⟨(r.globO g k hg hk).1, (r.globO g k hg hk).2.congr (hfr _ (r.globO g k hg hk).2.lt) t1.size⟩⟩

end
end Go.AM
