/- Loops over lists, with what is known of the heap; rows of numbers. -/
import Derived.Test.YthmfjfblndophaaAmSim
namespace Go.AM

theorem eqF1 (a : Nat) : (a = a + 1) = False := eq_false (by omega)
theorem eqF2 (a : Nat) : (a = a + 1 + 1) = False := eq_false (by omega)
theorem eqF3 (a : Nat) : (a + 1 = a) = False := eq_false (by omega)
theorem eqF4 (a : Nat) : (a + 1 + 1 = a) = False := eq_false (by omega)
theorem eqF5 (a k : Nat) : (a + 1 = a + k) = (1 = k) := propext ⟨by omega, by omega⟩
theorem eqF6 (a k : Nat) : (a + k = a + 1) = (k = 1) := propext ⟨by omega, by omega⟩
theorem eqF7 (a k : Nat) : (a + 1 + 1 = a + k) = (2 = k) := propext ⟨by omega, by omega⟩
theorem eqF8 (a k : Nat) : (a + k = a + 1 + 1) = (k = 2) := propext ⟨by omega, by omega⟩

/-- A range loop: what is known of a round's state, the carried values and the heap. -/
theorem lp_rel {α σ ρ : Type} {F : List Value → H → Option (Ex × List Value × H)} {k : Nat} {l : List α} (f : Nat → α → σ → σ ⊕ ρ) (I : Nat → σ → List Value → H → Prop) (Q : ρ → Ex → List Value → H → Prop) (oj : Nat)
    {ws : List Value} {h : H} {s0 : σ} (h0 : I 0 s0 ws h) (hk : l.length < k)
    (fin : ∀ s ws h, I l.length s ws h → F ws h = some (.exit oj, ws, h))
    (step : ∀ i x s ws h, l[i]? = some x → I i s ws h → ∃ e ws' h', F ws h = some (e, ws', h') ∧ (match f i x s with
      | .inl s' => e = .normal ∧ I (i + 1) s' ws' h'
      | .inr r => e ≠ .normal ∧ Q r e ws' h')) :
    ∃ e ws' h', lpGo F k ws h = some (e, ws', h') ∧ (match itL f l 0 s0 with
      | .inl s => e = .exit oj ∧ I l.length s ws' h'
      | .inr r => e ≠ .normal ∧ Q r e ws' h') := by
  have key : ∀ (d i m : Nat) (s : σ) (ws : List Value) (h : H), i + d = l.length → d < m → I i s ws h → ∃ e ws' h', lpGo F m ws h = some (e, ws', h') ∧ (match itL f (l.drop i) i s with
      | .inl s => e = .exit oj ∧ I l.length s ws' h'
      | .inr r => e ≠ .normal ∧ Q r e ws' h') := by
    intro d
    induction d with
    | zero =>
      intro i m s ws h hi hm hI
      cases m with
      | zero => omega
      | succ m =>
        have : i = l.length := by omega
        subst this
        rw [List.drop_of_length_le (Nat.le_refl _)]
        exact ⟨_, _, _, lpGo_exit (fin s ws h hI), rfl, hI⟩
    | succ d ih =>
      intro i m s ws h hi hm hI
      cases m with
      | zero => omega
      | succ m =>
        have hil : i < l.length := by omega
        obtain ⟨e, ws', h', hs, hm'⟩ := step i l[i] s ws h (List.getElem?_eq_getElem hil) hI
        rw [List.drop_eq_getElem_cons hil]
        simp only [itL]
        cases hf : f i l[i] s with
        | inl s' =>
          rw [hf] at hm'
          obtain ⟨rfl, hI'⟩ := hm'
          simp only
          rw [lpGo_next hs]
          exact ih (i + 1) m s' ws' h' (by omega) (by omega) hI'
        | inr r =>
          rw [hf] at hm'
          obtain ⟨hn, hQ⟩ := hm'
          simp only
          refine ⟨e, ws', h', ?_, hn, hQ⟩
          cases e with
          | normal => exact absurd rfl hn
          | exit j => exact lpGo_exit hs
          | ret => exact lpGo_ret hs
  exact key l.length 0 k s0 ws h (by omega) hk h0

def foldI {α σ : Type} (g : Nat → α → σ → σ) : List α → Nat → σ → σ
  | [], _, s => s
  | x :: l, i, s => foldI g l (i + 1) (g i x s)

theorem itL_inl {α σ ρ : Type} (g : Nat → α → σ → σ) : ∀ (l : List α) (i : Nat) (s : σ), itL (ρ := ρ) (fun i x s => .inl (g i x s)) l i s = .inl (foldI g l i s) := by
  intro l
  induction l with
  | nil => intro i s; rfl
  | cons x l ih => intro i s; simp only [itL, foldI]; exact ih _ _

theorem foldI_foldl {α σ : Type} (g : α → σ → σ) : ∀ (l : List α) (i : Nat) (s : σ), foldI (fun _ => g) l i s = l.foldl (fun s x => g x s) s := by
  intro l
  induction l with
  | nil => intro i s; rfl
  | cons x l ih => intro i s; exact ih _ _

/-- A range loop that goes to its end. -/
theorem lp_for {α σ : Type} {F : List Value → H → Option (Ex × List Value × H)} {k : Nat} {l : List α} (g : Nat → α → σ → σ) (I : Nat → σ → List Value → H → Prop) (oj : Nat)
    {ws : List Value} {h : H} {s0 : σ} (h0 : I 0 s0 ws h) (hk : l.length < k)
    (fin : ∀ s ws h, I l.length s ws h → F ws h = some (.exit oj, ws, h))
    (step : ∀ i x s ws h, l[i]? = some x → I i s ws h → ∃ ws' h', F ws h = some (.normal, ws', h') ∧ I (i + 1) (g i x s) ws' h') :
    ∃ ws' h', lpGo F k ws h = some (.exit oj, ws', h') ∧ I l.length (foldI g l 0 s0) ws' h' := by
  obtain ⟨e, ws', h', h1, h2⟩ := lp_rel (ρ := Empty) (fun i x s => .inl (g i x s)) I (fun _ _ _ _ => False) oj h0 hk fin (fun i x s ws h hx hI => by
    obtain ⟨ws', h', h1, h2⟩ := step i x s ws h hx hI
    exact ⟨_, ws', h', h1, rfl, h2⟩)
  rw [itL_inl] at h2
  obtain ⟨rfl, h2⟩ := h2
  exact ⟨ws', h', h1, h2⟩

/-- Blocks below a bound are as they were. -/
structure Fr (lo : Nat) (h h' : H) : Prop where
  nx : h.nx ≤ h'.nx
  blk : ∀ b, b < lo → h'.blk b = h.blk b

theorem Fr.refl (lo : Nat) (h : H) : Fr lo h h := ⟨Nat.le_refl _, fun _ _ => rfl⟩
theorem Fr.trans {lo : Nat} {a b c : H} (x : Fr lo a b) (y : Fr lo b c) : Fr lo a c := ⟨Nat.le_trans x.nx y.nx, fun i hi => (y.blk i hi).trans (x.blk i hi)⟩
theorem Fr.mono {lo lo' : Nat} {a b : H} (x : Fr lo a b) (hl : lo' ≤ lo) : Fr lo' a b := ⟨x.nx, fun i hi => x.blk i (Nat.lt_of_lt_of_le hi hl)⟩
theorem Ext.fr {lo : Nat} {a b : H} (x : Ext a b) (hl : lo ≤ a.nx) : Fr lo a b := ⟨x.nx, fun i hi => x.blk i (Nat.lt_of_lt_of_le hi hl)⟩
theorem Fr.ext {a b : H} (x : Fr a.nx a b) : Ext a b := ⟨x.nx, x.blk⟩
theorem Fr.set {lo : Nat} {a c : H} (x : Fr lo a c) {b : Nat} (hb : lo ≤ b) (k : Blk) : Fr lo a (c.set b k) := ⟨x.nx, fun i hi => by rw [blk_set_ne _ _ _ (by omega)]; exact x.blk i hi⟩

theorem SlR.lo {h h' : H} {e : TypeId} {s lo : Nat} {v : Value} {l : List (List Value)} (a : SlR h e s v l) (hv : ∀ b o n c, v = .slice (some ⟨b, o, none⟩) n c → b < lo) (x : Fr lo h h') : SlR h' e s v l := by
  cases a with
  | nil => exact .nil
  | at_ hb hr hk hc hl hx => exact .at_ (Nat.lt_of_lt_of_le hb x.nx) ((x.blk _ (hv _ _ _ _ rfl)).trans hr) hk hc hl hx

/-- A slice that was there is below. -/
theorem SlR.below {h : H} {e : TypeId} {s : Nat} {v : Value} {l : List (List Value)} (a : SlR h e s v l) : ∀ b o n c, v = .slice (some ⟨b, o, none⟩) n c → b < h.nx := by
  intro b o n c hv
  cases a with
  | nil => cases hv
  | at_ hb => cases hv; exact hb

/-- A slice of whole numbers that owns its row. -/
structure IA (h : H) (b : Nat) (v : Value) (l : List Int) : Prop where
  val : ∃ c, v = .slice (some ⟨b, 0, none⟩) l.length c ∧ l.length ≤ capK c ∧ capK c < U
  lt : b < h.nx
  row : h.blk b = some (.row (l.map iv) 3 true)

theorem IA.slR {h : H} {b : Nat} {v : Value} {l : List Int} (a : IA h b v l) : SlR h 3 1 v (l.map fun z => [iv z]) := by
  obtain ⟨c, rfl, h1, h2⟩ := a.val
  have := SlR.at_ (h := h) (e := 3) (s := 1) (b := b) (o := 0) (c := c) (l := l.map fun z => [iv z]) a.lt a.row (by simpa using h1) h2 (by simp) (fun i x hx => by
    simp only [List.getElem?_map] at hx
    cases hl : l[i]? with
    | none => rw [hl] at hx; cases hx
    | some z =>
      rw [hl] at hx
      simp at hx
      subst hx
      refine ⟨rfl, fun j hj => ?_⟩
      have : j = 0 := by omega
      subst this
      simp [hl])
  rw [List.length_map] at this
  exact this

theorem IA.len {h : H} {b : Nat} {v : Value} {l : List Int} (a : IA h b v l) {R : Type} (K : Int → Option R) : AM.len v K = K l.length := by
  obtain ⟨c, rfl, _⟩ := a.val; rfl

theorem IA.isSl {h : H} {b : Nat} {v : Value} {l : List Int} (a : IA h b v l) : v.cells = #[v] ∧ scal v = true := by
  obtain ⟨c, rfl, _⟩ := a.val; exact ⟨rfl, rfl⟩

theorem IA.keep {h h' : H} {b : Nat} {v : Value} {l : List Int} (a : IA h b v l) (hn : h.nx ≤ h'.nx) (hb : h'.blk b = h.blk b) : IA h' b v l := ⟨a.val, Nat.lt_of_lt_of_le a.lt hn, hb.trans a.row⟩
theorem IA.ext {h h' : H} {b : Nat} {v : Value} {l : List Int} (a : IA h b v l) (x : Ext h h') : IA h' b v l := a.keep x.nx (x.blk _ a.lt)

theorem IA.get {h : H} {b : Nat} {v : Value} {l : List Int} (a : IA h b v l) {i : Int} (h0 : 0 ≤ i) {x : Int} (hx : l[i.toNat]? = some x) {R : Type} (K : Value → Option R) :
    (AM.six v i 1 fun b o => (h.cell b o).bind K) = K (iv x) := a.slR.c0 h0 (x := [iv x]) (by simp [hx]) rfl K

theorem IA.put {h : H} {b : Nat} {v : Value} {l : List Int} (a : IA h b v l) {i : Int} (h0 : 0 ≤ i) (hi : i.toNat < l.length) {R : Type} (K : Nat → Nat → Option R) :
    (AM.six v i 1 K) = K b i.toNat := by
  obtain ⟨c, rfl, _⟩ := a.val
  rw [six_in h0 (by omega)]
  simp

theorem IA.wrc {h : H} {b : Nat} {v : Value} {l : List Int} (a : IA h b v l) {i : Nat} (hi : i < l.length) (x : Int) : wrc 1 h b i (iv x) = some (h.set b (.row ((l.set i x).map iv) 3 true)) := by
  rw [wrc_one a.row rfl rfl (by simpa using hi)]
  simp

theorem IA.set {h : H} {b : Nat} {v : Value} {l : List Int} (a : IA h b v l) (i : Nat) (x : Int) : IA (h.set b (.row ((l.set i x).map iv) 3 true)) b v (l.set i x) := by
  obtain ⟨c, h1, h2, h3⟩ := a.val
  exact ⟨⟨c, by simpa using h1, by simpa using h2, h3⟩, a.lt, blk_set_self _ _ _⟩

theorem flat1 : ∀ (l : List Int), (l.map fun z => [iv z]).flatten = l.map iv := by
  intro l
  induction l with
  | nil => rfl
  | cons x l ih => simp only [List.map_cons, List.flatten_cons, ih]; rfl

/-- The block of a slice. -/
def blkOf : Value → Option Nat
  | .slice (some ⟨b, _, none⟩) _ _ => some b
  | _ => none

/-- A slice that was made by a literal and by appending alone; its row lies at 'lo' or behind. -/
inductive AqR (lo : Nat) (h : H) (e : TypeId) (s : Nat) : Value → List (List Value) → Prop
  | nil : AqR lo h e s (.slice none 0 0) []
  | at_ {b c : Nat} {l : List (List Value)} (hlo : lo ≤ b) (hb : b < h.nx) (hr : h.blk b = some (.row l.flatten e true)) (hx : ∀ x ∈ l, x.length = s) (hm : l.length < 2 ^ 30) (hc : c = U + l.length ∨ c = l.length) :
      AqR lo h e s (.slice (some ⟨b, 0, none⟩) l.length c) l

theorem AqR.blkOf {lo : Nat} {h : H} {e : TypeId} {s : Nat} {v : Value} {l : List (List Value)} (a : AqR lo h e s v l) {b : Nat} (hb : AM.blkOf v = some b) : lo ≤ b ∧ b < h.nx ∧ h.blk b = some (.row l.flatten e true) := by
  cases a with
  | nil => cases hb
  | at_ hlo hb' hr hx hm => cases hb; exact ⟨hlo, hb', hr⟩

theorem AqR.keep {lo : Nat} {h h' : H} {e : TypeId} {s : Nat} {v : Value} {l : List (List Value)} (a : AqR lo h e s v l) (hn : h.nx ≤ h'.nx) (hb : ∀ b, AM.blkOf v = some b → h'.blk b = h.blk b) : AqR lo h' e s v l := by
  cases a with
  | nil => exact .nil
  | at_ hlo hb' hr hx hm hc => exact .at_ hlo (Nat.lt_of_lt_of_le hb' hn) ((hb _ rfl).trans hr) hx hm hc

theorem AqR.ext {lo : Nat} {h h' : H} {e : TypeId} {s : Nat} {v : Value} {l : List (List Value)} (a : AqR lo h e s v l) (x : Ext h h') : AqR lo h' e s v l :=
  a.keep x.nx fun _ hb => x.blk _ (a.blkOf hb).2.1

theorem AqR.isSl {lo : Nat} {h : H} {e : TypeId} {s : Nat} {v : Value} {l : List (List Value)} (a : AqR lo h e s v l) : ∃ x n c, v = .slice x n c := by
  cases a with
  | nil => exact ⟨_, _, _, rfl⟩
  | at_ => exact ⟨_, _, _, rfl⟩

theorem AqR.cells {lo : Nat} {h : H} {e : TypeId} {s : Nat} {v : Value} {l : List (List Value)} (a : AqR lo h e s v l) : v.cells = #[v] ∧ scal v = true := by
  obtain ⟨x, n, c, rfl⟩ := a.isSl; exact ⟨rfl, rfl⟩

theorem AqR.slR {lo : Nat} {h : H} {e : TypeId} {s : Nat} {v : Value} {l : List (List Value)} (a : AqR lo h e s v l) : SlR h e s v l := by
  cases a with
  | nil => exact .nil
  | @at_ b c l hlo hb hr hx hm hc =>
    have h30 : (2:Nat) ^ 30 < U := by decide
    have hk : capK c = l.length := by
      rcases hc with rfl | rfl
      · exact capK_U _
      · unfold capK; rw [if_pos (by omega)]
    refine .at_ hb hr (by omega) (by omega) (by rw [flatten_len hx]; omega) fun i x hi => ⟨hx x (List.mem_of_getElem? hi), fun j hj => ?_⟩
    rw [Nat.zero_add]
    exact flatten_get hx i x hi j hj

/-- A slice of numbers that was made by appending owns its row, if it is not empty. -/
theorem AqR.ia {lo : Nat} {h : H} {v : Value} {l : List Int} (a : AqR lo h 3 1 v (l.map fun z => [iv z])) (hl : l ≠ []) : ∃ b, lo ≤ b ∧ AM.blkOf v = some b ∧ IA h b v l := by
  generalize hL : l.map (fun z => [iv z]) = L at a
  cases a with
  | nil => simp at hL; exact absurd hL hl
  | @at_ b c L hlo hb hr hx hm hc =>
    subst hL
    rw [List.length_map] at *
    rw [flat1] at hr
    have h30 : (2:Nat)^30 < U := by decide
    have hk : capK c = l.length := by
      rcases hc with rfl | rfl
      · exact capK_U _
      · unfold capK; rw [if_pos (by omega)]
    exact ⟨b, hlo, rfl, ⟨_, rfl, by omega, by omega⟩, hb, hr⟩

/-- Elements appended. -/
theorem AqR.app {P : Program} {lo : Nat} {h : H} {e t t' : TypeId} {s : Nat} {v y : Value} {l ys : List (List Value)} (a : AqR lo h e s v l) (ht : okApp P t e s = true) (ht' : okApp P t' e s = true)
    (hy : SlR h e s y ys) (hsc : ys.flatten.all scal = true) (hm : l.length + ys.length < 2 ^ 30) (hlo : lo ≤ h.nx) :
    ∃ v' h', (∀ {R : Type} (K : Value → H → Option R), AM.app P h t t' v y K = K v' h') ∧ AqR lo h' e s v' (l ++ ys) ∧ h.nx ≤ h'.nx ∧
      (∀ b, b < h.nx → AM.blkOf v ≠ some b → h'.blk b = h.blk b) ∧ ((v' = v ∧ h' = h ∧ ys = []) ∨ ∃ b', AM.blkOf v' = some b' ∧ h.nx ≤ b') := by
  obtain ⟨i, z, h1, h2, h3, h4, h5, h6, h7⟩ := okApp_spec ht
  obtain ⟨_, _, h1', _⟩ := okApp_spec ht'
  have hsrc := hy.srcAll h6
  have hlen := hy.lenOf
  have hxl : ∀ x ∈ ys, x.length = s := by
    intro x hx'
    cases hy with
    | nil => cases hx'
    | at_ _ _ _ _ _ hx =>
      obtain ⟨i, hi, rfl⟩ := List.getElem_of_mem hx'
      exact (hx i _ (List.getElem?_eq_getElem hi)).1
  by_cases h0 : ys.length = 0
  · have hnil := List.eq_nil_of_length_eq_zero h0
    subst hnil
    refine ⟨v, h, fun K => ?_, by simpa using a, Nat.le_refl _, fun _ _ _ => rfl, .inl ⟨rfl, rfl, rfl⟩⟩
    unfold AM.app append
    simp only [h1, h1', h2, h3, hlen, h4, hsrc, Option.bind_some]
    rw [if_pos ⟨h5, h6, h7⟩]
    cases a <;> rfl
  · have fresh : ∀ (g : H) (old : List (List Value)), g.nx = h.nx → (∀ x ∈ old, x.length = s) → old.length + ys.length < 2 ^ 30 →
        AqR lo (g.new (.row (old.flatten ++ ys.flatten) e true)) e s (.slice (some ⟨h.nx, 0, none⟩) (old.length + ys.length) (U + (old.length + ys.length))) (old ++ ys) := by
      intro g old hg hox hom
      have := AqR.at_ (lo := lo) (h := g.new (.row (old.flatten ++ ys.flatten) e true)) (e := e) (s := s) (b := h.nx) (c := U + (old.length + ys.length)) (l := old ++ ys) hlo (by rw [nx_new]; omega) (by rw [blk_new_at _ _ hg.symm, List.flatten_append]) (by
        intro x hx
        rcases List.mem_append.1 hx with hx | hx
        · exact hox x hx
        · exact hxl x hx) (by simpa using hom) (.inl (by rw [List.length_append]))
      rw [List.length_append] at this
      exact this
    have h30 : (2:Nat) ^ 30 < U := by decide
    cases a with
    | nil =>
      have h00 : ([] : List (List Value)).length = 0 := rfl
      refine ⟨.slice (some ⟨h.nx, 0, none⟩) ys.length (U + ys.length), h.new (.row ys.flatten e true), fun K => ?_, ?_, Nat.le_succ _, fun b hb' _ => blk_new_ne _ _ (by omega), .inr ⟨h.nx, rfl, Nat.le_refl _⟩⟩
      · unfold AM.app append
        simp only [h1, h1', h2, h3, hlen, h4, hsrc, Option.bind_some]
        rw [if_pos ⟨h5, h6, h7⟩, if_neg h0, if_pos (by omega)]
        rfl
      · have := fresh h [] rfl (by simp) (by simpa using hm)
        simpa using this
    | @at_ b c l hlob hb' hr hx hm' hc =>
      rcases hc with rfl | rfl
      · refine ⟨.slice (some ⟨h.nx, 0, none⟩) (l.length + ys.length) (U + (l.length + ys.length)), (h.kill b).new (.row (l.flatten ++ ys.flatten) e true), fun K => ?_, fresh (h.kill b) l rfl hx hm, Nat.le_succ _, fun b' hb'' hne => ?_, .inr ⟨h.nx, rfl, Nat.le_refl _⟩⟩
        · unfold AM.app append
          simp only [h1, h1', h2, h3, hlen, h4, hsrc, Option.bind_some]
          rw [if_pos ⟨h5, h6, h7⟩]
          have hck : capK (U + l.length) = l.length := capK_U _
          simp only [hck]
          rw [if_neg h0, if_neg (by omega), if_pos hm, if_neg (by omega)]
          simp only [hr, h4]
          rw [if_pos ⟨trivial, by rw [flatten_len hx]; omega, hsc⟩]
          have : (l.flatten.drop 0).take (l.length * s) = l.flatten := by rw [List.drop_zero, List.take_of_length_le (by rw [flatten_len hx]; exact Nat.le_refl _)]
          rw [this]
          rfl
        · have : b' ≠ b := fun e1 => hne (by rw [e1]; rfl)
          rw [blk_new_ne _ _ (by rw [nx_kill]; omega), blk_kill_ne _ _ this]
      · refine ⟨.slice (some ⟨h.nx, 0, none⟩) (l.length + ys.length) (U + (l.length + ys.length)), h.new (.row (l.flatten ++ ys.flatten) e true), fun K => ?_, fresh h l rfl hx hm, Nat.le_succ _, fun b' hb'' _ => blk_new_ne _ _ (by omega), .inr ⟨h.nx, rfl, Nat.le_refl _⟩⟩
        unfold AM.app append
        simp only [h1, h1', h2, h3, hlen, h4, hsrc, Option.bind_some]
        rw [if_pos ⟨h5, h6, h7⟩]
        have hck : capK l.length = l.length := by unfold capK; rw [if_pos (by omega)]
        simp only [hck]
        rw [if_neg h0, if_neg (by omega), if_pos hm, if_pos (by omega)]
        have hrd : (if l.length = 0 then some [] else h.rd b 0 (l.length * s)) = some l.flatten := by
          split
          · rename_i h9
            rw [List.eq_nil_of_length_eq_zero h9]
            rfl
          · simp only [H.rd, hr]
            rw [if_pos (by rw [flatten_len hx]; omega), List.drop_zero, List.take_of_length_le (by rw [flatten_len hx]; exact Nat.le_refl _)]
        rw [hrd]
        rfl

/-- One element more, from a literal. -/
theorem AqR.push {P : Program} {lo : Nat} {h : H} {e t t' t2 : TypeId} {s : Nat} {v xv : Value} {l : List (List Value)} {x : List Value} (a : AqR lo h e s v l) (ht : okApp P t e s = true) (ht' : okApp P t' e s = true)
    (hb : ∀ h : H, buildSlice P t2 1 [(0, xv)] h = some (.slice (some ⟨h.nx, 0, none⟩) 1 1, h.new (.row x e true))) (hx : x.length = s) (hsc : x.all scal = true) (hm : l.length + 1 < 2 ^ 30) (hlo : lo ≤ h.nx) :
    ∃ v' h', (∀ {R : Type} (K : Value → H → Option R), (bls P h t2 1 [(0, xv)] fun y h2 => AM.app P h2 t t' v y K) = K v' h') ∧ AqR lo h' e s v' (l ++ [x]) ∧ h.nx ≤ h'.nx ∧
      (∀ b, b < h.nx → AM.blkOf v ≠ some b → h'.blk b = h.blk b) ∧ ∃ b', AM.blkOf v' = some b' ∧ h.nx ≤ b' := by
  have x0 := Ext.new h (.row x e true)
  have hy : SlR (h.new (.row x e true)) e s (.slice (some ⟨h.nx, 0, none⟩) 1 1) [x] := by
    refine .at_ (l := [x]) (Nat.lt_succ_self _) (blk_new_self _ _) (by show 1 ≤ capK 1; decide) (by decide) (by simp [hx]) fun i y hi => ?_
    cases i with
    | zero =>
      simp at hi
      subst hi
      exact ⟨hx, fun j _ => by simp⟩
    | succ i => simp at hi
  obtain ⟨v', h', e1, a1, n1, f1, b1⟩ := (a.ext x0).app ht ht' hy (by simpa using hsc) (by simpa using hm) (Nat.le_trans hlo x0.nx)
  refine ⟨v', h', fun K => (bls_some (hb h)).trans (e1 K), a1, Nat.le_trans x0.nx n1, fun b hb hne => (f1 b (by have := x0.nx; omega) hne).trans (x0.blk b hb), ?_⟩
  rcases b1 with ⟨_, _, h9⟩ | ⟨b', h9, h8⟩
  · cases h9
  · exact ⟨b', h9, by have := x0.nx; omega⟩

theorem AqR.lit {lo : Nat} {h : H} {e : TypeId} {s n : Nat} {l : List (List Value)} (hlo : lo ≤ h.nx) (hn : l.length = n) (hx : ∀ x ∈ l, x.length = s) (hm : l.length < 2 ^ 30) : AqR lo (h.new (.row l.flatten e true)) e s (.slice (some ⟨h.nx, 0, none⟩) n n) l := by
  subst hn
  exact .at_ hlo (Nat.lt_succ_self _) (blk_new_self _ _) hx hm (.inr rfl)

/-- A new row of zeros. -/
theorem mks_ints {P : Program} {t e : TypeId} (ht : okApp P t e 1 = true) (hz : zero? P e = some (iv 0)) {n : Nat} (hn : n < 2 ^ 30) {h : H} {R : Type} (K : Value → H → Option R) :
    mks P h t n n K = K (.slice (some ⟨h.nx, 0, none⟩) n n) (h.new (.row ((List.replicate n 0).map iv) e true)) := by
  obtain ⟨i, z, h1, h2, h3, h4, h5, h6, h7⟩ := okApp_spec ht
  rw [hz] at h3
  cases h3
  have hr : (List.range n).map (fun x => (iv 0).cells[x % 1]!) = (List.replicate n 0).map iv := by
    apply List.ext_getElem
    · simp
    · intro j h8 h9
      simp [Nat.mod_one, Value.cells]
  unfold mks makeSlice
  simp only [h1, h2, hz, h4, Option.bind_some]
  rw [if_pos ⟨by omega, by omega, by omega, h5, by omega, by rw [h7]⟩]
  simp only [Option.bind_some, Int.toNat_natCast, Nat.mul_one]
  rw [← hr]
  rfl

theorem ia_new {h : H} {n : Nat} (hn : n < 2 ^ 30) {l : List Int} (hl : l.length = n) : IA (h.new (.row (l.map iv) 3 true)) h.nx (.slice (some ⟨h.nx, 0, none⟩) n n) l := by
  subst hl
  have h30 : (2:Nat) ^ 30 < U := by decide
  have hk : capK l.length = l.length := by unfold capK; rw [if_pos (by omega)]
  exact ⟨⟨_, rfl, by omega, by omega⟩, Nat.lt_succ_self _, blk_new_self _ _⟩

theorem lpGo_mono {F : List Value → H → Option (Ex × List Value × H)} : ∀ {m n : Nat} {ws : List Value} {h : H} {r : Ex × List Value × H}, lpGo F m ws h = some r → m ≤ n → lpGo F n ws h = some r := by
  intro m
  induction m with
  | zero => intro n ws h r hr; cases hr
  | succ m ih =>
    intro n ws h r hr hn
    cases n with
    | zero => omega
    | succ n =>
      simp only [lpGo] at hr ⊢
      cases hF : F ws h with
      | none => rw [hF] at hr; cases hr
      | some x =>
        rw [hF] at hr
        simp only [Option.bind_some] at hr ⊢
        obtain ⟨e, ws', h'⟩ := x
        cases e with
        | normal => exact ih hr (by omega)
        | exit i => exact hr
        | ret => exact hr

theorem SlR.isSl {h : H} {e : TypeId} {s : Nat} {v : Value} {l : List (List Value)} (a : SlR h e s v l) : ∃ x n c, v = .slice x n c := by
  cases a with
  | nil => exact ⟨_, _, _, rfl⟩
  | at_ => exact ⟨_, _, _, rfl⟩

/-- A slice is no plain answer. -/
theorem SlR.notR {h : H} {e : TypeId} {s : Nat} {v : Value} {l : List (List Value)} (a : SlR h e s v l) : plainO v = false := by
  obtain ⟨x, n, c, rfl⟩ := a.isSl; rfl

theorem SlR.notR2 {h : H} {e : TypeId} {s : Nat} {v w : Value} {l : List (List Value)} (a : SlR h e s v l) : plainO (.tuple #[v, w]) = false := by
  obtain ⟨x, n, c, rfl⟩ := a.isSl; rfl

theorem run_iso {P : Program} {E : Env} {n : Nat} {f : FuncId} {args : Array Value} {h : H} {r : Value × H} (hi : (E.iso f && args.toList.all plainV) = true) (hc : call P E (n + 1) f args h = some r) : run P E f args h = some r := by
  refine run_of (n := n + 1) ?_
  unfold callT
  unfold call at hc
  rw [if_pos hi] at hc ⊢
  exact hc

end Go.AM
