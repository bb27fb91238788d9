/- Parts of the proof, put together: what the functions of the program answer, and plain laws. -/
import Derived.Test.YtakhklelgcfgjaaDoorAmRun
import Derived.Test.YtakhklelgcfgjaaDoorRows
import Derived.LaidMore
import Derived.Stop.Joined
import Derived.ProofKit
import Derived.OpenShut
import Derived.Test.YtakhklelgcfgjaaDoorCnt1

section

/- An ear is added: the closure. -/
namespace Go.AM
open Go.Proofs
variable {R : Type}
attribute [local simp] nx_eq nx_new nx_set blk_new blk_set asI_int asK_int asB_bool asP_ptr al_eq bx_eq len_slice onE_exit onE_ret onR_ret Value.cells cell_new cell_set rd_new rd_set off eq lt le ifB gv out ext20 ext21
theorem row_ty {a b : List Value} {e e' : TypeId} {o o' : Bool} (h : some (Blk.row a e o) = some (Blk.row b e' o')) : e = e' := by
  injection h with h; injection h

theorem trunc_turned {P : Program} {h h1 : H} {v : Value} {b : Nat} (hb : b < h.nx) (hne : h1.blk b ≠ h.blk b) : Sm h1 (trunc P h h1 v) := by
  unfold trunc
  rw [if_neg (fun hc => hne (hc b hb))]
  exact ⟨rfl, rfl⟩

theorem HE.keep {n : Nat} {gl : List Nat} {there bth blf : Nat} {h h' : H} (a : HE n gl there bth blf h) (hn : h.nx ≤ h'.nx) (h1 : h'.blk bth = h.blk bth) (h2 : h'.blk blf = h.blk blf) (hk : ∀ b cs o, b < h.nx → b ≠ bth → h.blk b = some (.row cs 3 o) → h'.blk b = h.blk b) : HE n gl there bth blf h' := by
  obtain ⟨lv, l1, l2, l3⟩ := a.lf
  refine ⟨h1.trans a.th, ⟨lv, h2.trans l1, l2.keepB hn fun b hb => ?_, l3⟩, a.gb, a.gn, a.tn, Nat.lt_of_lt_of_le a.l1 hn, Nat.lt_of_lt_of_le a.l2 hn⟩
  obtain ⟨z1, cs, o, z2⟩ := l2.blkR hb
  exact hk b cs o z1 (fun e => l3 (by rw [← e]; exact hb)) z2

theorem s86 {n bth blf bou lo : Nat} {p} {q r : Nat} {ov : Value} {m gl : List Nat} {there : Nat} {vs : List Value} {h : H} (hm : ∀ x ∈ m, x < n) (hne : ∀ i, i + 1 < m.length → nb m i ≠ nb m (i + 1)) (hml : m.length ≤ 100) (h0 : SlR h 3 1 (.slice p q r) (cellsN m)) (h0b : blkOf (.slice p q r) ≠ some bth)
    (he : HE n gl there bth blf h) (ho : h.blk bou = some (.row [ov] 56 true)) (hol : bou < h.nx) (hov : AqR lo h 102 1 ov (cellsV vs)) (hlo : lo ≤ h.nx) (hvl : vs.length ≤ 1000) :
    ∃ h' ov', rn 86 #[.slice p q r, pt bth 0, pt blf 0, pt bou 0] h = some (undef, h') ∧ HE n (foldI (stepE m) m 0 (gl, there)).1 (foldI (stepE m) m 0 (gl, there)).2 bth blf h' ∧ h'.blk bou = some (.row [ov'] 56 true) ∧ AqR lo h' 102 1 ov' (cellsV (vs ++ [.slice p q r])) ∧
      h.nx ≤ h'.nx ∧ ∀ b, b < h.nx → b ≠ bth → b ≠ blf → b ≠ bou → blkOf ov ≠ some b → h'.blk b = h.blk b := by
  have hn0 : ∀ {T : Type} (K : Int → Option T), len (.slice p q r) K = K (m.length : Int) := fun K => by rw [h0.len]; simp
  obtain ⟨w, h1, hl, he1, n1, k1⟩ := s86_l hm hne hml h0 h0b he
  obtain ⟨lv, lv1, _⟩ := he.lf
  have o1 : bou ≠ bth := by rintro rfl; rw [he.th] at ho; cases ho
  have o2 : bou ≠ blf := by rintro rfl; rw [lv1] at ho; cases ho
  have ho1 : h1.blk bou = some (.row [ov] 56 true) := (k1 _ hol o1 o2).trans ho
  have hov1 : AqR lo h1 102 1 ov (cellsV vs) := hov.keep n1 fun b hb => by
    obtain ⟨_, z1, z2⟩ := hov.blkOf hb
    refine k1 b z1 ?_ ?_ <;> rintro rfl
    · rw [he.th] at z2; exact absurd (row_ty z2) (by decide)
    · rw [lv1] at z2; exact absurd (row_ty z2) (by decide)
  obtain ⟨ov', h2, e2, a2, n2, k2, b', hb', hbn⟩ := hov1.push app56 app56 (bls56 (x := p) (y := q) (z := r)) rfl rfl (by rw [List.length_map]; omega) (by omega)
  have hoo : blkOf ov ≠ some bou := fun e => by
    have := (hov.blkOf e).2.2
    rw [ho] at this; exact absurd (row_ty this) (by decide)
  have ho2 : h2.blk bou = some (.row [ov] 56 true) := (k2 _ (by omega) hoo).trans ho1
  obtain ⟨h3, hh3⟩ : ∃ h3, h3 = h2.set bou (.row [ov'] 56 true) := ⟨_, rfl⟩
  have hcells := a2.cells
  have hw : wrc 1 h2 bou 0 ov' = some h3 := by
    rw [hh3]; obtain ⟨x, y, z, rfl⟩ := a2.isSl
    unfold wrc; rw [ho2]; rfl
  have k3 : ∀ b, b ≠ bou → h3.blk b = h2.blk b := fun b hb => by rw [hh3]; exact blk_set_ne _ _ _ hb
  have n3 : h3.nx = h2.nx := by rw [hh3]; rfl
  have ho3 : h3.blk bou = some (.row [ov'] 56 true) := by rw [hh3]; exact blk_set_self _ _ _
  have e86 := t86 (k := 200) (v0 := .slice p q r) (v1 := pt bth 0) (v2 := pt blf 0) (v3 := pt bou 0) (h := h) (h1 := h3) (v := undef) (by
    unfold f86
    rw [hn0]
    refine (lp_eq hl).trans ?_
    rw [onE_exit, if_pos rfl, asP_ptr, show ld Tryd.prog h1 56 bou 0 = fun (K : Value → Option (Value × H)) => (h1.cell bou 0).bind K from funext fun K => d56, cell_of ho1]
    simp only [Option.bind_some, List.getElem?_cons_zero]
    rw [e2, asP_ptr, w56, hw]
    rfl)
  have sm := trunc_turned (P := Tryd.prog) (v := undef) hol (h1 := h3) (h := h) (by
    rw [ho3, ho]
    intro e
    cases e
    have := (hov1.blkOf hb').2.1
    omega)
  have m1 := he1.l1
  have m2 := he1.l2
  have hkk : ∀ b, b < h1.nx → blkOf ov ≠ some b → b ≠ bou → h3.blk b = h1.blk b := fun b hb q1 q2 => by rw [k3 b q2, k2 b hb q1]
  have he3 := he1.keep (h' := h3) (by omega) (hkk _ m1 (fun e => by have := (hov1.blkOf e).2.2; rw [he1.th] at this; exact absurd (row_ty this) (by decide)) (fun e => o1 e.symm))
    (hkk _ m2 (fun e => by have := (hov1.blkOf e).2.2; obtain ⟨lv', q1, _⟩ := he1.lf; rw [q1] at this; exact absurd (row_ty this) (by decide)) (fun e => o2 e.symm))
    (fun b cs o z1 z2 z3 => hkk b z1 (fun e => by have := (hov1.blkOf e).2.2; rw [z3] at this; cases this) (fun e => by rw [e, ho1] at z3; cases z3))
  refine ⟨_, ov', e86, he3.keep (by rw [sm.nx]; exact Nat.le_refl _) (by rw [sm.blk]) (by rw [sm.blk]) (fun b _ _ _ _ _ => by rw [sm.blk]), by rw [sm.blk]; exact ho3, ?_, by rw [sm.nx]; omega, fun b hb q1 q2 q3 q4 => ?_⟩
  · have : cellsV (vs ++ [.slice p q r]) = cellsV vs ++ [[.slice p q r]] := by simp
    rw [this]
    refine (a2.keep (h' := h3) (by omega) fun b hb => k3 b ?_).ext sm.ext
    rintro rfl
    have := (a2.blkOf hb).2.2
    rw [ho2] at this; exact absurd (row_ty this) (by decide)
  · rw [sm.blk, hkk b (by omega) q4 q3, k1 b hb q1 q2]

end Go.AM

end

section

/- Ears, plainly: edges taken out along a way, how many they are, and what ears leave. -/
namespace Go.AM
open Go.Proofs
/-- A graph without the edges along a list. -/
def delP (gl : List Nat) : List Nat → List Nat
  | [] => gl
  | [_] => gl
  | a :: b :: m => delP (delE gl a b) (b :: m)

/-- Two nodes stand beside each other in a list. -/
def onP : List Nat → Nat → Nat → Prop
  | [], _, _ => False
  | [_], _, _ => False
  | a :: b :: m, x, y => (x = a ∧ y = b) ∨ (x = b ∧ y = a) ∨ onP (b :: m) x y

/-- A list walks along edges, each taken out once it was used. -/
def Tra (gl : List Nat) : List Nat → Prop
  | [] => True
  | [_] => True
  | a :: b :: m => adj gl a b = true ∧ Tra (delE gl a b) (b :: m)

/-- A list walks along edges. -/
def Ch (gl : List Nat) : List Nat → Prop
  | [] => True
  | [_] => True
  | a :: b :: m => adj gl a b = true ∧ Ch gl (b :: m)

theorem delP_len : ∀ (m gl : List Nat), (delP gl m).length = gl.length
  | [], _ => rfl
  | [_], _ => rfl
  | a :: b :: m, gl => by rw [delP, delP_len (b :: m), delE_len]

theorem setOf_cons (x : Nat) (l : List Nat) : setOf (x :: l) = setOf l ||| 2 ^ x := rfl

theorem fold_stepE {M : List Nat} : ∀ (m pre : List Nat) (g : List Nat) (t x : Nat), M = pre ++ x :: m →
    foldI (stepE M) m (pre.length + 1) (g, t) = (delP g (x :: m), t ||| setOf m) := by
  intro m
  induction m with
  | nil => intro pre g t x _; simp [foldI, delP, setOf]
  | cons y m ih =>
    intro pre g t x hM
    have hx : nb M (pre.length + 1 - 1) = x := by
      rw [hM, Nat.add_sub_cancel]; unfold nb
      rw [List.getD_eq_getElem?_getD, List.getElem?_append_right (Nat.le_refl _), Nat.sub_self]; rfl
    have h2 := ih (pre ++ [x]) (delE g x y) (t ||| 2 ^ y) y (by rw [hM]; simp)
    rw [List.length_append, List.length_singleton] at h2
    rw [foldI, stepE, if_pos (Nat.succ_pos _), hx, h2, delP, setOf_cons, Nat.or_assoc, Nat.or_comm (2 ^ y)]

theorem fold_ear {m gl : List Nat} {there : Nat} : foldI (stepE m) m 0 (gl, there) = (delP gl m, there ||| setOf m) := by
  cases m with
  | nil => simp [foldI, delP, setOf]
  | cons x m =>
    rw [foldI, stepE, if_neg (by omega)]
    have := fold_stepE (M := x :: m) m [] gl (there ||| 2 ^ x) x rfl
    rw [List.length_nil] at this
    rw [this, setOf_cons, Nat.or_assoc, Nat.or_comm (2 ^ x)]

theorem GrN.delE {g : List Nat} (hg : GrN g) {a b : Nat} (hab : adj g a b = true) : GrN (delE g a b) := by
  obtain ⟨ha, hb⟩ := hg.adj_lt hab
  have hne : a ≠ b := by rintro rfl; rw [hg.irr] at hab; cases hab
  refine ⟨hg.toGrB.delE a b, by rw [delE_len]; exact hg.pos, fun x => ?_, fun x y => ?_⟩
  · rw [adj_delE ha hb hne, hg.irr]; rfl
  · rw [adj_delE ha hb hne, adj_delE ha hb hne, hg.sym x y]
    congr 2
    rw [Bool.or_comm]
    congr 1 <;> exact decide_eq_decide.2 ⟨fun h => ⟨h.2, h.1⟩, fun h => ⟨h.2, h.1⟩⟩

theorem GrN.delP : ∀ (m : List Nat) {g : List Nat}, GrN g → Tra g m → GrN (delP g m)
  | [], _, hg, _ => hg
  | [_], _, hg, _ => hg
  | _ :: b :: m, _, hg, ht => GrN.delP (b :: m) (hg.delE ht.1) ht.2

theorem adj_delP : ∀ (m : List Nat) {g : List Nat}, GrN g → Tra g m → ∀ x y, adj (delP g m) x y = true ↔ adj g x y = true ∧ ¬ onP m x y
  | [], _, _, _ => fun x y => by simp [delP, onP]
  | [_], _, _, _ => fun x y => by simp [delP, onP]
  | a :: b :: m, g, hg, ht => fun x y => by
    obtain ⟨ha, hb⟩ := hg.adj_lt ht.1
    have hne : a ≠ b := by rintro rfl; have := ht.1; rw [hg.irr] at this; cases this
    rw [delP, adj_delP (b :: m) (hg.delE ht.1) ht.2, adj_delE ha hb hne, onP, Bool.and_eq_true, Bool.not_eq_true', Bool.or_eq_false_iff, decide_eq_false_iff_not, decide_eq_false_iff_not]
    constructor
    · rintro ⟨⟨h1, h2, h3⟩, h4⟩
      exact ⟨h1, fun h => h.elim h2 fun h => h.elim h3 h4⟩
    · rintro ⟨h1, h2⟩
      exact ⟨⟨h1, fun h => h2 (.inl h), fun h => h2 (.inr (.inl h))⟩, fun h => h2 (.inr (.inr h))⟩

theorem onP_mem : ∀ (m : List Nat) {x y : Nat}, onP m x y → x ∈ m ∧ y ∈ m
  | [], _, _ => fun h => h.elim
  | [_], _, _ => fun h => h.elim
  | a :: b :: m, x, y => fun h => by
    rcases h with ⟨rfl, rfl⟩ | ⟨rfl, rfl⟩ | h
    · simp
    · simp
    · obtain ⟨h1, h2⟩ := onP_mem (b :: m) h
      exact ⟨List.mem_cons_of_mem _ h1, List.mem_cons_of_mem _ h2⟩

/-- Edges that are told twice: once from each end. -/
def dsum (g : List Nat) : Nat := (g.map pop).sum

theorem sum_set : ∀ (l : List Nat) (i x : Nat), i < l.length → ((l.set i x).map pop).sum + pop (nb l i) = (l.map pop).sum + pop x
  | [], i, x => fun h => by simp at h
  | y :: l, 0, x => fun _ => by simp [nb]; omega
  | y :: l, i + 1, x => fun h => by
    have := sum_set l i x (by simpa using h)
    have e : nb (y :: l) (i + 1) = nb l i := rfl
    simp only [List.set_cons_succ, List.map_cons, List.sum_cons, e]
    omega

theorem pop_take {S b : Nat} (hS : S < 1024) (h : S.testBit b = true) : pop (without S (2 ^ b)) + 1 = pop S := by
  have hp : (elts S).filter (fun i => decide (i = b)) = [b] := by
    have hm : b ∈ elts S := (mem_elts hS).2 h
    have hnd := elts_nodup S
    generalize elts S = l at hm hnd
    induction l with
    | nil => cases hm
    | cons x l ih =>
      rw [List.nodup_cons] at hnd
      rw [List.mem_cons] at hm
      rw [List.filter_cons]
      by_cases hx : x = b
      · subst hx
        rw [if_pos (by simp)]
        congr 1
        rw [List.filter_eq_nil_iff]
        intro y hy
        simp only [decide_eq_true_eq]
        rintro rfl
        exact hnd.1 hy
      · rw [if_neg (by simpa using hx)]
        exact ih (hm.resolve_left fun e => hx e.symm) hnd.2
  have h1 : pop S = (elts S).countP (fun i => decide (i = b)) + (elts S).countP (fun i => !decide (i = b)) := by
    rw [← elts_len, List.length_eq_countP_add_countP (fun i => decide (i = b))]
    congr 1
    exact List.countP_congr fun i _ => by simp
  have h2 : pop (without S (2 ^ b)) = (elts S).countP (fun i => !decide (i = b)) := by
    unfold pop elts
    rw [List.countP_filter]
    refine List.countP_congr fun i _ => ?_
    rw [bit_del]
    simp [and_comm]
  rw [h1, h2, List.countP_eq_length_filter (p := fun i => decide (i = b)), hp]
  simp; omega

theorem dsum_delE {g : List Nat} (hg : GrN g) {a b : Nat} (hab : adj g a b = true) : dsum (delE g a b) + 2 = dsum g := by
  obtain ⟨ha, hb⟩ := hg.adj_lt hab
  have hne : a ≠ b := by rintro rfl; rw [hg.irr] at hab; cases hab
  have hpow := hg.pow
  have h1 := sum_set g a (without (nb g a) (2 ^ b)) ha
  have h2 := sum_set (g.set a (without (nb g a) (2 ^ b))) b (without (nb g b) (2 ^ a)) (by simpa using hb)
  have e : nb (g.set a (without (nb g a) (2 ^ b))) b = nb g b := by rw [nb_set ha, if_neg (fun e => hne e.symm)]
  have p1 := pop_take (S := nb g a) (b := b) (Nat.lt_of_lt_of_le (hg.nb_lt a) hpow) hab
  have p2 := pop_take (S := nb g b) (b := a) (Nat.lt_of_lt_of_le (hg.nb_lt b) hpow) (by have := hg.sym a b; rw [hab] at this; exact this.symm)
  rw [e] at h2
  unfold dsum AM.delE
  omega

theorem dsum_delP : ∀ (m : List Nat) {g : List Nat}, GrN g → Tra g m → m ≠ [] → dsum (delP g m) + 2 * (m.length - 1) = dsum g
  | [], _, _, _ => fun h => absurd rfl h
  | [_], _, _, _ => fun _ => by simp [delP]
  | a :: b :: m, g, hg, ht => fun _ => by
    have := dsum_delP (b :: m) (hg.delE ht.1) ht.2 (by simp)
    have h2 := dsum_delE hg ht.1
    rw [delP]
    simp only [List.length_cons] at this ⊢
    omega

theorem dsum_zero {g : List Nat} (hg : GrN g) : dsum g = 0 ↔ edgesP g = [] := by
  constructor
  · intro h
    rw [List.eq_nil_iff_forall_not_mem]
    intro e he
    obtain ⟨h1, h2, h3⟩ := mem_edges.1 he
    have := dsum_delE hg h3
    omega
  · intro h
    unfold dsum
    have hz : ∀ l : List Nat, (∀ x ∈ l, x = 0) → l.sum = 0 := by
      intro l
      induction l with
      | nil => intro _; rfl
      | cons y l ih => intro hl; rw [List.sum_cons, hl y List.mem_cons_self, ih fun x hx => hl x (List.mem_cons_of_mem _ hx)]
    refine hz _ fun x hx => ?_
    obtain ⟨y, hy, rfl⟩ := List.mem_map.1 hx
    obtain ⟨i, hi, rfl⟩ := List.mem_iff_getElem.1 hy
    refine Classical.byContradiction fun hc => ?_
    have hp : 0 < pop g[i] := Nat.pos_of_ne_zero hc
    obtain ⟨j, _, hj⟩ := List.countP_pos_iff.1 hp
    have hij : adj g i j = true := by
      unfold adj nb; rw [List.getD_eq_getElem?_getD, List.getElem?_eq_getElem hi]; exact hj
    obtain ⟨_, hjl⟩ := hg.adj_lt hij
    have hne : i ≠ j := by rintro rfl; rw [hg.irr] at hij; cases hij
    have : ∃ e, e ∈ edgesP g := by
      rcases Nat.lt_or_ge i j with h | h
      · exact ⟨(i, j), mem_edges.2 ⟨h, hjl, hij⟩⟩
      · exact ⟨(j, i), mem_edges.2 ⟨by omega, hi, by have := hg.sym i j; rw [hij] at this; exact this.symm⟩⟩
    obtain ⟨e, he⟩ := this
    rw [h] at he; cases he

/-- A walk without a node twice uses no edge twice. -/
theorem tr_of : ∀ (m : List Nat) {g : List Nat}, GrN g → Ch g m → m.Nodup → Tra g m
  | [], _, _, _ => fun _ => trivial
  | [_], _, _, _ => fun _ => trivial
  | a :: b :: m, g, hg, hc => fun hn => by
    refine ⟨hc.1, tr_of (b :: m) (hg.delE hc.1) ?_ (List.nodup_cons.1 hn).2⟩
    obtain ⟨ha, hb⟩ := hg.adj_lt hc.1
    have hne : a ≠ b := by rintro rfl; have := hc.1; rw [hg.irr] at this; cases this
    have : ∀ (l : List Nat), a ∉ l → Ch g l → Ch (delE g a b) l := by
      intro l
      induction l with
      | nil => intro _ _; trivial
      | cons x l ih =>
        intro hm hl
        cases l with
        | nil => trivial
        | cons y l =>
          refine ⟨?_, ih (fun h => hm (List.mem_cons_of_mem _ h)) hl.2⟩
          rw [adj_delE ha hb hne, hl.1, Bool.true_and, Bool.not_eq_true', Bool.or_eq_false_iff, decide_eq_false_iff_not, decide_eq_false_iff_not]
          exact ⟨fun e => hm (by rw [e.1]; exact List.mem_cons_self), fun e => hm (by rw [e.2]; simp)⟩
    exact this _ (List.nodup_cons.1 hn).1 hc.2

theorem Tra.ch : ∀ (m : List Nat) {g : List Nat}, GrN g → Tra g m → Ch g m
  | [], _, _, _ => trivial
  | [_], _, _, _ => trivial
  | a :: b :: m, g, hg, ht => by
    refine ⟨ht.1, ?_⟩
    have h1 := Tra.ch (b :: m) (hg.delE ht.1) ht.2
    obtain ⟨ha, hb⟩ := hg.adj_lt ht.1
    have hne : a ≠ b := by rintro rfl; have := ht.1; rw [hg.irr] at this; cases this
    have : ∀ (l : List Nat), Ch (delE g a b) l → Ch g l := by
      intro l
      induction l with
      | nil => intro _; trivial
      | cons x l ih =>
        intro hl
        cases l with
        | nil => trivial
        | cons y l =>
          refine ⟨?_, ih hl.2⟩
          have := hl.1
          rw [adj_delE ha hb hne, Bool.and_eq_true] at this
          exact this.1
    exact this _ h1

theorem ch_of {g : List Nat} : ∀ (m : List Nat), (∀ i, i + 1 < m.length → adj g (nb m i) (nb m (i + 1)) = true) → Ch g m
  | [], _ => trivial
  | [_], _ => trivial
  | a :: b :: m, h => ⟨h 0 (by simp), ch_of (b :: m) fun i hi => h (i + 1) (by simpa using hi)⟩

theorem ch_get {g : List Nat} : ∀ (m : List Nat), Ch g m → ∀ i, i + 1 < m.length → adj g (nb m i) (nb m (i + 1)) = true
  | [], _, i, hi => by simp at hi
  | [_], _, i, hi => by simp at hi
  | a :: b :: m, h, 0, _ => h.1
  | a :: b :: m, h, i + 1, hi => ch_get (b :: m) h.2 i (by simpa using hi)

theorem nb_rev {l : List Nat} {i : Nat} (hi : i < l.length) : nb l.reverse i = nb l (l.length - 1 - i) := by
  unfold nb
  rw [List.getD_eq_getElem?_getD, List.getD_eq_getElem?_getD, List.getElem?_reverse hi]

theorem WayB.ch {g : List Nat} {a W to : Nat} {l : List Nat} (w : WayB g a W to l) : Ch g l.reverse := by
  refine ch_of _ fun i hi => ?_
  rw [List.length_reverse] at hi
  rw [nb_rev (by omega), nb_rev hi]
  have := w.chain (l.length - 1 - (i + 1)) (by omega)
  rw [show l.length - 1 - (i + 1) + 1 = l.length - 1 - i by omega] at this
  exact this

end Go.AM

end

section

/- Ears, plainly: what a list of ears is, what it leaves, and that one more can be found. -/
namespace Go.AM
open Go.Proofs
/-- The first ear: a cycle. -/
structure Ear1 (g m : List Nat) : Prop where
  len : 4 ≤ m.length
  ends : m.head? = m.getLast?
  nodup : m.dropLast.Nodup
  tr : Tra g m
  lt : ∀ x ∈ m, x < g.length

/-- A further ear: from what is there, through what is not, to what is there. -/
structure Ear2 (n : Nat) (left : List Nat) (there : Nat) (m : List Nat) : Prop where
  len : 2 ≤ m.length
  nodup : m.Nodup
  tr : Tra left m
  bits : ∀ i, i < m.length → (there.testBit (nb m i) = true ↔ i = 0 ∨ i + 1 = m.length)
  lt : ∀ x ∈ m, x < n

/-- Ears, one after the other: the edges that they leave and the nodes that they have. -/
inductive EL (g : List Nat) : List (List Nat) → List Nat → Nat → Prop
  | first {m : List Nat} : Ear1 g m → EL g [m] (delP g m) (setOf m)
  | next {es : List (List Nat)} {left : List Nat} {there : Nat} {m : List Nat} : EL g es left there → Ear2 g.length left there m → EL g (es ++ [m]) (delP left m) (there ||| setOf m)

theorem pop_put {S x : Nat} (hS : S < 1024) (hx : x < 10) (h : S.testBit x = false) : pop (S ||| 2 ^ x) = pop S + 1 := by
  have h1 : S ||| 2 ^ x < 1024 := Nat.or_lt_two_pow (n := 10) hS (Nat.pow_lt_pow_right (by omega) hx)
  have h2 := pop_take (S := S ||| 2 ^ x) (b := x) h1 (by rw [Nat.testBit_or, Nat.testBit_two_pow_self, Bool.or_true])
  have h3 : without (S ||| 2 ^ x) (2 ^ x) = S := by
    refine Nat.eq_of_testBit_eq fun i => ?_
    rw [Bool.eq_iff_iff, bit_del, Nat.testBit_or, Nat.testBit_two_pow, Bool.or_eq_true, decide_eq_true_iff]
    constructor
    · rintro ⟨h1 | h1, h2⟩
      · exact h1
      · exact absurd h1.symm h2
    · intro h1
      exact ⟨.inl h1, fun e => by rw [e, h] at h1; cases h1⟩
  rw [h3] at h2
  exact h2.symm

theorem pop_orL {t : Nat} (ht : t < 1024) : ∀ m : List Nat, m.Nodup → (∀ x ∈ m, x < 10) → pop (t ||| setOf m) = pop t + m.countP fun v => !t.testBit v
  | [], _, _ => by simp [setOf]
  | x :: m, hn, hl => by
    rw [List.nodup_cons] at hn
    have ih := pop_orL ht m hn.2 fun y hy => hl y (List.mem_cons_of_mem _ hy)
    have hx := hl x List.mem_cons_self
    have hlt : t ||| setOf m < 1024 := Nat.or_lt_two_pow (n := 10) ht (setOf_lt fun y hy => hl y (List.mem_cons_of_mem _ hy))
    rw [setOf_cons, ← Nat.or_assoc, List.countP_cons]
    cases hb : t.testBit x with
    | true =>
      have : t ||| setOf m ||| 2 ^ x = t ||| setOf m := by
        refine Nat.eq_of_testBit_eq fun i => ?_
        rw [Nat.testBit_or, Nat.testBit_two_pow, Bool.eq_iff_iff, Bool.or_eq_true, decide_eq_true_iff]
        refine ⟨fun h => h.elim id ?_, .inl⟩
        rintro rfl
        rw [Nat.testBit_or, hb]; rfl
      rw [this, ih]; simp
    | false =>
      rw [pop_put hlt hx (by
        rw [Nat.testBit_or, hb, Bool.false_or]
        exact Bool.eq_false_iff.2 fun h => hn.1 (setOf_bit.1 h)), ih]
      simp; omega

theorem pop_setOf {m : List Nat} (hn : m.Nodup) (hl : ∀ x ∈ m, x < 10) : pop (setOf m) = m.length := by
  have := pop_orL (t := 0) (by omega) m hn hl
  rw [Nat.zero_or] at this
  rw [this]
  have h0 : pop 0 = 0 := by decide
  rw [h0, List.countP_eq_length.2 (by simp)]
  omega

theorem snoc_of {m : List Nat} (h : m ≠ []) : ∃ p z, m = p ++ [z] := ⟨m.dropLast, m.getLast h, (List.dropLast_concat_getLast h).symm⟩

theorem nb_snoc (p : List Nat) (z : Nat) : nb (p ++ [z]) p.length = z := by
  unfold nb; rw [List.getD_eq_getElem?_getD, List.getElem?_append_right (Nat.le_refl _), Nat.sub_self]; rfl

theorem nb_app {p q : List Nat} {i : Nat} (h : i < p.length) : nb (p ++ q) i = nb p i := by
  unfold nb; rw [List.getD_eq_getElem?_getD, List.getD_eq_getElem?_getD, List.getElem?_append_left h]

theorem nb_mem {m : List Nat} {i : Nat} (h : i < m.length) : nb m i ∈ m := by
  unfold nb; rw [List.getD_eq_getElem?_getD, List.getElem?_eq_getElem h]; exact List.getElem_mem h

theorem mem_nb {m : List Nat} {x : Nat} (h : x ∈ m) : ∃ i, i < m.length ∧ nb m i = x := by
  obtain ⟨i, hi, rfl⟩ := List.mem_iff_getElem.1 h
  exact ⟨i, hi, by unfold nb; rw [List.getD_eq_getElem?_getD, List.getElem?_eq_getElem hi]; rfl⟩

theorem nodup_rev {l : List Nat} : l.reverse.Nodup ↔ l.Nodup := (List.reverse_perm l).nodup_iff

/-- A further ear has its two ends among what is there, and no more. -/
theorem Ear2.count {n : Nat} {left : List Nat} {there : Nat} {m : List Nat} (e : Ear2 n left there m) : m.countP (fun v => !there.testBit v) + 2 = m.length := by
  have hl := e.len
  cases m with
  | nil => simp at hl
  | cons a m =>
    cases m with
    | nil => simp at hl
    | cons b m =>
      obtain ⟨p, z, hp⟩ := snoc_of (m := b :: m) (by simp)
      rw [hp] at e ⊢
      have ha := (e.bits 0 (by simp)).2 (.inl rfl)
      have hz := (e.bits (p.length + 1) (by simp)).2 (.inr (by simp))
      have ha' : there.testBit a = true := ha
      have hz' : there.testBit z = true := by
        have : nb (a :: (p ++ [z])) (p.length + 1) = nb (p ++ [z]) p.length := rfl
        rw [this, nb_snoc] at hz
        exact hz
      have hmid : p.countP (fun v => !there.testBit v) = p.length := by
        rw [List.countP_eq_length]
        intro x hx
        obtain ⟨i, hi, rfl⟩ := mem_nb hx
        have h1 := e.bits (i + 1) (by simp; omega)
        have : nb (a :: (p ++ [z])) (i + 1) = nb p i := nb_app hi
        rw [this] at h1
        rw [Bool.not_eq_true']
        exact Bool.eq_false_iff.2 fun h => by
          have := h1.1 h
          simp at this
          omega
      rw [List.countP_cons, List.countP_append, hmid, List.countP_cons, ha', hz']
      simp

structure EI (g : List Nat) (k : Nat) (left : List Nat) (there : Nat) : Prop where
  gr : GrN left
  len : left.length = g.length
  sub : ∀ x y, adj left x y = true → adj g x y = true
  used : ∀ x y, adj g x y = true → adj left x y = true ∨ (there.testBit x = true ∧ there.testBit y = true)
  tn : there < 2 ^ g.length
  two : 2 ≤ pop there
  sum : dsum left + 2 * (pop there + k) = dsum g + 2

theorem Ear1.snoc {g m : List Nat} (e : Ear1 g m) : ∃ a p, m = a :: (p ++ [a]) ∧ (a :: p).Nodup ∧ 2 ≤ p.length := by
  have hl := e.len
  have hh := e.ends
  have hn := e.nodup
  cases m with
  | nil => simp at hl
  | cons a m =>
    obtain ⟨p, z, rfl⟩ := snoc_of (m := m) (by rintro rfl; simp at hl)
    rw [List.head?_cons, ← List.cons_append, List.getLast?_concat, Option.some.injEq] at hh
    rw [← List.cons_append, List.dropLast_concat] at hn
    subst hh
    refine ⟨a, p, rfl, hn, ?_⟩
    simp at hl
    omega

theorem EL.inv {g : List Nat} (hg : GrN g) {es : List (List Nat)} {left : List Nat} {there : Nat} (h : EL g es left there) : EI g es.length left there := by
  have hpow := hg.pow
  have hlen := hg.len
  induction h with
  | @first m e =>
    obtain ⟨a, p, rfl, hn, hp⟩ := e.snoc
    have hset : setOf (a :: (p ++ [a])) = setOf (a :: p) := Nat.eq_of_testBit_eq fun i => by
      rw [Bool.eq_iff_iff, setOf_bit, setOf_bit]
      simp only [List.mem_cons, List.mem_append, List.not_mem_nil, or_false]
      exact ⟨fun h => h.elim .inl fun h => h.elim .inr .inl, fun h => h.elim .inl fun h => .inr (.inl h)⟩
    have hpop : pop (setOf (a :: (p ++ [a]))) = p.length + 1 := by
      rw [hset, pop_setOf hn fun x hx => Nat.lt_of_lt_of_le (e.lt x (by rw [← List.cons_append]; exact List.mem_append_left _ hx)) hlen]
      rfl
    have hd := dsum_delP _ hg e.tr (by simp)
    refine ⟨hg.delP _ e.tr, delP_len _ _, fun x y h => ((adj_delP _ hg e.tr x y).1 h).1, fun x y h => ?_, setOf_lt e.lt, by omega, ?_⟩
    · by_cases ho : onP (a :: (p ++ [a])) x y
      · obtain ⟨h1, h2⟩ := onP_mem _ ho
        exact .inr ⟨setOf_bit.2 h1, setOf_bit.2 h2⟩
      · exact .inl ((adj_delP _ hg e.tr x y).2 ⟨h, ho⟩)
    · rw [hpop]
      simp only [List.length_cons, List.length_append, List.length_nil] at hd ⊢
      omega
  | @next es left there m hEL e ih =>
    have hd := dsum_delP _ ih.gr e.tr (by have := e.len; rintro rfl; simp at this)
    have hc := e.count
    have hpop := pop_orL (t := there) (Nat.lt_of_lt_of_le ih.tn hpow) m e.nodup fun x hx => Nat.lt_of_lt_of_le (e.lt x hx) hlen
    refine ⟨ih.gr.delP _ e.tr, (delP_len _ _).trans ih.len, fun x y h => ih.sub x y ((adj_delP _ ih.gr e.tr x y).1 h).1, fun x y h => ?_, Nat.or_lt_two_pow ih.tn (setOf_lt e.lt), by have := ih.two; omega, ?_⟩
    · rcases ih.used x y h with h1 | ⟨h1, h2⟩
      · by_cases ho : onP m x y
        · obtain ⟨h1, h2⟩ := onP_mem _ ho
          exact .inr ⟨by rw [Nat.testBit_or, setOf_bit.2 h1, Bool.or_true], by rw [Nat.testBit_or, setOf_bit.2 h2, Bool.or_true]⟩
        · exact .inl ((adj_delP _ ih.gr e.tr x y).2 ⟨h1, ho⟩)
      · exact .inr ⟨by rw [Nat.testBit_or, h1]; rfl, by rw [Nat.testBit_or, h2]; rfl⟩
    · have := ih.sum
      have := e.len
      rw [List.length_append, List.length_singleton]
      omega

theorem bit_all {g : List Nat} {x : Nat} (h : x < g.length) : (allN g).testBit x = true := by rw [allN_bit, decide_eq_true h]

/-- Where an edge is left, one of them begins at a node that is there. -/
theorem EI.more {g : List Nat} (hg : GrN g) (hb : Bi g (allN g)) {k : Nat} {left : List Nat} {there : Nat} (e : EI g k left there) (hne : edgesP left ≠ []) : ∃ u, there.testBit u = true ∧ nb left u ≠ 0 := by
  have hpow := hg.pow
  have ht1024 := Nat.lt_of_lt_of_le e.tn hpow
  obtain ⟨q, hq⟩ : ∃ q, q ∈ edgesP left := List.exists_mem_of_ne_nil _ hne
  obtain ⟨h1, h2, h3⟩ := mem_edges.1 hq
  obtain ⟨v0, hv0, _⟩ := exists_other1 (a := 0) ht1024 (by have := e.two; omega)
  have hc1 : q.1 < g.length := by rw [← e.len]; omega
  have hr := hb.conn (Nat.lt_of_lt_of_le (allN_lt g) hpow) v0 q.1 (bit_all (bit_lt e.tn hv0)) (bit_all hc1)
  have hne0 : ∀ x y, adj left x y = true → nb left x ≠ 0 := fun x y h h0 => by unfold adj at h; rw [h0] at h; simp at h
  have : ∀ z, Rch g (allN g) v0 z → there.testBit z = true ∨ ∃ u, there.testBit u = true ∧ nb left u ≠ 0 := by
    intro z hz
    induction hz with
    | base => exact .inl hv0
    | @step a b _ hab _ ih =>
      rcases ih with ih | ih
      · rcases e.used a b hab with h | h
        · exact .inr ⟨a, ih, hne0 a b h⟩
        · exact .inl h.2
      · exact .inr ih
  rcases this _ hr with h | h
  · exact ⟨q.1, h, hne0 _ _ h3⟩
  · exact h

/-- Where no edge is left, all nodes are there. -/
theorem EI.done {g : List Nat} (hg : GrN g) (hb : Bi g (allN g)) {k : Nat} {left : List Nat} {there : Nat} (e : EI g k left there) (he : edgesP left = []) : there = allN g ∧ dsum g + 2 = 2 * (g.length + k) := by
  have hpow := hg.pow
  have ht1024 := Nat.lt_of_lt_of_le e.tn hpow
  have hd0 := (dsum_zero e.gr).2 he
  have hno : ∀ x y, adj left x y = false := by
    intro x y
    refine Bool.eq_false_iff.2 fun h => ?_
    have := dsum_delE e.gr h
    omega
  obtain ⟨v0, hv0, _⟩ := exists_other1 (a := 0) ht1024 (by have := e.two; omega)
  have : there = allN g := by
    refine set_ext e.tn (allN_lt g) fun i hi => ?_
    rw [bit_all hi]
    have hr := hb.conn (Nat.lt_of_lt_of_le (allN_lt g) hpow) v0 i (bit_all (bit_lt e.tn hv0)) (bit_all hi)
    induction hr with
    | base => exact hv0
    | @step a b _ hab _ ih =>
      rcases e.used a b hab with h | h
      · rw [hno] at h; cases h
      · exact h.2
  refine ⟨this, ?_⟩
  have h1 := e.sum
  rw [hd0, this, show pop (allN g) = g.length from (pop_all hg.len).1] at h1
  omega

/-- A way that was found makes an ear. -/
theorem EI.ear {g : List Nat} (hg : GrN g) {k : Nat} {left : List Nat} {there : Nat} (e : EI g k left there) {u w W to x : Nat} {l : List Nat} (hu : there.testBit u = true) (huw : adj left u w = true)
    (hto : ∀ i, to.testBit i = true ↔ there.testBit i = true ∧ i ≠ u) (hW : ∀ i, W.testBit i = true → i ≠ u) (way : WayB g w W to l) (hh : l.head? = some x) (hx : to.testBit x = true) : Ear2 g.length left there (u :: l.reverse) := by
  have hun := bit_lt e.tn hu
  have hne : l ≠ [] := by rintro rfl; simp at hh
  have hl0 : 0 < l.length := List.length_pos_iff.2 hne
  obtain ⟨y, l', rfl⟩ : ∃ y l', l = y :: l' := by
    cases l with
    | nil => exact absurd rfl hne
    | cons y l' => exact ⟨y, l', rfl⟩
  simp only [List.head?_cons, Option.some.injEq] at hh
  subst hh
  have huw' : u ≠ w := by rintro rfl; rw [e.gr.irr] at huw; cases huw
  have hlast := way.last
  have hul : u ∉ y :: l' := by
    intro hm
    obtain ⟨p, z, hp⟩ := snoc_of (m := y :: l') (by simp)
    rw [hp, List.getLast?_concat, Option.some.injEq] at hlast
    have hW' := way.inW
    rw [hp, List.dropLast_concat] at hW'
    rw [hp, List.mem_append, List.mem_singleton] at hm
    rcases hm with h | h
    · exact hW u (hW' u h) rfl
    · exact huw' (h.trans hlast)
  have hnb : ∀ i, i < (y :: l').length → nb (y :: l').reverse i = nb (y :: l') ((y :: l').length - 1 - i) := fun i hi => nb_rev hi
  have hbit : ∀ i, i < (y :: l').length → (there.testBit (nb (y :: l').reverse i) = true ↔ i + 1 = (y :: l').length) := by
    intro i hi
    rw [hnb i hi]
    simp only [List.length_cons] at hi ⊢
    constructor
    · intro hb
      refine Classical.byContradiction fun hc => ?_
      have hm : nb (y :: l') (l'.length + 1 - 1 - i) ∈ l' := by
        obtain ⟨j, hj⟩ : ∃ j, l'.length + 1 - 1 - i = j + 1 := ⟨l'.length - i - 1, by omega⟩
        rw [hj]
        exact nb_mem (m := l') (by omega)
      have h1 := way.noTo _ hm
      have h2 := (hto (nb (y :: l') (l'.length + 1 - 1 - i))).2 ⟨hb, fun e => hul (by rw [← e]; exact List.mem_cons_of_mem _ hm)⟩
      rw [h1] at h2; cases h2
    · intro hi2
      rw [show l'.length + 1 - 1 - i = 0 by omega]
      exact ((hto y).1 hx).1
  refine ⟨by simp, List.nodup_cons.2 ⟨by rw [List.mem_reverse]; exact hul, nodup_rev.2 way.nodup⟩, ?_, ?_, ?_⟩
  · refine tr_of _ e.gr (ch_of _ fun i hi => ?_) (List.nodup_cons.2 ⟨by rw [List.mem_reverse]; exact hul, nodup_rev.2 way.nodup⟩)
    cases i with
    | zero =>
      have : nb (u :: (y :: l').reverse) (0 + 1) = w := by
        have h1 : nb (u :: (y :: l').reverse) (0 + 1) = nb (y :: l').reverse 0 := rfl
        rw [h1]
        obtain ⟨p, z, hp⟩ := snoc_of (m := y :: l') (by simp)
        rw [hp, List.getLast?_concat, Option.some.injEq] at hlast
        rw [hp, List.reverse_append, hlast]; rfl
      rw [this]; exact huw
    | succ i =>
      have h1 : ∀ j, nb (u :: (y :: l').reverse) (j + 1) = nb (y :: l').reverse j := fun _ => rfl
      rw [h1, h1]
      simp only [List.length_cons, List.length_reverse] at hi
      have hadj := ch_get _ way.ch i (by rw [List.length_reverse, List.length_cons]; omega)
      rcases e.used _ _ hadj with h | ⟨h, _⟩
      · exact h
      · have := (hbit i (by rw [List.length_cons]; omega)).1 h
        rw [List.length_cons] at this
        omega
  · intro i hi
    cases i with
    | zero => exact ⟨fun _ => .inl rfl, fun _ => hu⟩
    | succ i =>
      have h1 : nb (u :: (y :: l').reverse) (i + 1) = nb (y :: l').reverse i := rfl
      simp only [List.length_cons, List.length_reverse] at hi
      rw [h1, hbit i (by rw [List.length_cons]; omega)]
      simp only [List.length_cons, List.length_reverse]
      omega
  · intro z hz
    rw [List.mem_cons, List.mem_reverse] at hz
    rcases hz with rfl | hz
    · exact hun
    · exact way.lt z hz

/-- There is a way for an ear. -/
theorem EI.way {g : List Nat} (hg : GrN g) (hb : Bi g (allN g)) {k : Nat} {left : List Nat} {there : Nat} (e : EI g k left there) {u w W to : Nat} (hu : there.testBit u = true) (huw : adj left u w = true)
    (hto : ∀ i, to.testBit i = true ↔ there.testBit i = true ∧ i ≠ u) (hW : ∀ i, i < g.length → i ≠ u → W.testBit i = true) : ∃ x, to.testBit x = true ∧ Rch g W w x := by
  have hpow := hg.pow
  have huw' : w ≠ u := by rintro rfl; rw [e.gr.irr] at huw; cases huw
  have hwn := (hg.adj_lt (e.sub _ _ huw)).2
  obtain ⟨x, hx, hxu⟩ := exists_other1 (a := u) (Nat.lt_of_lt_of_le e.tn hpow) (by have := e.two; omega)
  refine ⟨x, (hto x).2 ⟨hx, hxu⟩, (hb u w x (bit_del.2 ⟨bit_all hwn, huw'⟩) (bit_del.2 ⟨bit_all (bit_lt e.tn hx), hxu⟩)).mono fun i hi => ?_⟩
  have h := bit_del.1 hi
  exact hW i (bit_lt (allN_lt g) h.1) h.2

/-- The first edge is in a cycle. -/
theorem first_way {g : List Nat} (hg : GrN g) (hb : Bi g (allN g)) (h3 : 3 ≤ g.length) {a b : Nat} (hab : adj g a b = true) : Rch (delE g a b) (allN g) a b := by
  have hpow := hg.pow
  obtain ⟨ha, hbn⟩ := hg.adj_lt hab
  have hne : a ≠ b := by rintro rfl; rw [hg.irr] at hab; cases hab
  have hp : pop (allN g) = g.length := (pop_all hg.len).1
  obtain ⟨c, hc, hca, hcb⟩ := exists_other (a := a) (b := b) (Nat.lt_of_lt_of_le (allN_lt g) hpow) (by rw [hp]; omega)
  have hda := fun {x : Nat} => bit_del (S := allN g) (w := a) (i := x)
  have hw : ∀ z, without (allN g) (2 ^ z) < 2 ^ g.length := fun z => without_le _ _ (allN_lt g)
  have r1 := hb b a c (bit_del.2 ⟨bit_all ha, hne⟩) (bit_del.2 ⟨hc, hcb⟩)
  have r2 := hb a c b (bit_del.2 ⟨hc, hca⟩) (bit_del.2 ⟨bit_all hbn, fun e => hne e.symm⟩)
  have n1 : ∀ z, (without (allN g) (2 ^ z)).testBit z = false := fun z => Bool.eq_false_iff.2 fun h => (bit_del.1 h).2 rfl
  exact (r1.del hg hab (.inr (n1 b)) (bit_del.2 ⟨bit_all ha, hne⟩) (hw b)).trans (r2.del hg hab (.inl (n1 a)) (bit_del.2 ⟨hc, hca⟩) (hw a))

theorem first_ear {g : List Nat} (hg : GrN g) {a b W : Nat} {l : List Nat} (hab : adj g a b = true) (way : WayB (delE g a b) a W (2 ^ b) l) (hh : l.head? = some b) : Ear1 g (l.reverse ++ [a]) := by
  obtain ⟨ha, hbn⟩ := hg.adj_lt hab
  have hne : a ≠ b := by rintro rfl; rw [hg.irr] at hab; cases hab
  have hgd := hg.delE hab
  have hch := way.ch
  have hlast := way.last
  have hnod := way.nodup
  have hlt := way.lt
  rw [delE_len] at hlt
  -- the way's list, read forward
  obtain ⟨p, hp⟩ : ∃ p, l.reverse = p := ⟨_, rfl⟩
  have hl : l = p.reverse := by rw [← hp, List.reverse_reverse]
  subst hl
  rw [List.reverse_reverse] at hch ⊢
  rw [List.getLast?_reverse] at hlast
  rw [List.head?_reverse] at hh
  rw [nodup_rev] at hnod
  have hlt' : ∀ x ∈ p, x < g.length := fun x hx => hlt x (List.mem_reverse.2 hx)
  cases p with
  | nil => simp at hlast
  | cons a' p =>
    simp only [List.head?_cons, Option.some.injEq] at hlast
    subst hlast
    cases p with
    | nil =>
      simp at hh
      exact absurd hh hne
    | cons c p =>
      cases p with
      | nil =>
        simp at hh
        subst hh
        have := hch.1
        rw [adj_delE ha hbn hne] at this
        simp at this
      | cons d p =>
        refine ⟨by simp, ?_, ?_, ?_, ?_⟩
        · rw [List.getLast?_concat]; rfl
        · rw [List.dropLast_concat]; exact hnod
        · have hac := hch.1
          have hsub : ∀ x y, adj (delE g a' b) x y = true → adj g x y = true := fun x y h => by
            rw [adj_delE ha hbn hne, Bool.and_eq_true] at h; exact h.1
          have hac' := hsub _ _ hac
          obtain ⟨_, hcn⟩ := hg.adj_lt hac'
          have hnac : a' ≠ c := by rintro rfl; rw [hg.irr] at hac'; cases hac'
          refine ⟨hac', ?_⟩
          rw [List.nodup_cons] at hnod
          obtain ⟨q, z, hq⟩ := snoc_of (m := d :: p) (by simp)
          have hz : z = b := by
            rw [List.getLast?_cons_cons, List.getLast?_cons_cons, hq, List.getLast?_concat] at hh
            exact Option.some.inj hh
          have hm2 : (c :: d :: p) ++ [a'] = c :: ((d :: p) ++ [a']) := rfl
          have hna : a' ∉ c :: d :: p := hnod.1
          have hcb : c ≠ b := by
            rintro rfl
            have := (List.nodup_cons.1 hnod.2).1
            rw [hq, hz] at this
            simp at this
          show Tra (delE g a' c) ((c :: d :: p) ++ [a'])
          refine tr_of _ (hg.delE hac') (ch_of _ fun i hi => ?_) ?_
          · simp only [List.length_append, List.length_cons, List.length_nil] at hi
            rw [adj_delE ha hcn hnac, Bool.and_eq_true]
            by_cases hi2 : i + 1 < (c :: d :: p).length
            · rw [nb_app (by omega), nb_app hi2]
              have h1 := ch_get _ hch (i + 1) (by simp at hi2 ⊢; omega)
              have h2 : ∀ j, nb (a' :: c :: d :: p) (j + 1) = nb (c :: d :: p) j := fun _ => rfl
              rw [h2, h2] at h1
              refine ⟨hsub _ _ h1, ?_⟩
              have m1 := nb_mem (m := c :: d :: p) (i := i) (by omega)
              have m2 := nb_mem (m := c :: d :: p) (i := i + 1) hi2
              rw [Bool.not_eq_true', Bool.or_eq_false_iff, decide_eq_false_iff_not, decide_eq_false_iff_not]
              exact ⟨fun h => hna (h.1 ▸ m1), fun h => hna (h.2 ▸ m2)⟩
            · have hi3 : i + 1 = (c :: d :: p).length := by simp at hi2 ⊢; omega
              rw [hi3, nb_snoc, nb_app (by omega)]
              have hzi : nb (c :: d :: p) i = b := by
                have : c :: d :: p = (c :: q) ++ [z] := by rw [hq]; rfl
                rw [this] at hi3 ⊢
                rw [show i = (c :: q).length by simp at hi3 ⊢; omega, nb_snoc, hz]
              rw [hzi]
              have := hg.sym a' b
              rw [hab] at this
              refine ⟨this.symm, ?_⟩
              rw [Bool.not_eq_true', Bool.or_eq_false_iff, decide_eq_false_iff_not, decide_eq_false_iff_not]
              exact ⟨fun h => hne h.1.symm, fun h => hcb h.1.symm⟩
          · rw [List.nodup_append]
            refine ⟨hnod.2, by simp, fun x hx y hy => ?_⟩
            rw [List.mem_singleton] at hy
            rintro rfl
            rw [hy] at hx
            exact hna hx
        · intro x hx
          rw [List.mem_append, List.mem_singleton] at hx
          rcases hx with hx | rfl
          · exact hlt' x hx
          · exact ha

end Go.AM

end

section

/- Ears in a heap; one more ear is found and added. -/
namespace Go.AM
open Go.Proofs
variable {R : Type}
attribute [local simp] nx_eq nx_new nx_set blk_new blk_set asI_int asK_int asB_bool asP_ptr al_eq bx_eq len_slice onE_exit onE_ret onR_ret Value.cells cell_new cell_set rd_new rd_set off eq lt le ifB gv out ext20 ext21
theorem app102 : okApp Tryd.prog 102 3 1 = true := by kernel_rfl

theorem bls102 (z : Int) (h : H) : buildSlice Tryd.prog 102 1 [(0, .int .i64 z)] h = some (.slice (some ⟨h.nx, 0, none⟩) 1 1, h.new (.row [iv z] 3 true)) := by kernel_rfl

/-- Slices that hold ears. -/
def ES (h : H) (bth : Nat) (vs : List Value) (es : List (List Nat)) : Prop := vs.length = es.length ∧ ∀ (i : Nat) (x : Value) (m : List Nat), vs[i]? = some x → es[i]? = some m → SlR h 3 1 x (cellsN m) ∧ blkOf x ≠ some bth

theorem ES.keep {h h' : H} {bth : Nat} {vs : List Value} {es : List (List Nat)} (a : ES h bth vs es) (hn : h.nx ≤ h'.nx) (hb : ∀ b cs o, b < h.nx → b ≠ bth → h.blk b = some (.row cs 3 o) → h'.blk b = h.blk b) : ES h' bth vs es :=
  ⟨a.1, fun i x m hx hm => by
    obtain ⟨a1, a2⟩ := a.2 i x m hx hm
    refine ⟨a1.keepB hn fun b hbb => ?_, a2⟩
    obtain ⟨h1, cs, o, h2⟩ := a1.blkR hbb
    exact hb b cs o h1 (fun e => a2 (by rw [← e]; exact hbb)) h2⟩

theorem ES.snoc {h : H} {bth : Nat} {vs : List Value} {es : List (List Nat)} (a : ES h bth vs es) {x : Value} {m : List Nat} (hx : SlR h 3 1 x (cellsN m)) (hx2 : blkOf x ≠ some bth) : ES h bth (vs ++ [x]) (es ++ [m]) := by
  refine ⟨by simp [a.1], fun i y k hy hk => ?_⟩
  have h1 := a.1
  by_cases hi : i < vs.length
  · rw [List.getElem?_append_left hi] at hy
    rw [List.getElem?_append_left (by omega)] at hk
    exact a.2 i y k hy hk
  · have hi2 := (List.getElem?_eq_some_iff.1 hy).1
    simp at hi2
    have : i = vs.length := by omega
    subst this
    simp at hy
    rw [h1] at hk
    simp at hk
    subst hy hk
    exact ⟨hx, hx2⟩

structure EJ (n : Nat) (h : H) (bth blf bou : Nat) (es : List (List Nat)) (left : List Nat) (there : Nat) (g : H) : Prop where
  he : HE n left there bth blf g
  out : ∃ ov vs, g.blk bou = some (.row [ov] 56 true) ∧ AqR h.nx g 102 1 ov (cellsV vs) ∧ AllSl vs ∧ ES g bth vs es
  ext : Ext h g
  b1 : h.nx ≤ bth
  b2 : h.nx ≤ blf
  b3 : h.nx ≤ bou
  b4 : bou < g.nx

section
variable {n bth blf bou there : Nat} {h g g' : H} {es : List (List Nat)} {left : List Nat}
theorem EJ.grow (a : EJ n h bth blf bou es left there g) (x : Ext g g') : EJ n h bth blf bou es left there g' := by
  obtain ⟨ov, vs, o1, o2, o3, o4⟩ := a.out
  refine ⟨a.he.keep x.nx (x.blk _ a.he.l1) (x.blk _ a.he.l2) (fun b _ _ hb _ _ => x.blk b hb), ⟨ov, vs, (x.blk _ a.b4).trans o1, o2.ext x, o3, o4.keep x.nx fun b _ _ hb _ _ => x.blk b hb⟩, a.ext.trans x, a.b1, a.b2, a.b3, Nat.lt_of_lt_of_le a.b4 x.nx⟩

theorem EJ.add (a : EJ n h bth blf bou es left there g) {m : List Nat} {p} {q r : Nat} (hm : ∀ x ∈ m, x < n) (hne : ∀ i, i + 1 < m.length → nb m i ≠ nb m (i + 1)) (hml : m.length ≤ 100) (h0 : SlR g 3 1 (.slice p q r) (cellsN m)) (h0b : blkOf (.slice p q r) ≠ some bth) (hes : es.length ≤ 1000) :
    ∃ g', rn 86 #[.slice p q r, pt bth 0, pt blf 0, pt bou 0] g = some (undef, g') ∧ EJ n h bth blf bou (es ++ [m]) (delP left m) (there ||| setOf m) g' := by
  obtain ⟨ov, vs, o1, o2, o3, o4⟩ := a.out
  obtain ⟨g', ov', e86, he, w1, w2, n1, k1⟩ := s86 hm hne hml h0 h0b a.he o1 a.b4 o2 a.ext.nx (by have := o4.1; omega)
  rw [fold_ear] at he
  have hb1 := a.b1
  have hb2 := a.b2
  have hb3 := a.b3
  obtain ⟨lv, l1, _⟩ := a.he.lf
  have hk : ∀ b cs o, b < g.nx → b ≠ bth → g.blk b = some (.row cs 3 o) → g'.blk b = g.blk b := fun b cs o hb hbt hr => by
    refine k1 b hb hbt ?_ ?_ ?_
    · rintro rfl; rw [l1] at hr; exact absurd (row_ty hr) (by decide)
    · rintro rfl; rw [o1] at hr; exact absurd (row_ty hr) (by decide)
    · intro e
      have := (o2.blkOf e).2.2
      rw [hr] at this; exact absurd (row_ty this) (by decide)
  refine ⟨g', e86, he, ⟨ov', vs ++ [.slice p q r], w1, w2, ?_, (o4.keep n1 hk).snoc (h0.keepB n1 fun b hb => ?_) h0b⟩, ⟨by have := a.ext.nx; omega, fun b hb => ?_⟩, hb1, hb2, hb3, by have := a.b4; omega⟩
  · intro x hx
    rw [List.mem_append, List.mem_singleton] at hx
    rcases hx with hx | rfl
    · exact o3 x hx
    · exact ⟨_, _, _, rfl⟩
  · obtain ⟨z1, cs, o, z2⟩ := h0.blkR hb
    exact hk b cs o z1 (fun e => h0b (by rw [← e]; exact hb)) z2
  · have := a.ext.nx
    rw [k1 b (by omega) (by omega) (by omega) (by omega) (fun e => by have := (o2.blkOf e).1; omega)]
    exact a.ext.blk b hb

end
theorem tra_ne {g : List Nat} (hg : GrN g) {m : List Nat} (h : Tra g m) : ∀ i, i + 1 < m.length → nb m i ≠ nb m (i + 1) := fun i hi e => by
  have := ch_get m (h.ch m hg) i hi
  rw [e, hg.irr] at this; cases this

set_option maxHeartbeats 1000000 in
theorem s42_l2 {G : List Nat} {tv v21 : Value} {h h3 h5 h7 g : H} {es : List (List Nat)} {left : List Nat} {there k : Nat} {ws0 : List Value} (hG : GrN G) (hbi : Bi G (allN G)) (hs : SlR h 3 1 tv (cellsN G)) (hEL : EL G es left there) (hes : es.length ≤ 1000) (hne : edgesP left ≠ [])
    (hJ : EJ G.length h h5.nx h3.nx h7.nx es left there g) (h21 : SlR g 3 1 v21 (cellsN (elts there))) (hk : 20 ≤ k) (hws : ws0 = [iv 0]) :
    ∃ w g', lpGo (f42_l2 rn k tv h3 h5 h7 v21 ((elts there).length : Int)) k ws0 g = some (.exit 2, w, g') ∧ ∃ m, Ear2 G.length left there m ∧ EJ G.length h h5.nx h3.nx h7.nx (es ++ [m]) (delP left m) (there ||| setOf m) g' := by
  subst hws
  have hlen := hG.len
  have hpow := hG.pow
  have hI := hEL.inv hG
  have ht1024 := Nat.lt_of_lt_of_le hI.tn hpow
  have hell : (elts there).length ≤ 10 := by unfold elts; exact Nat.le_trans (List.length_filter_le ..) (by simp)
  have hleft := hI.len
  obtain ⟨lv, l1, l2, l3⟩ := hJ.he.lf
  have hth := hJ.he.th
  have hsg := hs.ext hJ.ext
  obtain ⟨e, ws', g', hlp, rfl, m, hm1, hm2⟩ := lp_range (F := f42_l2 rn k tv h3 h5 h7 v21 ((elts there).length : Int)) (k := k) (n := (elts there).length)
    (fun i ws g' => g' = g ∧ ws = [iv i] ∧ ∀ j, j < i → nb left (nb (elts there) j) = 0)
    (fun e ws g' => e = .exit 2 ∧ ∃ m, Ear2 G.length left there m ∧ EJ G.length h h5.nx h3.nx h7.nx (es ++ [m]) (delP left m) (there ||| setOf m) g')
    (by
      rintro i ws g' hi ⟨rfl, rfl, hz⟩
      obtain ⟨u, hud⟩ : ∃ u, nb (elts there) i = u := ⟨_, rfl⟩
      have hum : u ∈ elts there := hud ▸ nb_mem hi
      have hut := (mem_elts ht1024).1 hum
      have hun := bit_lt hI.tn hut
      have hadd : add .i64 (i : Int) 1 = ((i + 1 : Nat) : Int) := by rw [add64 (by omega) (by omega)]; omega
      have e1 : ∀ (K : Value → Option (Ex × List Value × H)), (six v21 (i : Int) 1 fun b o => ld Tryd.prog g' 3 b o K) = K (iv (u : Nat)) := fun K => by
        simp only [d3]; rw [getN h21 hi, hud]
      have e2 : ∀ (K : Value → Option (Ex × List Value × H)), (six lv (u : Int) 1 fun b o => ld Tryd.prog g' 3 b o K) = K (iv (nb left u : Nat)) := fun K => by
        simp only [d3]; rw [getN l2 (by omega)]
      have hx1024 := Nat.lt_of_lt_of_le (hI.gr.nb_lt u) hI.gr.pow
      have start : ∀ r, (ifB (AM.eq (nb left u : Int) 0) (AM.out .normal [iv ((i + 1 : Nat) : Int)] g') (
          calls rn g' 89 [(.int .u64 (wr .u64 (nb left u : Nat)))] fun v27 h22 =>
          asI .i64 v27 fun n13 =>
          ld Tryd.prog h22 3 (nx h5) 0 fun v28 =>
          asI .i64 v28 fun n14 =>
          nn (u : Int) (
            calls rn h22 65 [tv] fun v29 h23 =>
            asI .i64 v29 fun n15 =>
            ck (freq (nx h5) (nx h22) (same h23 h22)) (
              ld Tryd.prog h23 3 (nx h5) 0 fun v30 =>
              asI .i64 v30 fun n16 =>
              ck (freq (nx h5) (nx h22) (same h23 h22)) (
                calls rn h23 88 [tv, (.int .i64 n13), (.int .i64 (AM.andNot .i64 n14 (AM.shl .i64 1 (u : Int)))), (.int .i64 (AM.andNot .i64 n15 n16))] fun v31 h24 =>
                bls Tryd.prog h24 102 1 [(0, (.int .i64 (u : Int)))] fun v32 h25 =>
                ck (freq (nx h5) (nx h24) (same h25 h24)) (
                  ck (freq (nx h5) (nx h24) (same h25 h24)) (
                    app Tryd.prog h25 102 22 v32 v31 fun v33 h26 =>
                    calls rn h26 86 [v33, (pt (nx h5) 0), (pt (nx h3) 0), (pt (nx h7) 0)] fun _ h27 =>
                    AM.out (.exit 2) [iv i] h27))))))) = r → f42_l2 rn k tv h3 h5 h7 v21 ((elts there).length : Int) [iv i] g' = r := by
        intro r hr
        unfold f42_l2
        rw [show AM.gv [iv i] 0 = iv i from rfl, asI_int, lt_t (by omega), ifB_true, asK_int, e1, asI_int]
        simp only [d78, nx_eq, cell_of l1]
        rw [show ([lv] : List Value)[0]? = some lv from rfl]
        simp only [Option.bind_some]
        rw [e2, asI_int, asI_int, hadd, e2, asI_int]
        exact hr
      by_cases hz0 : nb left u = 0
      · refine ⟨.normal, [iv ((i + 1 : Nat) : Int)], g', start _ ?_, .inl ⟨rfl, rfl, rfl, fun j hj => ?_⟩⟩
        · rw [hz0]; rfl
        · by_cases hji : j = i
          · rw [hji, hud]; exact hz0
          · exact hz j (by omega)
      · have hpos := Nat.pos_of_ne_zero hz0
        have hwb := low_bit hpos hx1024
        obtain ⟨w, hwd⟩ : ∃ w, low (nb left u) = w := ⟨_, rfl⟩
        rw [hwd] at hwb
        have huw : adj left u w = true := hwb
        have hwn := (hG.adj_lt (hI.sub _ _ huw)).2
        have e89 := s89 hpos hx1024 g'
        rw [hwd] at e89
        have hsh : AM.andNot .i64 (there : Int) (AM.shl .i64 1 (u : Int)) = ((without there (2 ^ u) : Nat) : Int) := by
          have h2u : (2 : Nat) ^ u < 1024 := Nat.pow_lt_pow_right (n := 10) (by omega) (by omega)
          rw [shl1_nat (by omega), andNot_nat (by omega) (by omega)]
        have hal := Nat.lt_of_lt_of_le (allN_lt G) hpow
        have han : AM.andNot .i64 (allN G : Int) (there : Int) = ((without (allN G) there : Nat) : Int) := andNot_nat (by omega) (by omega)
        obtain ⟨v31, g2, e88, x88', hor⟩ := s88 (to := without there (2 ^ u)) (thr := without (allN G) there) hG.toGrB hsg hwn (without_le _ _ hI.tn) (without_le _ _ (allN_lt G))
        have hto : ∀ i, (without there (2 ^ u)).testBit i = true ↔ there.testBit i = true ∧ i ≠ u := fun i => bit_del
        have hWb : ∀ i, (without (allN G) there ||| without there (2 ^ u)).testBit i = true ↔ i < G.length ∧ i ≠ u := fun i => by
          rw [Nat.testBit_or, Bool.or_eq_true, testBit_without, Bool.and_eq_true, Bool.not_eq_true', bit_del, allN_bit, decide_eq_true_iff]
          constructor
          · rintro (⟨h1, h2⟩ | ⟨h1, h2⟩)
            · exact ⟨h1, fun e => by rw [e, hut] at h2; cases h2⟩
            · exact ⟨bit_lt hI.tn h1, h2⟩
          · rintro ⟨h1, h2⟩
            cases hb : there.testBit i with
            | false => exact .inl ⟨h1, rfl⟩
            | true => exact .inr ⟨rfl, h2⟩
        rcases hor with ⟨l, x, way, hhd, hx, a31⟩ | ⟨_, hno⟩
        · have ear := hI.ear hG hut huw hto (fun i hi => ((hWb i).1 hi).2) way hhd hx
          obtain ⟨g3, hg3⟩ : ∃ g3, g3 = g2.new (.row [iv u] 3 true) := ⟨_, rfl⟩
          have x3 : Exw g2 g3 := by rw [hg3]; exact Exw.new _ _
          have n3 : g3.nx = g2.nx + 1 := by rw [hg3]; rfl
          have n2 := x88'.nx
          have hl1 := hJ.he.l1
          have hl2 := hJ.he.l2
          have hl4 := hJ.b4
          have hlit : AqR g2.nx g3 3 1 (.slice (some ⟨g2.nx, 0, none⟩) 1 1) (cellsN [u]) := by
            rw [hg3]
            exact AqR.lit (l := [[iv (u : Int)]]) (Nat.le_refl _) rfl (by simp) (by simp)
          have hll := nodes_le ear.nodup ear.lt
          rw [List.length_cons, List.length_reverse] at hll
          obtain ⟨v33, g4, ea, a4, n4, k4, _⟩ := hlit.app (y := v31) (ys := cellsN l.reverse) (P := Tryd.prog) (t := 102) (t' := 22) app102 app22 (a31.slR.ext x3.toExt) (cellsN_scal _) (by simp; omega) (by omega)
          have hcat : cellsN [u] ++ cellsN l.reverse = cellsN (u :: l.reverse) := rfl
          rw [hcat] at a4
          have x4 : Ext g' g4 := ⟨by omega, fun b hb => by
            rw [k4 b (by omega) (fun e => by cases e; omega), x3.blk b (by omega)]
            exact x88'.blk b hb⟩
          have hJ4 := hJ.grow x4
          obtain ⟨p, q, r, rfl⟩ := a4.isSl
          obtain ⟨g5, e86, hJ5⟩ := hJ4.add (m := u :: l.reverse) ear.lt (tra_ne hI.gr ear.tr) (by simp; omega) a4.slR (fun e => by have := (a4.blkOf e).1; omega) hes
          refine ⟨.exit 2, [iv i], g5, start _ ?_, .inr ⟨by simp, rfl, _, ear, hJ5⟩⟩
          rw [show AM.eq (nb left u : Int) 0 = false by simp [AM.eq]; omega, ifB_false, wr64u hx1024, calls_eq (xs := [.int .u64 (nb left u : Nat)]) e89, asI_int]
          simp only [d3, nx_eq, cell_of hth]
          rw [show ([iv (there : Int)] : List Value)[0]? = some (iv there) from rfl]
          simp only [Option.bind_some]
          rw [asI_int, nn_ge (show (0 : Int) ≤ (u : Int) by omega), calls_eq (xs := [tv]) (s65 hG.toGrB hsg), asI_int]
          simp only [freq, same_self, decide_eq_true hl1, Bool.and_self, ck_true, cell_of hth]
          rw [show ([iv (there : Int)] : List Value)[0]? = some (iv there) from rfl]
          simp only [Option.bind_some, asI_int]
          rw [hsh, han, calls_eq (xs := [tv, iv w, iv ((without there (2 ^ u) : Nat) : Int), iv ((without (allN G) there : Nat) : Int)]) e88, bls_some (bls102 (u : Int) g2), ← hg3,
            show same g3 g2 = true by simp [same, x3.wr], decide_eq_true (show h5.nx < g2.nx by omega), Bool.and_self, ck_true, ck_true, ea, calls_eq (xs := [.slice p q r, pt h5.nx 0, pt h3.nx 0, pt h7.nx 0]) e86]
          rfl
        · obtain ⟨x, hx, hr⟩ := hI.way hG hbi hut huw hto (fun i h1 h2 => (hWb i).2 ⟨h1, h2⟩)
          exact absurd hr (hno x hx))
    (by
      rintro ws g' ⟨_, _, hz⟩
      obtain ⟨u, hu, hnz⟩ := hI.more hG hbi hne
      obtain ⟨j, hj, rfl⟩ := mem_nb ((mem_elts ht1024).2 hu)
      exact absurd (hz j hj) hnz)
    (ws := [iv 0]) (h := g) (by omega) ⟨rfl, rfl, fun j hj => by omega⟩
  exact ⟨ws', g', hlp, m, hm1, hm2⟩

end Go.AM

end

section

/- Ears: the program's search, whole. -/
namespace Go.AM
open Go.Proofs
variable {R : Type}
attribute [local simp] nx_eq nx_new nx_set blk_new blk_set asI_int asK_int asB_bool asP_ptr al_eq bx_eq len_slice onE_exit onE_ret onR_ret Value.cells cell_new cell_set rd_new rd_set off eq lt le ifB gv out ext20 ext21
theorem pop_le10 (x : Nat) : pop x ≤ 10 := by unfold pop; exact Nat.le_trans List.countP_le_length (by simp)

theorem dsum_le : ∀ g : List Nat, dsum g ≤ 10 * g.length
  | [] => by simp [dsum]
  | x :: g => by
    have := dsum_le g
    have h2 := pop_le10 x
    unfold dsum at this ⊢
    rw [List.map_cons, List.sum_cons, List.length_cons]
    omega

set_option maxHeartbeats 1000000 in
theorem s42_l1 {G : List Nat} {tv : Value} {h h3 h5 h7 g : H} {es : List (List Nat)} {left : List Nat} {there : Nat} (hG : GrN G) (hbi : Bi G (allN G)) (hs : SlR h 3 1 tv (cellsN G)) (hEL : EL G es left there)
    (hJ : EJ G.length h h5.nx h3.nx h7.nx es left there g) :
    ∃ w g', lpGo (f42_l1 rn 600 tv h3 h5 h7) 600 [] g = some (.exit 0, w, g') ∧ ∃ es' left', EL G es' left' (allN G) ∧ edgesP left' = [] ∧ EJ G.length h h5.nx h3.nx h7.nx es' left' (allN G) g' := by
  have hlen := hG.len
  have hpow := hG.pow
  have hdG := dsum_le G
  obtain ⟨e, w, g', hlp, rfl, es', left', q⟩ := lpGo_inv (F := f42_l1 rn 600 tv h3 h5 h7)
    (fun d _ g => ∃ es left there, d = dsum left ∧ EL G es left there ∧ EJ G.length h h5.nx h3.nx h7.nx es left there g)
    (fun e _ g' => e = .exit 0 ∧ ∃ es' left', EL G es' left' (allN G) ∧ edgesP left' = [] ∧ EJ G.length h h5.nx h3.nx h7.nx es' left' (allN G) g')
    (by
      rintro d ws g ⟨es, left, there, rfl, hEL, hJ⟩
      have hI := hEL.inv hG
      have ht1024 := Nat.lt_of_lt_of_le hI.tn hpow
      have hsum := hI.sum
      obtain ⟨lv, l1, l2, l3⟩ := hJ.he.lf
      obtain ⟨v19, g1, e77, x1, a19⟩ := s77 hI.gr.toGrB l2
      have hJ1 := hJ.grow x1.toExt
      have hn19 : ∀ {T : Type} (K : Int → Option T), len v19 K = K ((edgesP left).length : Int) := fun K => by rw [a19.slR.len]; simp
      have hth1 := hJ1.he.th
      by_cases hne : edgesP left = []
      · obtain ⟨hta, _⟩ := hI.done hG hbi hne
        subst hta
        refine ⟨.exit 0, [], g1, ?_, .inr ⟨by simp, rfl, es, left, hEL, hne, hJ1⟩⟩
        unfold f42_l1
        simp only [d78, nx_eq, cell_of l1]
        rw [show ([lv] : List Value)[0]? = some lv from rfl]
        simp only [Option.bind_some]
        rw [calls_eq (xs := [lv]) e77, hn19, hne]
        rfl
      · have hpos : 0 < (edgesP left).length := List.length_pos_iff.2 hne
        obtain ⟨v21, g2, e76, x2, a21⟩ := s76A ht1024 g1
        have hJ2 := hJ1.grow x2.toExt
        have hn21 : ∀ {T : Type} (K : Int → Option T), len v21 K = K ((elts there).length : Int) := fun K => by rw [a21.slR.len]; simp
        obtain ⟨w, g3, e3, m, ear, hJ3⟩ := s42_l2 (k := 600) (ws0 := [iv 0]) hG hbi hs hEL (by omega) hne hJ2 a21.slR (by omega) rfl
        have hel : 2 ≤ m.length := ear.len
        have hdd := dsum_delP m hI.gr ear.tr (by rintro rfl; simp at hel)
        refine ⟨.normal, [], g3, ?_, .inl ⟨rfl, dsum (delP left m), by omega, es ++ [m], _, _, rfl, .next hEL ear, hJ3⟩⟩
        unfold f42_l1
        simp only [d78, nx_eq, cell_of l1]
        rw [show ([lv] : List Value)[0]? = some lv from rfl]
        simp only [Option.bind_some]
        rw [calls_eq (xs := [lv]) e77, hn19, lt_t (by omega), ifB_true]
        simp only [d3, cell_of hth1]
        rw [show ([iv (there : Int)] : List Value)[0]? = some (iv there) from rfl]
        simp only [Option.bind_some]
        rw [asI_int, calls_eq (xs := [iv there]) e76, hn21]
        refine (lp_eq e3).trans ?_
        rw [onE_exit, if_pos rfl]
        rfl)
    (dsum left) 600 (by
      have := hEL.inv hG
      have := this.sum
      have := (hEL.inv hG).two
      omega) (ws := []) (h := g) ⟨es, left, there, rfl, hEL, hJ⟩
  exact ⟨w, g', hlp, es', left', q⟩

theorem s42_bad {v : Value} {l : List Int} {h : H} (hval : validG l = false) (hs : SlR h 3 1 v (cellsI l)) : rn 42 #[v] h = some (.tuple #[.slice none 0 0, iv 2], h) := by
  have c63 := fun (K : Value → H → Option (Value × H)) => calls_eq (K := K) (xs := [v]) (s63 hs)
  rw [hval] at c63
  refine y42 (k := 0) ?_
  unfold f42
  rw [c63]
  rfl

theorem s42_single {v : Value} {g : List Nat} {h : H} (hg : GrN g) (hval : validG (g.map Int.ofNat) = true) (hs : SlR h 3 1 v (cellsN g)) (hd : doubleP g = false) : rn 42 #[v] h = some (.tuple #[.slice none 0 0, iv 5], h) := by
  have c63 := fun (K : Value → H → Option (Value × H)) => calls_eq (K := K) (xs := [v]) (s63 (l := g.map Int.ofNat) (h := h) (by rw [cellsN_eq]; exact hs))
  rw [if_pos hval] at c63
  refine y42 (k := 0) ?_
  unfold f42
  rw [c63, ext20, ext21, asB_bool, show (!true) = false from rfl, ifB_false, calls_eq (xs := [v]) (s81 hg hs), asB_bool, hd]
  rfl

set_option maxHeartbeats 2000000 in
theorem s42 {v : Value} {G : List Nat} {h : H} (hG : GrN G) (hval : validG (G.map Int.ofNat) = true) (hs : SlR h 3 1 v (cellsN G)) (hd : doubleP G = true) :
    ∃ v' h' vs es left, rn 42 #[v] h = some (.tuple #[v', iv 0], h') ∧ Exw h h' ∧ EL G es left (allN G) ∧ edgesP left = [] ∧ SlR h' 102 1 v' (cellsV vs) ∧ AllSl vs ∧ vs.length = es.length ∧
      ∀ (i : Nat) (x : Value) (m : List Nat), vs[i]? = some x → es[i]? = some m → SlR h' 3 1 x (cellsN m) := by
  have hlen := hG.len
  have hpow := hG.pow
  have hbi := double_bi hG hd
  have h3le : 3 ≤ G.length := by
    unfold doubleP at hd
    simp only [Bool.and_eq_true, decide_eq_true_eq] at hd
    exact hd.1.1
  have hG0 : G ≠ [] := by rintro rfl; simp at h3le
  have c63 := fun (K : Value → H → Option (Value × H)) => calls_eq (K := K) (xs := [v]) (s63 (l := G.map Int.ofNat) (h := h) (by rw [cellsN_eq]; exact hs))
  rw [if_pos hval] at c63
  have c81 := fun (K : Value → H → Option (Value × H)) => calls_eq (K := K) (xs := [v]) (s81 hG hs)
  rw [hd] at c81
  refine s85 hG.toGrB hG0 hs fun v5 h3 bb e85 x3 hbb hia => ?_
  obtain ⟨c5, hv5, _⟩ := hia.val
  have hbl := hia.lt
  obtain ⟨h4, hh4⟩ : ∃ h4, h4 = h3.new (.row [.slice none 0 0] 78 true) := ⟨_, rfl⟩
  obtain ⟨h5, hh5⟩ : ∃ h5, h5 = h4.set h3.nx (.row [v5] 78 true) := ⟨_, rfl⟩
  obtain ⟨h6, hh6⟩ : ∃ h6, h6 = h5.new (.row [iv 0] 3 true) := ⟨_, rfl⟩
  obtain ⟨h7, hh7⟩ : ∃ h7, h7 = h6.set h5.nx (.row [iv 0] 3 true) := ⟨_, rfl⟩
  obtain ⟨h8, hh8⟩ : ∃ h8, h8 = h7.new (.row [.slice none 0 0] 56 true) := ⟨_, rfl⟩
  have n4 : h4.nx = h3.nx + 1 := by rw [hh4]; rfl
  have n5 : h5.nx = h3.nx + 1 := by rw [hh5, nx_set, n4]
  have n6 : h6.nx = h3.nx + 2 := by rw [hh6, nx_new, n5]
  have n7 : h7.nx = h3.nx + 2 := by rw [hh7, nx_set, n6]
  have n8 : h8.nx = h3.nx + 3 := by rw [hh8, nx_new, n7]
  have n3 := x3.nx
  have x5 : Ext h3 h5 := by rw [hh5, hh4]; exact ((Ext.refl h3).new' _).set (Nat.le_refl _) _
  have x7 : Ext h5 h7 := by rw [hh7, hh6]; exact ((Ext.refl h5).new' _).set (Nat.le_refl _) _
  have x8 : Ext h7 h8 := by rw [hh8]; exact Ext.new _ _
  have w4 : ∀ (K : H → Option (Value × H)), (wrc 1 h4 h3.nx 0 v5).bind K = K h5 := fun K => by
    rw [hh5, hh4, hv5]; unfold wrc; rw [blk_new_self]; rfl
  have w6 : ∀ (K : H → Option (Value × H)), (wrc 1 h6 h5.nx 0 (.int .i64 0)).bind K = K h7 := fun K => by
    rw [hh7, hh6]; unfold wrc; rw [blk_new_self]; rfl
  have b3 : h5.blk h3.nx = some (.row [v5] 78 true) := by rw [hh5]; exact blk_set_self _ _ _
  have b5 : h7.blk h5.nx = some (.row [iv 0] 3 true) := by rw [hh7]; exact blk_set_self _ _ _
  have b7 : h8.blk h7.nx = some (.row [.slice none 0 0] 56 true) := by rw [hh8]; exact blk_new_self _ _
  have xh8 : Ext h3 h8 := x5.trans (x7.trans x8)
  have hbv : ∀ b, blkOf v5 = some b → b = bb := fun b hb => by rw [hv5] at hb; cases hb; rfl
  have hJ8 : EJ G.length h h5.nx h3.nx h7.nx [] G 0 h8 := by
    refine ⟨⟨(x8.blk _ (by omega)).trans b5, ⟨v5, ((x7.trans x8).blk _ (by omega)).trans b3, hia.slN.ext xh8, fun e => by have := hbv _ e; omega⟩, hG.toGrB, rfl, Nat.two_pow_pos _, by omega, by omega⟩,
      ⟨.slice none 0 0, [], b7, .nil, (fun x hx => by cases hx), ⟨rfl, fun i x m hx => by simp at hx⟩⟩, x3.toExt.trans xh8, by omega, by omega, by omega, by omega⟩
  obtain ⟨v6, h9, e77, x9, a6⟩ := s77 hG.toGrB (hs.ext (x3.toExt.trans xh8))
  -- the first edge
  obtain ⟨q, E, hE⟩ : ∃ q E, edgesP G = q :: E := by
    cases hq : edgesP G with
    | nil =>
      exfalso
      have hc := hbi.conn (Nat.lt_of_lt_of_le (allN_lt G) hpow) 0 1 (bit_all (by omega)) (bit_all (by omega))
      obtain ⟨u, hu, _⟩ := hc.next (by omega)
      have := (dsum_zero hG).2 hq
      have := dsum_delE hG hu
      omega
    | cons q E => exact ⟨q, E, rfl⟩
  obtain ⟨a, b⟩ := q
  obtain ⟨hab, hbn, hadj⟩ := mem_edges.1 (show (a, b) ∈ edgesP G by rw [hE]; exact List.mem_cons_self)
  simp only at hab hbn hadj
  obtain ⟨h11, hh11⟩ : ∃ h11, h11 = (h9.new (.row [.int .i64 0, .int .i64 0] 32 true)).set h9.nx (.row [iv a, iv b] 32 true) := ⟨_, rfl⟩
  have b11 : h11.blk h9.nx = some (.row [iv a, iv b] 32 true) := by rw [hh11]; exact blk_set_self _ _ _
  have n11 : h11.nx = h9.nx + 1 := by rw [hh11]; rfl
  have x11 : Ext h9 h11 := by rw [hh11]; exact ((Ext.refl h9).new' _).set (Nat.le_refl _) _
  have xh11 : Ext h h11 := (x3.toExt.trans xh8).trans (x9.toExt.trans x11)
  obtain ⟨v9, h12, e87, x12, bb2, hbb2, hia2⟩ := s87 (a := a) (b := b) hG.toGrB (by omega) hbn (by omega) (hs.ext xh11)
  have xh12 : Ext h h12 := xh11.trans x12.toExt
  have b12 : h12.blk h9.nx = some (.row [iv a, iv b] 32 true) := (x12.blk _ (by omega)).trans b11
  have hgd := hG.delE hadj
  have hdl : (delE G a b).length = G.length := delE_len G a b
  have h2b : 2 ^ b < 2 ^ G.length := Nat.pow_lt_pow_right (by omega) hbn
  have hallE : allN (delE G a b) = allN G := allN_delE G a b
  obtain ⟨v13, h14, e88, x14, hor⟩ := s88 (a := a) (to := 2 ^ b) (thr := allN G) hgd.toGrB hia2.slN (by omega) (by rw [hdl]; exact h2b) (by rw [hdl]; exact allN_lt G)
  have hmono : ∀ i, (allN G).testBit i = true → (allN G ||| 2 ^ b).testBit i = true := fun i hi => by rw [Nat.testBit_or, hi]; rfl
  rcases hor with ⟨l, x, way, hhd, hx, a13⟩ | ⟨_, hno⟩
  · have hxb : x = b := by rw [Nat.testBit_two_pow, decide_eq_true_iff] at hx; exact hx.symm
    subst hxb
    have ear := first_ear hG hadj way hhd
    obtain ⟨h15, hh15⟩ : ∃ h15, h15 = h14.new (.row [iv a] 3 true) := ⟨_, rfl⟩
    have x15 : Exw h14 h15 := by rw [hh15]; exact Exw.new _ _
    have n15 : h15.nx = h14.nx + 1 := by rw [hh15]; rfl
    have n12 := x12.nx
    have n14 := x14.nx
    have n9 := x9.nx
    have hlit : AqR h14.nx h15 3 1 (.slice (some ⟨h14.nx, 0, none⟩) 1 1) (cellsN [a]) := by
      rw [hh15]
      exact AqR.lit (l := [[iv (a : Int)]]) (Nat.le_refl _) rfl (by simp) (by simp)
    have hll := nodes_le way.nodup way.lt
    obtain ⟨v16, h16, ea, a16, n16, k16, _⟩ := (a13.ext x15.toExt).app (y := .slice (some ⟨h14.nx, 0, none⟩) 1 1) (ys := cellsN [a]) (P := Tryd.prog) (t := 102) (t' := 102) app102 app102 hlit.slR (cellsN_scal _) (by simp; omega) (by omega)
    have hcat : cellsN l.reverse ++ cellsN [a] = cellsN (l.reverse ++ [a]) := by simp
    rw [hcat] at a16
    have x16 : Ext h8 h16 := ⟨by omega, fun y hy => by
      rw [k16 y (by omega) (fun e => by have := (a13.blkOf e).1; omega), x15.blk y (by omega), x14.blk y (by omega), x12.blk y (by omega), x11.blk y (by omega)]
      exact x9.blk y hy⟩
    have hJ16 := hJ8.grow x16
    obtain ⟨p, qq, r, rfl⟩ := a16.isSl
    obtain ⟨h17, e86, hJ17⟩ := hJ16.add (m := l.reverse ++ [a]) ear.lt (tra_ne hG ear.tr) (by simp; omega) a16.slR (fun e => by have := (a16.blkOf e).1; omega) (by simp)
    rw [List.nil_append, Nat.zero_or] at hJ17
    obtain ⟨w, h29, el1, es, left, hEL, hle, hJ29⟩ := s42_l1 (h3 := h3) (h5 := h5) (h7 := h7) hG hbi hs (.first ear) hJ17
    obtain ⟨ov, vs, o1, o2, o3, o4⟩ := hJ29.out
    have e1 : ∀ (K : Value → Option (Value × H)), (six v6 0 2 fun b o => ld Tryd.prog h9 32 b o K) = K (.agg #[iv a, iv x]) := fun K =>
      a6.slR.ldA ag32 sz32 (by omega) (x := [iv a, iv x]) (by simp [hE]) K
    have w10 : ∀ (K : H → Option (Value × H)), (wrc 2 (h9.new (.row [.int .i64 0, .int .i64 0] 32 true)) h9.nx 0 (.agg #[iv a, iv x])).bind K = K h11 := fun K => by
      rw [hh11]; unfold wrc; rw [blk_new_self]; rfl
    have hsame1 : same h12 h11 = true := by simp [same, x12.wr]
    have hsame2 : same h14 h12 = true := by simp [same, x14.wr]
    have hsame3 : same h15 h14 = true := by simp [same, x15.wr]
    have b14 : h14.blk h9.nx = some (.row [iv a, iv x] 32 true) := (x14.blk _ (by omega)).trans b12
    have hshl : AM.shl .i64 1 (x : Int) = ((2 ^ x : Nat) : Int) := shl1_nat (by omega)
    have f1 : freq h9.nx h11.nx (same h12 h11) = true := by simp [freq, hsame1]; omega
    have f2 : freq h9.nx h12.nx (same h12 h12) = true := by simp [freq, same_self]; omega
    have f3 : freq h9.nx h12.nx (same h14 h12) = true := by simp [freq, hsame2]; omega
    have f4 : freq h9.nx h14.nx (same h15 h14) = true := by simp [freq, hsame3]; omega
    have e42 : f42 rn 600 v h = some (.tuple #[ov, iv 0], h29) := by
      unfold f42
      rw [c63, ext20, ext21, asB_bool, show (!true) = false from rfl, ifB_false, c81, asB_bool, show (!true) = false from rfl, ifB_false, calls_eq (xs := [v]) e85, al_eq, ← hh4, w78, nx_eq, w4, al_eq, ← hh6, w3, nx_eq, w6, al_eq, ← hh8, calls_eq (xs := [v]) e77, e1, al_eq, w32, nx_eq, w10]
      simp only [aix_in (show (0 : Int) ≤ 0 by omega) (show (0 : Int) < ((2 : Nat) : Int) by omega), aix_in (show (0 : Int) ≤ 1 by omega) (show (1 : Int) < ((2 : Nat) : Int) by omega), d32, d3, at_, show h11.rd h9.nx 0 2 = some [iv (a : Int), iv (x : Int)] from rd_all b11 rfl, Option.bind_some]
      rw [show (Value.agg [iv (a : Int), iv (x : Int)].toArray) = .agg #[iv a, iv x] from rfl, calls_eq (xs := [v, .agg #[iv a, iv x]]) e87]
      simp only [cell_of b12, cell_of b14]
      rw [show ([iv (a : Int), iv (x : Int)] : List Value)[0 + (0 : Int).toNat * 1]? = some (iv a) from rfl, show ([iv (a : Int), iv (x : Int)] : List Value)[0 + (1 : Int).toNat * 1]? = some (iv x) from rfl]
      simp only [nx_eq, Option.bind_some, asI_int, f1, ck_true]
      rw [nn_ge (show (0 : Int) ≤ (x : Int) by omega), calls_eq (xs := [v]) (s65 hG.toGrB (hs.ext xh12)), asI_int]
      simp only [nx_eq, f2, ck_true]
      rw [hshl, calls_eq (xs := [v9, iv a, iv ((2 ^ x : Nat) : Int), iv (allN G : Nat)]) e88]
      simp only [cell_of b14]
      rw [show ([iv (a : Int), iv (x : Int)] : List Value)[0 + (0 : Int).toNat * 1]? = some (iv a) from rfl]
      simp only [nx_eq, Option.bind_some, asI_int, f1, f2, f3, ck_true]
      rw [bls_some (bls102 (a : Int) h14), ← hh15]
      simp only [nx_eq, f4, ck_true]
      rw [ea, calls_eq (xs := [.slice p qq r, pt h5.nx 0, pt h3.nx 0, pt h7.nx 0]) e86]
      rw [lp_eq el1]
      rw [onE_exit, if_pos rfl]
      simp only [d56, nx_eq, cell_of o1]
      rfl
    obtain ⟨h30, e30, m30, w30⟩ := x42 e42 o2.slR.notR2
    exact ⟨ov, h30, vs, es, left, e30, w30 hJ29.ext, hEL, hle, o2.slR.ext m30.ext, o3, o4.1, fun i y m hy hm => (o4.2 i y m hy hm).1.ext m30.ext⟩
  · have hw := first_way hG hbi h3le hadj
    exact absurd (hw.mono hmono) (hno b (by rw [Nat.testBit_two_pow, decide_eq_true rfl]))

end Go.AM

end

section

/- EarsCounted: as many ears as edges, less the nodes, and 1. -/
namespace Go.AM
open Go.Proofs
variable {R : Type}
attribute [local simp] nx_eq nx_new nx_set blk_new blk_set asI_int asK_int asB_bool asP_ptr al_eq bx_eq len_slice onE_exit onE_ret onR_ret Value.cells cell_new cell_set rd_new rd_set off eq lt le ifB gv out ext20 ext21
theorem s8_l {tv : Value} {G : List Nat} {h : H} (hG : GrN G) (hs : SlR h 3 1 tv (cellsN G)) :
    ∃ w, lpGo (f8_l1 rn 200 tv G.length) 200 [iv 0, iv 0] h = some (.exit 0, [iv (dsum G : Nat), w], h) := by
  have hlen := hG.len
  obtain ⟨ws', h', hl, rfl, rfl, _⟩ := lp_for (F := f8_l1 rn 200 tv G.length) (k := 200) (l := G) (fun _ x (s : Nat) => s + pop x)
    (fun i s ws g => g = h ∧ ws = [iv s, iv i] ∧ s ≤ 10 * i) 0 (ws := [iv 0, iv 0]) (h := h) (s0 := 0)
    ⟨rfl, rfl, by omega⟩ (by omega)
    (by
      rintro s ws g ⟨rfl, rfl, _⟩
      simp [f8_l1])
    (by
      rintro i x s ws g hx ⟨rfl, rfl, hsl⟩
      have hi := (List.getElem?_eq_some_iff.1 hx).1
      have hx1024 : x < 1024 := Nat.lt_of_lt_of_le (hG.lt x (List.mem_of_getElem? hx)) hG.pow
      have hp := pop_le10 x
      have hadd : add .i64 (i : Int) 1 = ((i + 1 : Nat) : Int) := by rw [add64 (by omega) (by omega)]; omega
      have hadd2 : add .i64 (s : Int) (pop x : Nat) = ((s + pop x : Nat) : Int) := by rw [add64 (by omega) (by omega)]; omega
      have e1 : ∀ (K : Value → Option (Ex × List Value × H)), (six tv (i : Int) 1 fun b o => ld Tryd.prog g 3 b o K) = K (iv (x : Nat)) := fun K =>
        hs.ld0 ag3 (by omega) (x := [iv (x : Int)]) (by simp [hx]) rfl K
      refine ⟨[iv ((s + pop x : Nat) : Int), iv ((i + 1 : Nat) : Int)], g, ?_, rfl, rfl, by omega⟩
      unfold f8_l1
      rw [show AM.gv [iv s, iv i] 1 = iv i from rfl, show AM.gv [iv s, iv i] 0 = iv s from rfl, asI_int, lt_t (by omega), ifB_true, asK_int, e1, asI_int, calls_eq (xs := [iv (x : Nat)]) (s43 hx1024 g), asI_int, asI_int, asI_int, hadd, hadd2]
      rfl)
  rw [hl, foldI_sum, Nat.zero_add]
  exact ⟨_, rfl⟩

theorem s8 (hawake : ∀ h, rn 20 #[] h = some (.bool true, h)) {h : H} {v : Value} {l : List Int} (hs : SlR h 3 1 v (cellsI l)) : ∃ h', rn 8 #[v] h = some (.bool true, h') := by
  have c20 := fun (g : H) (K : Value → H → Option (Value × H)) => calls_eq (K := K) (xs := []) (hawake g)
  obtain ⟨v1, h1, e18, x1, hs1⟩ := s18 hs
  by_cases hval : validG l = true
  · obtain ⟨G, rfl, hG⟩ := valid_nat hval
    have hlen := hG.len
    have htk : (G.map Int.ofNat).take 14 = G.map Int.ofNat := List.take_of_length_le (by simp; omega)
    rw [htk, cellsN_eq] at hs1
    have hsN := hs
    rw [cellsN_eq] at hsN
    cases hd : doubleP G with
    | false =>
      refine ⟨_, t8 (k := 0) (v := .bool true) (h1 := h1) ?_⟩
      unfold f8
      rw [calls_eq (xs := [v]) e18, calls_eq (xs := [v1]) (s42_single hG hval hs1 hd), ext20, ext21, asI_int]
      rw [show (!(AM.eq (5 : Int) 0)) = true from rfl, ifB_true, show AM.eq (5 : Int) 2 = false from rfl, ifB_false, show AM.eq (5 : Int) 5 = true from rfl, ifB_true, c20]
      rfl
    | true =>
      obtain ⟨v3, h2, vs, es, left, e42, x2, hEL, hle, a3, _, hvl, _⟩ := s42 hG hval hs1 hd
      have hI := hEL.inv hG
      obtain ⟨_, hsum⟩ := hI.done hG (double_bi hG hd) hle
      obtain ⟨w, hl⟩ := s8_l hG (hsN.ext (x1.tr x2).toExt)
      have hn : ∀ {T : Type} (K : Int → Option T), len v K = K (G.length : Int) := fun K => by rw [hsN.len]; simp
      have hn3 : ∀ {T : Type} (K : Int → Option T), len v3 K = K (es.length : Int) := fun K => by rw [a3.len]; simp [hvl]
      have hdG := dsum_le G
      have hq : quo .i64 (dsum G : Int) 2 = ((G.length + es.length - 1 : Nat) : Int) := by
        rw [quo2 (by omega)]
        congr 1
        omega
      have hsub : AM.sub .i64 ((G.length + es.length - 1 : Nat) : Int) (G.length : Int) = (es.length : Int) - 1 := by rw [sub64 (by omega) (by omega)]; omega
      have hadd : add .i64 ((es.length : Int) - 1) 1 = (es.length : Int) := by rw [add64 (by omega) (by omega)]; omega
      refine ⟨_, t8 (k := 200) (v := .bool true) (h1 := h2) ?_⟩
      unfold f8
      rw [calls_eq (xs := [v]) e18, calls_eq (xs := [v1]) e42, ext20, ext21, asI_int]
      rw [show (!(AM.eq (0 : Int) 0)) = false from rfl, ifB_false, hn]
      refine (lp_eq hl).trans ?_
      rw [onE_exit, if_pos rfl, hn3, show AM.gv [iv (dsum G : Nat), w] 0 = iv (dsum G : Nat) from rfl, asI_int, nz_ne (by omega), hn, hq, hsub, hadd, show AM.eq (es.length : Int) (es.length : Int) = true by simp [AM.eq], ifB_true, c20]
      rfl
  · have hv' : validG l = false := by simpa using hval
    have hv14 : validG (l.take 14) = false := by rw [validG_take]; exact hv'
    refine ⟨_, t8 (k := 0) (v := .bool true) (h1 := h1) ?_⟩
    unfold f8
    rw [calls_eq (xs := [v]) e18, calls_eq (xs := [v1]) (s42_bad hv14 hs1), ext20, ext21, asI_int]
    rw [show (!(AM.eq (2 : Int) 0)) = true from rfl, ifB_true, show AM.eq (2 : Int) 2 = true from rfl, ifB_true, c20]
    rfl

end Go.AM

end

section

/- It is awake: by the kernel's own run. -/
namespace Go.AM
open Go.Proofs
noncomputable def awakeOk : Bool := match call Tryd.prog E0 60 20 #[] ⟨fun _ => none, 0, 0⟩ with
  | some (.bool b, _) => b
  | _ => false

theorem awake_run : awakeOk = true := by decide +kernel

theorem s20 (h : H) : rn 20 #[] h = some (.bool true, h) := by
  have ht := awake_run
  unfold awakeOk at ht
  split at ht
  · rename_i b h' hc
    subst ht
    exact run_iso (n := 59) (by rfl) (iso_any (by rfl) hc)
  · cases ht

end Go.AM

end

section

/- Slices of numbers that a statement is handed, in the abstract heap. -/
namespace Go.AM
open Go.Proofs Go.ChangeShapes
variable {HH : Type} {enc : TypeId × Value → HH} {w : World} {base : Nat} {held : Bool}
theorem flat3 (n : Nat) (cs : List Value) (x : DataW HH × List MemPlace) (h : DataW.trod enc Tryd.prog w base (fun _ => true) held n 3 cs = some x) : ∃ z : Int, cs = [iv z] := by
  obtain ⟨z, h1, _⟩ := DataW.trod_int (show Tryd.prog.underlying 3 = some (.int .i64) from by kernel_rfl) h
  exact ⟨z, h1⟩

theorem cellsOf3 : Tryd.prog.cellsOf 3 = 1 := by kernel_rfl

theorem bytes3 : Tryd.prog.bytesOf 3 = 8 := by kernel_rfl

theorem ints_of : ∀ (l : List (List Value)), (∀ x ∈ l, ∃ z : Int, x = [iv z]) → ∃ l' : List Int, l = l'.map fun z => [iv z] := by
  intro l
  induction l with
  | nil => intro _; exact ⟨[], rfl⟩
  | cons x l ih =>
    intro h
    obtain ⟨c, hc⟩ := h x (by simp)
    obtain ⟨l', hl⟩ := ih (fun y hy => h y (List.mem_cons_of_mem _ hy))
    exact ⟨c :: l', by rw [hc, hl]; rfl⟩

set_option maxRecDepth 100000 in
/-- A graph that came in. -/
theorem open_graph {rr : Reach} {b0 : Nat} {v : Value} {d : DataW HH} {ps : List MemPlace} (hv : Value.okWide Tryd.prog w rr b0 23 v) (hwt : ∀ x ∈ d.weights Tryd.prog 23, x ≤ reachBytes)
    (hd : DataW.Trod enc Tryd.prog w base (fun _ => true) held 23 v d ps) {ι : Nat → Emb} {h : H} (r : Rel Tryd.prog E0 ι h w) (hro : ∀ b k, h.blk b = some k → k.own = false) :
    ∃ (v0 : Value) (ι' : Nat → Emb) (h' : H) (l : List Int), Rel Tryd.prog E0 ι' h' w ∧ (∀ b k, h'.blk b = some k → k.own = false) ∧ Ext h h' ∧ (∀ b, b < h.nx → ι' b = ι b) ∧
      VR ι' h'.nx v0 v ∧ SlR h' 3 1 v0 (l.map fun z => [iv z]) := by
  have hu : Tryd.prog.underlying 23 = some (.slice 3) := by kernel_rfl
  simp only [Value.okWide, hu] at hv
  have hy : ∃ a len cap, v = .slice a len cap := by
    simp only [Cell.okWide, hu] at hv
    cases v <;> simp_all [Cell.ok]
  obtain ⟨a, len, cap, rfl⟩ := hy
  obtain ⟨ι', h', v0, l, g1, g2, g3, g4, g5, g6, g7⟩ := open_flat r hro hu sz3 cellsOf3 (by decide) (Q := fun x => ∃ z : Int, x = [iv z]) flat3 (by
    rintro cs ⟨c, rfl⟩
    exact ⟨rfl, fun v hv => by simp at hv; subst hv; exact ⟨_, _, rfl⟩⟩) (by rw [bytes3]; exact Nat.succ_pos _) hwt (okWide_has hu hv) hd
  obtain ⟨l', rfl⟩ := ints_of l g7
  exact ⟨v0, ι', h', l', g1, g2, g3, g4, g5, g6⟩

/-! ### Streets and numbers that came in -/
/-! ### The table -/
open Go.Proofs.YtakhklelgcfgjaaDoor
theorem glTab : Tryd.prog.globalNamed "math/bits.deBruijn64tab" = some 1 := by kernel_rfl

theorem tyTab : (Tryd.prog.globals[1]?).map (·.type) = some 136 := by kernel_rfl

theorem under136 : Tryd.prog.underlying 136 = some (.array 64 5) := by kernel_rfl

theorem under5 : Tryd.prog.underlying 5 = some (.int .u8) := by kernel_rfl

theorem cellsOf5 : Tryd.prog.cellsOf 5 = 1 := by kernel_rfl

/-- What the rows say of the package-level variables. -/
def laidT : List (String × DataW Unit) := [("math/bits.deBruijn32tab", Rows.laid_math_bits_deBruijn32tab), ("math/bits.deBruijn64tab", Rows.laid_math_bits_deBruijn64tab)]

theorem laid64_eq : (Rows.laid_math_bits_deBruijn64tab : DataW Unit) = .agg (tab64.map fun n => .lit (.int .u8 n)) := by kernel_rfl

theorem tab_len : tab64.length = 64 := by decide

set_option maxRecDepth 100000 in
/-- What the condition gives: each cell of the table. -/
theorem of_laid {W : World} (h : laidMetH Tryd.prog laidT W) (i : Nat) (z : Int) (hz : tab64[i]? = some z) : W.cell? ⟨1, i, none⟩ = some (.int .u8 z) := by
  rw [MakeChecks.laidMetH_plain _ _ _ (by kernel_rfl)] at h
  obtain ⟨ps, ⟨g0, t0, cs0, f0, p0, q0, hg0, ht0, hv0, hd0, ⟨g1, t1, cs1, f1, p1, q1, hg1, ht1, hv1, hd1, _, _⟩, _⟩, _, _⟩ := h
  obtain rfl := Option.some.inj (glTab.symm.trans hg1)
  obtain rfl := Option.some.inj (tyTab.symm.trans ht1)
  obtain ⟨xs, m1, rfl, hx1, hlen, hn3, hel⟩ := DataW.trod_array under136 hd1
  have hi : i < 64 := by rw [← tab_len]; exact (List.getElem?_eq_some_iff.1 hz).1
  have h0 := hel i hi
  rw [cellsOf5, Nat.mul_one] at h0
  have hxi : xs[i]? = some xs[i] := List.getElem?_eq_getElem (by omega)
  rw [hxi] at h0
  obtain ⟨k, e1, e2, _⟩ := DataW.trod_int under5 h0
  have hx2 : DataW.agg (tab64.map fun n => DataW.lit (.int .u8 n)) = DataW.agg (xs.map (·.1)) := by
    rw [← laid64_eq]
    exact congrArg Prod.fst hx1
  have hx3 : (tab64.map fun n => (DataW.lit (.int .u8 n) : DataW Unit)) = xs.map (·.1) := by
    exact DataW.agg.inj hx2
  have hx4 := congrArg (·[i]?) hx3
  simp only [List.getElem?_map, hz, hxi, Option.map_some, Option.some.injEq] at hx4
  rw [e2] at hx4
  have hk : z = k := by
    have h5 : (DataW.lit (Lit.int .u8 z) : DataW Unit) = DataW.lit (Lit.int .u8 k) := hx4
    exact (Lit.int.inj (DataW.lit.inj h5)).2
  subst hk
  rw [World.var?_cell hg1 hv1 i]
  have hcl : cs1.toList[i]? = some (.int .u8 z) := by
    have := congrArg (·[0]?) e1
    simpa [List.getElem?_take, List.getElem?_drop] using this
  simpa using hcl

/-- The beginning: the table alone. -/
def hTab : H := ⟨fun b => if b = 1 then some (.row (tab64.map fun n => .int .u8 n) 5 false) else none, 2, 0⟩

def ιTab : Nat → Emb := fun g => ⟨g, 0, 64, 1⟩

set_option maxRecDepth 100000 in
theorem rel_tab {W : World} (h : laidMetH Tryd.prog laidT W) : Rel Tryd.prog E0 ιTab hTab W := by
  have hc := of_laid h
  have h0 := hc 0 0 (by decide)
  have hsz : 1 < W.heap.size := by
    unfold World.cell? at h0
    split at h0
    · rename_i hb
      rcases Nat.lt_or_ge 1 W.heap.size with h1 | h1
      · exact h1
      · rw [Array.getElem?_eq_none h1] at hb; cases hb
    · cases h0
  have hrow : ∀ n, BlkR Tryd.prog ιTab n W 1 (.row (tab64.map fun n => .int .u8 n) 5 false) := by
    intro n
    refine ⟨hsz, sz5, fun i v hv => ?_⟩
    rw [List.getElem?_map] at hv
    obtain ⟨z, hz, rfl⟩ := Option.map_eq_some_iff.1 hv
    refine ⟨.int .u8 z, ?_, .int .u8 z⟩
    have := hc i z hz
    simpa [ιTab] using this
  refine ⟨fun b k hb => ?_, fun b k hb => ?_, fun b b' k k' hb _ _ ho => ?_, Nat.le_refl _, fun g _ => ⟨rfl, rfl⟩, fun g hg => ?_, fun g k hg hk => ?_⟩
  · simp only [hTab] at hb ⊢
    split at hb
    · omega
    · cases hb
  · simp only [hTab] at hb
    split at hb
    · rename_i h1
      subst h1
      cases hb
      exact hrow _
    · cases hb
  · simp only [hTab] at hb
    split at hb
    · cases hb; cases ho
    · cases hb
  · simp only [hTab, E0]
  · simp only [E0] at hk
    split at hk
    · rename_i h1
      subst h1
      cases hk
      exact ⟨rfl, hrow _⟩
    · cases hk

theorem ro_tab : ∀ b k, hTab.blk b = some k → k.own = false := by
  intro b k hb
  simp only [hTab] at hb
  split at hb
  · cases hb; rfl
  · cases hb

end Go.AM

end
