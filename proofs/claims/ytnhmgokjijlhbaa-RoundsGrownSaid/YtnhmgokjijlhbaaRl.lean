/- The machine: who comes before each state, how many states come, and the queue. -/
/- The machine: its loops over all states, and over the queue. -/
/- The machine: the queue, and what the machine is in the end. -/
import Derived.Test.YtnhmgokjijlhbaaRk
import Derived.Test.YtnhmgokjijlhbaaLf
import Derived.Test.YtnhmgokjijlhbaaAmQue

namespace Go.AM
open Go.Proofs Go.Lives

variable {R : Type}

attribute [local simp] nx_eq nx_new nx_set blk_new blk_set asI_int asK_int asB_bool asP_ptr al_eq bx_eq len_slice onE_exit onE_ret onR_ret Value.cells d3 d22 d31 d60 w60 w3 w22 cell_new cell_set rd_new rd_set off eq lt le ifB gv out eqF1 eqF2 eqF3 eqF4 eqF5 eqF6 eqF7 eqF8 ext20 ext21

theorem mapr_set {α : Type} (f : Nat → α) (D t : Nat) (x : α) : ((List.range D).map f).set t x = (List.range D).map fun j => if j = t then x else f j := by
  apply List.ext_getElem
  · simp
  · intro j h1 h2
    simp only [List.getElem_set, List.getElem_map, List.getElem_range]
    by_cases h : t = j
    · rw [if_pos h, if_pos h.symm]
    · rw [if_neg h, if_neg (Ne.symm h)]

theorem mapr_get {α : Type} (f : Nat → α) {D t : Nat} (h : t < D) : ((List.range D).map f)[t]? = some (f t) := by
  rw [List.getElem?_map, List.getElem?_range h]; rfl

/-- The state of the machine while it is made. -/
structure MS (h16 : H) (m D b1 b2 b3 lo : Nat) (v0 av v15 v16 v18 : Value) (bad : Nat → Prop) (vs : List Value) (g : H) (bef : Nat → List Nat) (opn life : Nat → Int) : Prop where
  ord : m < b1 ∧ b1 < b2 ∧ b2 < b3 ∧ b3 < lo
  nx : lo ≤ g.nx
  fr : ∀ b, b < b1 → b ≠ m → g.blk b = h16.blk b
  mb : g.blk m = some (.row [v0, av, v18] 76 true)
  bf : BefR lo bad g b1 v15 vs ((List.range D).map fun t => nI (bef t))
  op : IA g b2 v16 ((List.range D).map opn)
  lf : IA g b3 v18 ((List.range D).map life)

section
variable {h16 : H} {m D b1 b2 b3 lo : Nat} {v0 av v15 v16 v18 : Value} {bad : Nat → Prop} {vs : List Value} {g : H} {bef : Nat → List Nat} {opn life : Nat → Int}

theorem MS.vlen (a : MS h16 m D b1 b2 b3 lo v0 av v15 v16 v18 bad vs g bef opn life) : vs.length = D := by
  rw [a.bf.len]; simp

/-- Other blocks changed. -/
theorem MS.keep (a : MS h16 m D b1 b2 b3 lo v0 av v15 v16 v18 bad vs g bef opn life) {bad' : Nat → Prop} {g' : H} (hn : g.nx ≤ g'.nx) (hb : ∀ b, b < g.nx → ¬ (lo ≤ b ∧ bad b) → g'.blk b = g.blk b) (hbad : ∀ q, lo ≤ q → q < g.nx → bad' q → bad q) :
    MS h16 m D b1 b2 b3 lo v0 av v15 v16 v18 bad' vs g' bef opn life := by
  obtain ⟨o1, o2, o3, o4⟩ := a.ord
  have hnx := a.nx
  refine ⟨a.ord, by omega, fun b h1 h2 => (hb b (by omega) (by omega)).trans (a.fr b h1 h2), (hb _ (by omega) (by omega)).trans a.mb, ?_, a.op.keep hn (hb _ (by omega) (by omega)), a.lf.keep hn (hb _ (by omega) (by omega))⟩
  exact a.bf.keep hn (hb _ (by omega) (by omega)) (fun q h1 h2 h3 => hb q h2 (fun h => h3 h.2)) hbad

theorem MS.setOp (a : MS h16 m D b1 b2 b3 lo v0 av v15 v16 v18 bad vs g bef opn life) (i : Nat) (x : Int) :
    MS h16 m D b1 b2 b3 lo v0 av v15 v16 v18 bad vs (g.set b2 (.row ((((List.range D).map opn).set i x).map iv) 3 true)) bef (upd opn i x) life := by
  obtain ⟨o1, o2, o3, o4⟩ := a.ord
  have h1 := a.op.set i x
  have e : ∀ b, b ≠ b2 → (g.set b2 (.row ((((List.range D).map opn).set i x).map iv) 3 true)).blk b = g.blk b := fun b hb => blk_set_ne _ _ _ hb
  generalize hg : g.set b2 (.row ((((List.range D).map opn).set i x).map iv) 3 true) = g' at *
  have hn : g'.nx = g.nx := by rw [← hg]; rfl
  rw [mapr_set] at h1
  have hnx := a.nx
  refine ⟨a.ord, by omega, fun b q1 q2 => (e b (by omega)).trans (a.fr b q1 q2), (e _ (by omega)).trans a.mb, ?_, h1, a.lf.keep (by omega) (e _ (by omega))⟩
  exact a.bf.keep (by omega) (e _ (by omega)) (fun q q1 q2 q3 => e q (by omega)) (fun _ _ _ h => h)

theorem MS.setLf (a : MS h16 m D b1 b2 b3 lo v0 av v15 v16 v18 bad vs g bef opn life) (i : Nat) (x : Int) :
    MS h16 m D b1 b2 b3 lo v0 av v15 v16 v18 bad vs (g.set b3 (.row ((((List.range D).map life).set i x).map iv) 3 true)) bef opn (upd life i x) := by
  obtain ⟨o1, o2, o3, o4⟩ := a.ord
  have h1 := a.lf.set i x
  have e : ∀ b, b ≠ b3 → (g.set b3 (.row ((((List.range D).map life).set i x).map iv) 3 true)).blk b = g.blk b := fun b hb => blk_set_ne _ _ _ hb
  generalize hg : g.set b3 (.row ((((List.range D).map life).set i x).map iv) 3 true) = g' at *
  have hn : g'.nx = g.nx := by rw [← hg]; rfl
  rw [mapr_set] at h1
  have hnx := a.nx
  refine ⟨a.ord, by omega, fun b q1 q2 => (e b (by omega)).trans (a.fr b q1 q2), (e _ (by omega)).trans a.mb, ?_, a.op.keep (by omega) (e _ (by omega)), h1⟩
  exact a.bf.keep (by omega) (e _ (by omega)) (fun q q1 q2 q3 => e q (by omega)) (fun _ _ _ h => h)

theorem MS.opGet (a : MS h16 m D b1 b2 b3 lo v0 av v15 v16 v18 bad vs g bef opn life) {i : Nat} (hi : i < D) (K : Value → Option R) : (six v16 (i : Int) 1 fun b o => (g.cell b o).bind K) = K (iv (opn i)) :=
  a.op.get (by omega) (by rw [Int.toNat_natCast]; exact mapr_get _ hi) K
theorem MS.lfGet (a : MS h16 m D b1 b2 b3 lo v0 av v15 v16 v18 bad vs g bef opn life) {i : Nat} (hi : i < D) (K : Value → Option R) : (six v18 (i : Int) 1 fun b o => (g.cell b o).bind K) = K (iv (life i)) :=
  a.lf.get (by omega) (by rw [Int.toNat_natCast]; exact mapr_get _ hi) K
theorem MS.opPut (a : MS h16 m D b1 b2 b3 lo v0 av v15 v16 v18 bad vs g bef opn life) {i : Nat} (hi : i < D) (x : Int) (K : H → Option R) : (six v16 (i : Int) 1 fun b o => (wrc 1 g b o (.int .i64 x)).bind K) = K (g.set b2 (.row ((((List.range D).map opn).set i x).map iv) 3 true)) := by
  rw [a.op.put (by omega) (by simp; omega), a.op.wrc (i := ((i : Int)).toNat) (by simp; omega)]; rfl
theorem MS.lfPut (a : MS h16 m D b1 b2 b3 lo v0 av v15 v16 v18 bad vs g bef opn life) {i : Nat} (hi : i < D) (x : Int) (K : H → Option R) : (six v18 (i : Int) 1 fun b o => (wrc 1 g b o (.int .i64 x)).bind K) = K (g.set b3 (.row ((((List.range D).map life).set i x).map iv) 3 true)) := by
  rw [a.lf.put (by omega) (by simp; omega), a.lf.wrc (i := ((i : Int)).toNat) (by simp; omega)]; rfl

/-- The slice of those before a state. -/
theorem MS.befGet (a : MS h16 m D b1 b2 b3 lo v0 av v15 v16 v18 bad vs g bef opn life) {t : Nat} (ht : t < D) : ∃ w, vs[t]? = some w ∧ AqR lo g 3 1 w (cellsI (nI (bef t))) ∧
    ∀ {R : Type} (K : Value → Option R), (six v15 (t : Int) 1 fun b o => (g.cell b o).bind K) = K w := by
  have hl := a.vlen
  obtain ⟨c, hv, hc1, hc2⟩ := a.bf.val
  have hw : vs[t]? = some vs[t] := List.getElem?_eq_getElem (by omega)
  refine ⟨vs[t], hw, a.bf.el t _ _ hw (mapr_get _ ht), fun K => ?_⟩
  rw [hv, six_in (by omega) (by omega)]
  simp [cell_of a.bf.row, hw]
end

def entB (i : Nat) (bef : Nat → List Nat) (x : Int) : Nat → List Nat := if x = -1 then bef else fun t => if t = x.toNat then bef t ++ [i] else bef t
def entO (i : Nat) (opn : Nat → Int) (x : Int) : Nat → Int := if x = -1 then opn else upd opn i (opn i + 1)

/-- The entries of one row. -/
theorem ent_loop {h16 : H} {m D b1 b2 b3 lo : Nat} {v0 av v15 v16 v18 : Value} {bad : Nat → Prop} {vs0 : List Value} {g0 : H} {bef0 : Nat → List Nat} {opn0 life : Nat → Int} (a : MS h16 m D b1 b2 b3 lo v0 av v15 v16 v18 bad vs0 g0 bef0 opn0 life)
    {i N : Nat} {qv v20 : Value} {row : List Int} (hi : i < D) (hs : SlR h16 3 1 v20 (cellsI row)) (hb : ∃ b, blkOf v20 = some b ∧ b < b1 ∧ b ≠ m) (hre : ∀ x ∈ row, x = -1 ∨ (0 ≤ x ∧ x < D)) (hlen : row.length ≤ 5)
    (hbl : ∀ t, (bef0 t).length ≤ N) (hN : N < 2 ^ 28) (hop : opn0 i = 0) (hbad : ∀ q, bad q → q < g0.nx) (hbadlo : ∀ q, bad q → lo ≤ q) (hh : h16.nx ≤ g0.nx) :
    ∃ g' vs, lpGo (f54_l4 rn 200010 v15 v16 [qv, iv i] v20 row.length) 200010 [iv 0] g0 = some (.exit 6, [iv row.length], g') ∧ MS h16 m D b1 b2 b3 lo v0 av v15 v16 v18 bad vs g' (row.foldl (entB i) bef0) (row.foldl (entO i) opn0) life ∧
      g0.nx ≤ g'.nx ∧ ∀ q, bad q → g'.blk q = g0.blk q := by
  obtain ⟨o1, o2, o3, o4⟩ := a.ord
  obtain ⟨ws', g', hlp, vs, hMS, rfl, _, _, hnx, hkeep⟩ := lp_for (σ := (Nat → List Nat) × (Nat → Int)) (F := f54_l4 rn 200010 v15 v16 [qv, iv i] v20 row.length) (k := 200010) (l := row) (fun _ x s => (entB i s.1 x, entO i s.2 x))
    (fun j s ws g => ∃ vs, MS h16 m D b1 b2 b3 lo v0 av v15 v16 v18 bad vs g s.1 s.2 life ∧ ws = [iv j] ∧ (∀ t, (s.1 t).length ≤ N + j) ∧ (0 ≤ s.2 i ∧ s.2 i ≤ j) ∧ g0.nx ≤ g.nx ∧ ∀ q, bad q → g.blk q = g0.blk q) 6 (ws := [iv 0]) (h := g0) (s0 := (bef0, opn0))
    ⟨vs0, a, rfl, by simpa using hbl, by simp [hop], Nat.le_refl _, fun _ _ => rfl⟩ (by omega)
    (by
      rintro s ws g ⟨vs, _, rfl, _⟩
      simp [f54_l4])
    (by
      rintro j x ⟨bef, opn⟩ ws g hx ⟨vs, hMS, rfl, hbl, ⟨hop1, hop2⟩, hnx, hkeep⟩
      simp only at hMS hbl hop1 hop2
      have hj := (List.getElem?_eq_some_iff.1 hx).1
      have hadd : add .i64 (j : Int) 1 = (j : Int) + 1 := add64 (by omega) (by omega)
      have hsg : SlR g 3 1 v20 (cellsI row) := hs.keepB (by omega) fun b hb' => by
        obtain ⟨b', e1, e2, e3⟩ := hb
        rw [e1] at hb'
        cases hb'
        exact hMS.fr b e2 e3
      have e1 : ∀ (K : Value → Option (Ex × List Value × H)), (six v20 (j : Int) 1 fun b o => (g.cell b o).bind K) = K (iv x) := fun K => hsg.c0 (by omega) (x := [iv x]) (by simp [hx]) rfl K
      by_cases hx1 : x = -1
      · subst hx1
        have hB : entB i bef (-1) = bef := if_pos rfl
        have hO : entO i opn (-1) = opn := if_pos rfl
        refine ⟨[iv ((j : Int) + 1)], g, ?_, vs, by simp only [hB, hO]; exact hMS, rfl, fun t => by simp only [hB]; have := hbl t; omega, by simp only [hO]; constructor <;> omega, hnx, hkeep⟩
        simp [f54_l4, hj, e1, hadd]
      · obtain ⟨hx0, hxD⟩ := (hre x (List.mem_of_getElem? hx)).resolve_left hx1
        obtain ⟨t, rfl⟩ := Int.eq_ofNat_of_zero_le hx0
        have htD : t < D := by omega
        obtain ⟨w, hw, haq, e2⟩ := hMS.befGet htD
        have hlo := hMS.nx
        obtain ⟨w', h9, e9, a9, n9, k9, b9, hb9, hb9'⟩ := haq.push app22 app22 (bls22 (i : Int)) rfl rfl (by have := hbl t; simp; omega) hlo
        have hwb : ∀ q, blkOf w = some q → lo ≤ q ∧ q < g.nx := fun q hq => ⟨(haq.blkOf hq).1, (haq.blkOf hq).2.1⟩
        have hcl := a9.cells
        have hk1 : ∀ b, b < lo → h9.blk b = g.blk b := fun b hb => k9 b (by omega) (fun e => by have := (hwb _ e).1; omega)
        have hrow := (hk1 b1 (by omega)).trans hMS.bf.row
        have hvl := hMS.vlen
        have hbl1 : cellsI (nI (bef t)) ++ [[iv (i : Int)]] = cellsI (nI (bef t ++ [i])) := by simp
        rw [hbl1] at a9
        have hgrow := hMS.bf.grow hw (mapr_get _ htD) a9 n9 k9 hb9 hb9' (fun q hq hb => by have := hbad q hb; omega)
        have hwr : wrc 1 h9 b1 t w' = some (h9.set b1 (.row (vs.set t w') 22 true)) := wrc_one hrow hcl.1 hcl.2 (by omega)
        obtain ⟨c, hv15, _, _⟩ := hMS.bf.val
        have e3 : ∀ (K : H → Option (Ex × List Value × H)), (six v15 (t : Int) 1 fun b o => (wrc 1 h9 b o w').bind K) = K (h9.set b1 (.row (vs.set t w') 22 true)) := fun K => by
          rw [hv15, six_in (by omega) (by omega)]
          simp [hwr]
        have hM10 : MS h16 m D b1 b2 b3 lo v0 av v15 v16 v18 bad (vs.set t w') (h9.set b1 (.row (vs.set t w') 22 true)) (entB i bef (t : Int)) opn life := by
          have e4 : ∀ b, b < lo → b ≠ b1 → (h9.set b1 (.row (vs.set t w') 22 true)).blk b = g.blk b := fun b h1 h2 => (blk_set_ne _ _ _ h2).trans (hk1 b h1)
          have hbf2 : (List.range D).map (fun t' => nI (entB i bef (t : Int) t')) = ((List.range D).map fun t => nI (bef t)).set t (nI (bef t ++ [i])) := by
            rw [mapr_set]
            apply List.map_congr_left
            intro j _
            simp only [entB, if_neg (show ¬ (t : Int) = -1 by omega), Int.toNat_natCast]
            by_cases h : j = t
            · subst h; simp
            · simp [h]
          generalize hh10 : h9.set b1 (.row (vs.set t w') 22 true) = h10 at *
          have hn10 : h10.nx = h9.nx := by rw [← hh10]; rfl
          refine ⟨a.ord, by omega, fun b h1 h2 => (e4 b (by omega) (by omega)).trans (hMS.fr b h1 h2), (e4 _ (by omega) (by omega)).trans hMS.mb, ?_, hMS.op.keep (by omega) (e4 _ (by omega) (by omega)), hMS.lf.keep (by omega) (e4 _ (by omega) (by omega))⟩
          rw [hbf2]
          exact hgrow
        have hk10 : ∀ q, bad q → (h9.set b1 (.row (vs.set t w') 22 true)).blk q = g0.blk q := fun q hq => by
          rw [blk_set_ne _ _ _ (fun e => by have := hbadlo q hq; omega), k9 q (by have := hbad q hq; omega) (fun e => hMS.bf.ok w (List.mem_of_getElem? hw) q e hq), hkeep q hq]
        generalize hh10 : h9.set b1 (.row (vs.set t w') 22 true) = h10 at *
        have hn10 : h10.nx = h9.nx := by rw [← hh10]; rfl
        have e5 := fun (K : Value → Option (Ex × List Value × H)) => hM10.opGet hi K
        have hadd2 : add .i64 (opn i) 1 = opn i + 1 := add64 (by omega) (by omega)
        have e6 := fun (K : H → Option (Ex × List Value × H)) => hM10.opPut hi (opn i + 1) K
        have hM11 := hM10.setOp i (opn i + 1)
        refine ⟨[iv ((j : Int) + 1)], h10.set b2 (.row ((((List.range D).map opn).set i (opn i + 1)).map iv) 3 true), ?_, vs.set t w', by simpa [entO, show ¬ (t : Int) = -1 by omega] using hM11, rfl, fun t' => ?_, ?_, ?_, fun q hq => ?_⟩
        · have ee : ∀ (K : Value → H → Option (Ex × List Value × H)), (bls Try.prog g 22 1 [(0, iv (i : Int))] fun y h2 => app Try.prog h2 22 22 w y K) = K w' h9 := fun K => e9 K
          simp [f54_l4, hj, e1, show ¬ (t : Int) = -1 by omega, e2, ee, e3, e5, hadd2, e6, hadd]
        · have := hbl t'
          simp only [entB, if_neg (show ¬ (t : Int) = -1 by omega)]
          split
          · simp; omega
          · omega
        · simp only [entO, if_neg (show ¬ (t : Int) = -1 by omega), upd, if_true]
          omega
        · show g0.nx ≤ h10.nx
          omega
        · rw [blk_set_ne _ _ _ (fun e => by have := hbadlo q hq; omega)]
          exact hk10 q hq)
  refine ⟨g', vs, hlp, ?_, hnx, hkeep⟩
  have hf : ∀ (l : List Int) (j : Nat) (s : (Nat → List Nat) × (Nat → Int)), foldI (fun _ x s => (entB i s.1 x, entO i s.2 x)) l j s = (l.foldl (entB i) s.1, l.foldl (entO i) s.2) := by
    intro l
    induction l with
    | nil => intro j s; rfl
    | cons x l ih => intro j s; exact ih _ _
  rw [hf] at hMS
  exact hMS

end Go.AM

namespace Go.AM
open Go.Proofs Go.Lives

variable {R : Type}

attribute [local simp] nx_eq nx_new nx_set blk_new blk_set asI_int asK_int asB_bool asP_ptr al_eq bx_eq len_slice onE_exit onE_ret onR_ret Value.cells d3 d22 d31 d60 w60 w3 w22 cell_new cell_set rd_new rd_set off eq lt le ifB gv out eqF1 eqF2 eqF3 eqF4 eqF5 eqF6 eqF7 eqF8 ext20 ext21

/-! ### What the loops make -/

def cntR (rw : Nat → List Int) (c : Nat) : Nat := (rw c).countP (fun x => decide (x ≠ -1))
def befI (rw : Nat → List Int) (i : Nat) (t : Nat) : List Nat := (List.range i).flatMap fun c => List.replicate ((rw c).count (t : Int)) c
def opnI (rw : Nat → List Int) (i c : Nat) : Int := if c < i then (cntR rw c : Nat) else 0
def lifeI (rw : Nat → List Int) (i c : Nat) : Int := if c < i ∧ cntR rw c = 0 then 0 else -1
def quI (rw : Nat → List Int) (i : Nat) : List Nat := (List.range i).filter fun c => decide (cntR rw c = 0)

theorem foldB (i : Nat) : ∀ (row : List Int) (bef : Nat → List Nat), (∀ x ∈ row, x = -1 ∨ 0 ≤ x) → row.foldl (entB i) bef = fun t => bef t ++ List.replicate (row.count (t : Int)) i := by
  intro row
  induction row with
  | nil => intro bef _; funext t; simp
  | cons x row ih =>
    intro bef h
    rw [List.foldl_cons, ih _ (fun y hy => h y (by simp [hy]))]
    funext t
    unfold entB
    rcases h x (by simp) with rfl | hx
    · rw [if_pos rfl, List.count_cons_of_ne (by omega)]
    · rw [if_neg (by omega)]
      by_cases ht : t = x.toNat
      · subst ht
        have e : ((x.toNat : Nat) : Int) = x := Int.toNat_of_nonneg hx
        simp only [if_true, e, List.count_cons_self, List.append_assoc]
        rw [show [i] = List.replicate 1 i from rfl, List.replicate_append_replicate, Nat.add_comm]
      · rw [if_neg ht, List.count_cons_of_ne (by omega)]

theorem foldO (i : Nat) : ∀ (row : List Int) (opn : Nat → Int), row.foldl (entO i) opn = upd opn i (opn i + (row.countP (fun x => decide (x ≠ -1)) : Nat)) := by
  intro row
  induction row with
  | nil => intro opn; funext t; simp [upd]; intro h; rw [h]
  | cons x row ih =>
    intro opn
    rw [List.foldl_cons, ih]
    unfold entO
    by_cases hx : x = -1
    · subst hx
      rw [if_pos rfl, List.countP_cons_of_neg (by simp)]
    · rw [if_neg hx, List.countP_cons_of_pos (by simpa using hx)]
      funext t
      simp only [upd]
      split
      · simp; omega
      · rfl

theorem befI_succ {rw : Nat → List Int} {i : Nat} (h : ∀ x ∈ rw i, x = -1 ∨ 0 ≤ x) : (rw i).foldl (entB i) (befI rw i) = befI rw (i + 1) := by
  rw [foldB i _ _ h]
  funext t
  simp [befI, List.range_succ]

theorem opnI_succ {rw : Nat → List Int} {i : Nat} : (rw i).foldl (entO i) (opnI rw i) = opnI rw (i + 1) := by
  rw [foldO]
  funext t
  simp only [upd, opnI, cntR]
  by_cases h : t = i
  · subst h
    rw [if_pos rfl, if_neg (Nat.lt_irrefl _), if_pos (Nat.lt_succ_self _)]
    omega
  · rw [if_neg h]
    by_cases h2 : t < i
    · rw [if_pos h2, if_pos (by omega)]
    · rw [if_neg h2, if_neg (by omega)]

theorem befI_len {rw : Nat → List Int} {D : Nat} (h : ∀ i, i < D → (rw i).length ≤ 5) (t : Nat) : ∀ i, i ≤ D → (befI rw i t).length ≤ 5 * i := by
  intro i
  induction i with
  | zero => intro _; simp [befI]
  | succ i ih =>
    intro hi
    have h1 := ih (by omega)
    have h2 := h i (by omega)
    have h3 := List.count_le_length (a := (t : Int)) (l := rw i)
    have : befI rw (i + 1) t = befI rw i t ++ List.replicate ((rw i).count (t : Int)) i := by simp [befI, List.range_succ]
    rw [this, List.length_append, List.length_replicate]
    omega

theorem befI_count (rw : Nat → List Int) (t c : Nat) : ∀ i, (befI rw i t).count c = if c < i then (rw c).count (t : Int) else 0 := by
  intro i
  induction i with
  | zero => simp [befI]
  | succ i ih =>
    have : befI rw (i + 1) t = befI rw i t ++ List.replicate ((rw i).count (t : Int)) i := by simp [befI, List.range_succ]
    rw [this, List.count_append, ih, List.count_replicate]
    by_cases h : c = i
    · subst h; simp
    · have h' : ¬ i = c := fun e => h e.symm
      by_cases h2 : c < i
      · simp [h2, h', show c < i + 1 by omega]
      · simp [h2, h', show ¬ c < i + 1 by omega]

theorem befI_lt {rw : Nat → List Int} {i t c : Nat} (h : c ∈ befI rw i t) : c < i := by
  rw [← List.count_pos_iff, befI_count] at h
  split at h
  · assumption
  · omega

/-! ### All states -/

theorem codes_loop {h0 h16 g0 : H} {m D b1 b2 b3 lo : Nat} {v0 av v15 v16 v18 : Value} {vs0 rvs : List Value} {rw : Nat → List Int} (hm : h0.nx = m)
    (a : MS h16 m D b1 b2 b3 lo v0 av v15 v16 v18 (fun _ => False) vs0 g0 (befI rw 0) (opnI rw 0) (lifeI rw 0)) (hD : D < 20009) (hav : SlR h16 22 1 av (cellsV rvs)) (havb : ∃ b, blkOf av = some b ∧ b < b1 ∧ b ≠ m)
    (hrl : rvs.length = D) (hr : ∀ i, i < D → ∃ w, rvs[i]? = some w ∧ SlR h16 3 1 w (cellsI (rw i)) ∧ ∃ b, blkOf w = some b ∧ b < b1 ∧ b ≠ m)
    (hre : ∀ i, i < D → ∀ x ∈ rw i, x = -1 ∨ (0 ≤ x ∧ x < D)) (hlen : ∀ i, i < D → (rw i).length ≤ 5) (hh : h16.nx ≤ lo) :
    ∃ g' vs qv, lpGo (f54_l3 rn 200010 h0 v15 v16 av D) 200010 [.slice none 0 0, iv 0] g0 = some (.exit 4, [qv, iv D], g') ∧
      MS h16 m D b1 b2 b3 lo v0 av v15 v16 v18 (fun b => blkOf qv = some b) vs g' (befI rw D) (opnI rw D) (lifeI rw D) ∧ QqR lo g' 3 1 qv (cellsI (nI (quI rw D))) := by
  obtain ⟨o1, o2, o3, o4⟩ := a.ord
  obtain ⟨ws', g', hlp, vs, qv, hMS, hQ, rfl⟩ := lp_for (σ := Unit) (F := f54_l3 rn 200010 h0 v15 v16 av D) (k := 200010) (l := List.range D) (fun _ _ _ => ())
    (fun i _ ws g => ∃ vs qv, MS h16 m D b1 b2 b3 lo v0 av v15 v16 v18 (fun b => blkOf qv = some b) vs g (befI rw i) (opnI rw i) (lifeI rw i) ∧ QqR lo g 3 1 qv (cellsI (nI (quI rw i))) ∧ ws = [qv, iv i]) 4 (ws := [.slice none 0 0, iv 0]) (h := g0) (s0 := ())
    ⟨vs0, .slice none 0 0, a.keep (Nat.le_refl _) (fun _ _ _ => rfl) (fun _ _ _ h => by cases h), .nil, rfl⟩ (by rw [List.length_range]; omega)
    (by
      rintro _ ws g ⟨vs, qv, _, _, rfl⟩
      simp [f54_l3])
    (by
      rintro i x _ ws g hx ⟨vs, qv, hMS, hQ, rfl⟩
      have hi := (List.getElem?_eq_some_iff.1 hx).1
      rw [List.length_range] at hi
      obtain ⟨w, hw, hws, hwb⟩ := hr i hi
      have hnx := hMS.nx
      have hsg : SlR g 22 1 av (cellsV rvs) := hav.keepB (by omega) fun b hb' => by
        obtain ⟨b', e1, e2, e3⟩ := havb
        rw [e1] at hb'
        cases hb'
        exact hMS.fr b e2 e3
      have e1 : ∀ (K : Value → Option (Ex × List Value × H)), (six av (i : Int) 1 fun b o => (g.cell b o).bind K) = K w := fun K => hsg.c0 (by omega) (x := [w]) (by simp [hw]) rfl K
      have e2 : ∀ (K : Int → Option (Ex × List Value × H)), len w K = K ((rw i).length : Int) := fun K => by rw [hws.len]; simp
      have hadd : add .i64 (i : Int) 1 = (i : Int) + 1 := add64 (by omega) (by omega)
      obtain ⟨g1, vs1, e3, hM1, hn1, hk1⟩ := ent_loop (qv := qv) hMS hi hws hwb (hre i hi) (hlen i hi) (N := 5 * i) (fun t => befI_len hlen t i (by omega)) (by omega) (by simp [opnI]) (fun q hq => (hQ.blkOf hq).2) (fun q hq => (hQ.blkOf hq).1) (by omega)
      rw [befI_succ (fun y hy => (hre i hi y hy).imp id And.left), opnI_succ] at hM1
      have e4 := fun (K : Value → Option (Ex × List Value × H)) => hM1.opGet hi K
      have hoi : opnI rw (i + 1) i = (cntR rw i : Nat) := by simp [opnI]
      rw [hoi] at e4
      have hQ1 : QqR lo g1 3 1 qv (cellsI (nI (quI rw i))) := hQ.keep hn1 hk1
      by_cases hz : cntR rw i = 0
      · have e5 : ∀ (K : Value → Option (Ex × List Value × H)), (g1.cell m 2).bind K = K v18 := fun K => by rw [cell_of hM1.mb]; rfl
        have e6 := fun (K : H → Option (Ex × List Value × H)) => hM1.lfPut hi 0 K
        have hM2 := hM1.setLf i 0
        have hQ2 : QqR lo (g1.set b3 (.row ((((List.range D).map (lifeI rw i)).set i 0).map iv) 3 true)) 3 1 qv (cellsI (nI (quI rw i))) := hQ1.keep (Nat.le_refl _) fun b hb => blk_set_ne _ _ _ (by have := (hQ1.blkOf hb).1; omega)
        have hlf : upd (lifeI rw i) i 0 = lifeI rw (i + 1) := by
          funext c
          simp only [upd, lifeI]
          by_cases h : c = i
          · subst h; simp [hz]
          · by_cases h2 : c < i
            · simp [h, h2, show c < i + 1 by omega]
            · simp [h, h2, show ¬ c < i + 1 by omega]
        rw [hlf] at hM2
        generalize g1.set b3 (.row ((((List.range D).map (lifeI rw i)).set i 0).map iv) 3 true) = g2 at *
        have hql := List.length_filter_le (fun c => decide (cntR rw c = 0)) (List.range i)
        rw [List.length_range] at hql
        change (quI rw i).length ≤ i at hql
        obtain ⟨qv', g3, e9, a9, n9, k9, b9, hb9, hb9'⟩ := hQ2.push app22 app22 (bls22 (i : Int)) rfl rfl (by simp only [List.length_map]; omega) hM2.nx
        have hM3 := hM2.keep (bad' := fun b => blkOf qv' = some b) n9 (fun b h1 h2 => k9 b h1 (fun e => h2 ⟨(hQ2.blkOf e).1, e⟩)) (fun q h1 h2 h3 => by rw [hb9] at h3; cases h3; omega)
        refine ⟨[qv', iv ((i : Int) + 1)], g3, ?_, vs1, qv', hM3, ?_, rfl⟩
        · have ee : ∀ (K : Value → H → Option (Ex × List Value × H)), (bls Try.prog g2 22 1 [(0, iv (i : Int))] fun y h2 => app Try.prog h2 22 22 qv y K) = K qv' g3 := fun K => e9 K
          simp [f54_l3, hi, e1, e2, lp_eq e3, e4, hz, hm, e5, e6, ee, hadd]
        · have : cellsI (nI (quI rw (i + 1))) = cellsI (nI (quI rw i)) ++ [[iv (i : Int)]] := by simp [quI, List.range_succ, hz]
          rw [this]
          exact a9
      · have hlf : lifeI rw (i + 1) = lifeI rw i := by
          funext c
          simp only [lifeI]
          by_cases h : c = i
          · subst h; simp [hz]
          · by_cases h2 : c < i
            · simp [h2, show c < i + 1 by omega]
            · simp [h2, show ¬ c < i + 1 by omega]
        rw [← hlf] at hM1
        refine ⟨[qv, iv ((i : Int) + 1)], g1, ?_, vs1, qv, hM1, ?_, rfl⟩
        · simp [f54_l3, hi, e1, e2, lp_eq e3, e4, hz, hadd]
        · have : quI rw (i + 1) = quI rw i := by simp [quI, List.range_succ, hz]
          rw [this]
          exact hQ1)
  rw [List.length_range] at hMS hQ
  refine ⟨g', vs, qv, ?_, hMS, hQ⟩
  rw [List.length_range] at hlp
  exact hlp

end Go.AM

namespace Go.AM
open Go.Proofs Go.Lives

variable {R : Type}

attribute [local simp] nx_eq nx_new nx_set blk_new blk_set asI_int asK_int asB_bool asP_ptr al_eq bx_eq len_slice onE_exit onE_ret onR_ret Value.cells d3 d22 d31 d60 w60 w3 w22 cell_new cell_set rd_new rd_set off eq lt le ifB gv out eqF1 eqF2 eqF3 eqF4 eqF5 eqF6 eqF7 eqF8 ext20 ext21

/-- The states before the head of the queue are counted down. -/
theorem back_loop {h0 h16 g0 : H} {m D b1 b2 b3 lo : Nat} {v0 av v15 v16 v18 qv0 v31 : Value} {vs : List Value} {bef : Nat → List Nat} {opn0 life0 : Nat → Int} {q M : Nat} {R0 : List Nat} (hm : h0.nx = m)
    (a : MS h16 m D b1 b2 b3 lo v0 av v15 v16 v18 (fun b => blkOf qv0 = some b) vs g0 bef opn0 life0) (hQ0 : QqR lo g0 3 1 qv0 (cellsI (nI (q :: R0)))) (hq : q < D) (hv31 : vs[q]? = some v31)
    (hB : ∀ c ∈ bef q, c < D) (ho : ∀ c, c < D → 0 ≤ opn0 c ∧ opn0 c ≤ 5) (hl : ∀ c, c < D → -1 ≤ life0 c ∧ life0 c ≤ M) (hM : M < 2 ^ 20) (hBl : (bef q).length ≤ 100100) (hR0 : R0.length < 2 ^ 20) :
    ∃ g' qv', lpGo (f54_l6 rn 200010 h0 v16 v31 (bef q).length) 200010 [qv0, iv 0] g0 = some (.exit 10, [qv', iv (bef q).length], g') ∧
      MS h16 m D b1 b2 b3 lo v0 av v15 v16 v18 (fun b => blkOf qv' = some b) vs g' bef ((bef q).foldl (bstep q) (opn0, life0, q :: R0)).1 ((bef q).foldl (bstep q) (opn0, life0, q :: R0)).2.1 ∧
      QqR lo g' 3 1 qv' (cellsI (nI ((bef q).foldl (bstep q) (opn0, life0, q :: R0)).2.2)) := by
  obtain ⟨o1, o2, o3, o4⟩ := a.ord
  obtain ⟨ws', g', hlp, qv', hMS, hQ, rfl, _⟩ := lp_for (σ := (Nat → Int) × (Nat → Int) × List Nat) (F := f54_l6 rn 200010 h0 v16 v31 (bef q).length) (k := 200010) (l := bef q) (fun _ c s => bstep q s c)
    (fun j s ws g => ∃ qv, MS h16 m D b1 b2 b3 lo v0 av v15 v16 v18 (fun b => blkOf qv = some b) vs g bef s.1 s.2.1 ∧ QqR lo g 3 1 qv (cellsI (nI s.2.2)) ∧ ws = [qv, iv j] ∧
      (∀ c, c < D → -(j : Int) ≤ s.1 c ∧ s.1 c ≤ 5) ∧ (∀ c, c < D → -1 ≤ s.2.1 c ∧ s.2.1 c ≤ M + j) ∧ ∃ T, s.2.2 = q :: T ∧ T.length ≤ R0.length + j) 10 (ws := [qv0, iv 0]) (h := g0) (s0 := (opn0, life0, q :: R0))
    ⟨qv0, a, hQ0, rfl, fun c hc => by have := ho c hc; simp only; omega, fun c hc => by have := hl c hc; simp only; omega, R0, rfl, by omega⟩ (by omega)
    (by
      rintro s ws g ⟨qv, _, _, rfl, _⟩
      simp [f54_l6])
    (by
      rintro j c ⟨opn, life, Q⟩ ws g hx ⟨qv, hMS, hQ, rfl, hop, hlf, T, hT, hTl⟩
      simp only at hMS hQ hop hlf hT
      subst hT
      have hj := (List.getElem?_eq_some_iff.1 hx).1
      have hc := hB c (List.mem_of_getElem? hx)
      have hadd : add .i64 (j : Int) 1 = (j : Int) + 1 := add64 (by omega) (by omega)
      have haq := hMS.bf.el q v31 _ hv31 (mapr_get _ hq)
      have e1 : ∀ (K : Value → Option (Ex × List Value × H)), (six v31 (j : Int) 1 fun b o => (g.cell b o).bind K) = K (iv (c : Int)) := fun K => haq.slR.c0 (by omega) (x := [iv (c : Int)]) (by simp [hx]) rfl K
      have e2 := fun (K : Value → Option (Ex × List Value × H)) => hMS.opGet hc K
      have hoc := hop c hc
      have hsub : sub .i64 (opn c) 1 = opn c - 1 := sub64 (by omega) (by omega)
      have e3 := fun (K : H → Option (Ex × List Value × H)) => hMS.opPut hc (opn c - 1) K
      have hM1 := hMS.setOp c (opn c - 1)
      have hQ1 : QqR lo (g.set b2 (.row ((((List.range D).map opn).set c (opn c - 1)).map iv) 3 true)) 3 1 qv (cellsI (nI (q :: T))) := hQ.keep (Nat.le_refl _) fun b hb => blk_set_ne _ _ _ (by have := (hQ.blkOf hb).1; omega)
      generalize g.set b2 (.row ((((List.range D).map opn).set c (opn c - 1)).map iv) 3 true) = g1 at *
      have e4 := fun (K : Value → Option (Ex × List Value × H)) => hM1.opGet hc K
      have hu : upd opn c (opn c - 1) c = opn c - 1 := by simp [upd]
      rw [hu] at e4
      have bnd : ∀ c', c' < D → -((j + 1 : Nat) : Int) ≤ upd opn c (opn c - 1) c' ∧ upd opn c (opn c - 1) c' ≤ 5 := fun c' hc' => by
        have := hop c' hc'
        simp only [upd]
        split <;> omega
      by_cases hz : opn c - 1 = 0
      · have e5 : ∀ (K : Value → Option (Ex × List Value × H)), (g1.cell m 2).bind K = K v18 := fun K => by rw [cell_of hM1.mb]; rfl
        have e6 : ∀ (K : Value → Option (Ex × List Value × H)), (six qv 0 1 fun b o => (g1.cell b o).bind K) = K (iv (q : Int)) := fun K => hQ1.slR.c0 (by omega) (x := [iv (q : Int)]) (by simp) rfl K
        have e7 := fun (K : Value → Option (Ex × List Value × H)) => hM1.lfGet hq K
        have hlq := hlf q hq
        have hadd2 : add .i64 (life q) 1 = life q + 1 := add64 (by omega) (by omega)
        have e8 := fun (K : H → Option (Ex × List Value × H)) => hM1.lfPut hc (life q + 1) K
        have hM2 := hM1.setLf c (life q + 1)
        have hQ2 : QqR lo (g1.set b3 (.row ((((List.range D).map life).set c (life q + 1)).map iv) 3 true)) 3 1 qv (cellsI (nI (q :: T))) := hQ1.keep (Nat.le_refl _) fun b hb => blk_set_ne _ _ _ (by have := (hQ1.blkOf hb).1; omega)
        generalize g1.set b3 (.row ((((List.range D).map life).set c (life q + 1)).map iv) 3 true) = g2 at *
        obtain ⟨qv', g3, e9, a9, n9, k9, b9, hb9, hb9'⟩ := hQ2.push app22 app22 (bls22 (c : Int)) rfl rfl (by simp only [List.length_map, List.length_cons]; omega) hM2.nx
        have hM3 := hM2.keep (bad' := fun b => blkOf qv' = some b) n9 (fun b h1 h2 => k9 b h1 (fun e => h2 ⟨(hQ2.blkOf e).1, e⟩)) (fun q h1 h2 h3 => by rw [hb9] at h3; cases h3; omega)
        have hbs : bstep q (opn, life, q :: T) c = (upd opn c (opn c - 1), upd life c (life q + 1), q :: T ++ [c]) := by simp [bstep, hz]
        refine ⟨[qv', iv ((j : Int) + 1)], g3, ?_, qv', by rw [hbs]; exact hM3, ?_, rfl, by rw [hbs]; exact bnd, fun c' hc' => ?_, T ++ [c], by rw [hbs]; rfl, by simp; omega⟩
        · have ee : ∀ (K : Value → H → Option (Ex × List Value × H)), (bls Try.prog g2 22 1 [(0, iv (c : Int))] fun y h2 => app Try.prog h2 22 22 qv y K) = K qv' g3 := fun K => e9 K
          simp only [hz] at hsub e3 e4
          simp [f54_l6, hj, e1, e2, hsub, e3, e4, hm, e5, e6, e7, hadd2, e8, ee, hadd]
        · rw [hbs]
          have : cellsI (nI (q :: T ++ [c])) = cellsI (nI (q :: T)) ++ [[iv (c : Int)]] := by simp
          rw [this]
          exact a9
        · rw [hbs]
          have := hlf c' hc'
          simp only [upd]
          split <;> omega
      · have hbs : bstep q (opn, life, q :: T) c = (upd opn c (opn c - 1), life, q :: T) := by simp [bstep, hz]
        refine ⟨[qv, iv ((j : Int) + 1)], g1, ?_, qv, by rw [hbs]; exact hM1, by rw [hbs]; exact hQ1, rfl, by rw [hbs]; exact bnd, fun c' hc' => ?_, T, by rw [hbs], by omega⟩
        · simp [f54_l6, hj, e1, e2, hsub, e3, e4, hz, hadd]
        · rw [hbs]
          have := hlf c' hc'
          simp only
          omega)
  have hf : foldI (fun (_ : Nat) c s => bstep q s c) (bef q) 0 (opn0, life0, q :: R0) = (bef q).foldl (bstep q) (opn0, life0, q :: R0) := foldI_l _ _ _ _
  rw [hf] at hMS hQ
  exact ⟨g', qv', hlp, hMS, hQ⟩

theorem life_len {D : Nat} {tos : Nat → List Nat} {P Q : List Nat} {opn life : Nat → Int} (hI : QI D tos P Q opn life) : ∀ c, c < D → -1 ≤ life c ∧ life c ≤ P.length := by
  have key : ∀ (n : Nat) (c : Nat), c < D → c ∈ P ++ Q → life c = n → ∃ L : List Nat, L.length = n ∧ L.Nodup ∧ ∀ x ∈ L, x ∈ P ∧ life x < n := by
    intro n
    induction n with
    | zero => intro c _ _ _; exact ⟨[], rfl, by simp, by simp⟩
    | succ n ih =>
      intro c hc hm hl
      obtain ⟨h1, h2, h3⟩ := hI.ins c hc hm
      obtain ⟨t, ht, h4⟩ := h3.resolve_left (by omega)
      obtain ⟨h5, h6⟩ := h2 t ht
      obtain ⟨L, l1, l2, l3⟩ := ih t (hI.lt t (by simp [h5])) (by simp [h5]) (by omega)
      refine ⟨t :: L, by simp [l1], List.nodup_cons.2 ⟨fun hm => by have := (l3 t hm).2; omega, l2⟩, fun x hx => ?_⟩
      rcases List.mem_cons.1 hx with rfl | hx
      · exact ⟨h5, by omega⟩
      · have := l3 x hx
        exact ⟨this.1, by omega⟩
  intro c hc
  by_cases hm : c ∈ P ++ Q
  · have h0 := (hI.ins c hc hm).1
    obtain ⟨n, hn⟩ := Int.eq_ofNat_of_zero_le h0
    obtain ⟨L, l1, l2, l3⟩ := key n c hc hm hn
    have := l2.length_le_of_subset (l₂ := P) fun x hx => (l3 x hx).1
    omega
  · rw [hI.out c hc hm]; omega

theorem queue_len {D : Nat} {tos : Nat → List Nat} {P Q : List Nat} {opn life : Nat → Int} (hI : QI D tos P Q opn life) : P.length + Q.length ≤ D := by
  have := hI.nodup.length_le_of_subset (l₂ := List.range D) fun x hx => List.mem_range.2 (hI.lt x hx)
  simpa using this

/-- The queue finds the lives. -/
theorem queue_loop {h0 h16 g0 : H} {m D b1 b2 b3 lo : Nat} {v0 av v15 v16 v18 qv0 : Value} {vs : List Value} {bef : Nat → List Nat} {opn0 life0 : Nat → Int} {R0 : List Nat} {tos : Nat → List Nat} (hm : h0.nx = m)
    (a : MS h16 m D b1 b2 b3 lo v0 av v15 v16 v18 (fun b => blkOf qv0 = some b) vs g0 bef opn0 life0) (hQ0 : QqR lo g0 3 1 qv0 (cellsI (nI R0))) (hI0 : QI D tos [] R0 opn0 life0) (hD : D < 20009)
    (htl : ∀ c, c < D → (tos c).length ≤ 5) (htD : ∀ c, c < D → ∀ t ∈ tos c, t < D) (hB : ∀ q, q < D → ∀ c ∈ bef q, c < D) (hBc : ∀ q, q < D → ∀ c, c < D → (bef q).count c = (tos c).count q) (hBl : ∀ q, (bef q).length ≤ 100100) :
    ∃ g' ws' opn life qv, lpGo (f54_l5 rn 200010 h0 v15 v16) 200010 [qv0] g0 = some (.exit 8, ws', g') ∧ MS h16 m D b1 b2 b3 lo v0 av v15 v16 v18 (fun b => blkOf qv = some b) vs g' bef opn life ∧ IsLife D tos life := by
  obtain ⟨e, ws', g', hlp, rfl, opn, life, qv, hMS, hL⟩ := lpGo_inv (F := f54_l5 rn 200010 h0 v15 v16)
    (fun d ws g => ∃ P Q opn life qv, QI D tos P Q opn life ∧ MS h16 m D b1 b2 b3 lo v0 av v15 v16 v18 (fun b => blkOf qv = some b) vs g bef opn life ∧ QqR lo g 3 1 qv (cellsI (nI Q)) ∧ ws = [qv] ∧ d = D - P.length)
    (fun e ws g => e = .exit 8 ∧ ∃ opn life qv, MS h16 m D b1 b2 b3 lo v0 av v15 v16 v18 (fun b => blkOf qv = some b) vs g bef opn life ∧ IsLife D tos life)
    (by
      rintro d ws g ⟨P, Q, opn, life, qv, hI, hMS, hQ, rfl, rfl⟩
      have hlen : ∀ (K : Int → Option (Ex × List Value × H)), len qv K = K (Q.length : Int) := fun K => by rw [hQ.slR.len]; simp
      cases Q with
      | nil =>
        refine ⟨.exit 8, [qv], g, by simp [f54_l5, hlen], .inr ⟨by simp, rfl, opn, life, qv, hMS, hI.done htD⟩⟩
      | cons q Q =>
        have hq : q < D := hI.lt q (by simp)
        have hpq := queue_len hI
        rw [List.length_cons] at hpq
        have hll := life_len hI
        have e1 : ∀ (K : Value → Option (Ex × List Value × H)), (six qv 0 1 fun b o => (g.cell b o).bind K) = K (iv (q : Int)) := fun K => hQ.slR.c0 (by omega) (x := [iv (q : Int)]) (by simp) rfl K
        obtain ⟨w, hw, haq, e2⟩ := hMS.befGet hq
        have e3 : ∀ (K : Int → Option (Ex × List Value × H)), len w K = K ((bef q).length : Int) := fun K => by rw [haq.slR.len]; simp
        obtain ⟨g1, qv1, e4, hM1, hQ1⟩ := back_loop hm hMS hQ hq hw (hB q hq) (fun c hc => by
          rw [hI.cnt c hc]
          have h1 : left tos P c ≤ (tos c).length := List.countP_le_length
          have := htl c hc
          omega) hll (by omega) (hBl q) (by omega)
        obtain ⟨N, opn1, life1, hfold, hI1⟩ := hI.step (hB q hq) (hBc q hq)
        rw [hfold] at hM1 hQ1
        obtain ⟨qv2, e5, hQ2, hb2⟩ := QqR.tail (P := Try.prog) (t := 22) (l := cellsI (nI (Q ++ N))) (x := [iv (q : Int)]) (by simpa using hQ1) under22 sz3
        have e5' : ∀ (K : Value → Option (Ex × List Value × H)), sli Try.prog g1 22 qv1 (some (iv 1)) none none K = K qv2 := fun K => e5 K
        refine ⟨.normal, [qv2], g1, ?_, .inl ⟨rfl, D - (P ++ [q]).length, by simp; omega, P ++ [q], Q ++ N, opn1, life1, qv2, hI1, ?_, hQ2, rfl, rfl⟩⟩
        · simp [f54_l5, hlen, e1, e2, e3, lp_eq e4, e5']
        · rw [hb2]
          exact hM1)
    D 200010 (by omega) ⟨[], R0, opn0, life0, qv0, hI0, a, hQ0, rfl, by simp⟩
  exact ⟨g', ws', opn, life, qv, hlp, hMS, hL⟩

end Go.AM
