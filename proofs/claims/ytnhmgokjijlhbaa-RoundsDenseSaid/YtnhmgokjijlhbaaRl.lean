/- The machine: who comes before each state, how many states come, and the queue. -/
import Derived.Test.YtnhmgokjijlhbaaRk
import Derived.Test.YtnhmgokjijlhbaaLf
import Derived.Test.YtnhmgokjijlhbaaAmQue
namespace Go.AM
open Go.Proofs Go.Lives

variable {R : Type}

attribute [local simp] nx_eq nx_new nx_set blk_new blk_set asI_int asK_int asB_bool asP_ptr al_eq bx_eq len_slice onE_exit onE_ret onR_ret Value.cells d3 d22 d31 d60 w60 w3 w22 cell_new cell_set rd_new rd_set off eq lt le ifB gv out eqF1 eqF2 eqF3 eqF4 eqF5 eqF6 eqF7 eqF8 ext20 ext21

theorem mapr_set {α : Type} (f : Nat → α) (D t : Nat) (x : α) : ((List.range D).map f).set t x = (List.range D).map fun j => if j = t then x else f j := by
  apply List.ext_getElem
  · simp
  · intro j h1 h2
    simp only [List.getElem_set, List.getElem_map, List.getElem_range]
    by_cases h : t = j
    · rw [if_pos h, if_pos h.symm]
    · rw [if_neg h, if_neg (Ne.symm h)]

theorem mapr_get {α : Type} (f : Nat → α) {D t : Nat} (h : t < D) : ((List.range D).map f)[t]? = some (f t) := by
  rw [List.getElem?_map, List.getElem?_range h]; rfl

/-- The state of the machine while it is made. -/
structure MS (h16 : H) (m D b1 b2 b3 lo : Nat) (v0 av v15 v16 v18 : Value) (bad : Nat → Prop) (vs : List Value) (g : H) (bef : Nat → List Nat) (opn life : Nat → Int) : Prop where
  ord : m < b1 ∧ b1 < b2 ∧ b2 < b3 ∧ b3 < lo
  nx : lo ≤ g.nx
  fr : ∀ b, b < b1 → b ≠ m → g.blk b = h16.blk b
  mb : g.blk m = some (.row [v0, av, v18] 76 true)
  bf : BefR lo bad g b1 v15 vs ((List.range D).map fun t => nI (bef t))
  op : IA g b2 v16 ((List.range D).map opn)
  lf : IA g b3 v18 ((List.range D).map life)

section
variable {h16 : H} {m D b1 b2 b3 lo : Nat} {v0 av v15 v16 v18 : Value} {bad : Nat → Prop} {vs : List Value} {g : H} {bef : Nat → List Nat} {opn life : Nat → Int}

theorem MS.vlen (a : MS h16 m D b1 b2 b3 lo v0 av v15 v16 v18 bad vs g bef opn life) : vs.length = D := by
  rw [a.bf.len]; simp

/-- Other blocks changed. -/
theorem MS.keep (a : MS h16 m D b1 b2 b3 lo v0 av v15 v16 v18 bad vs g bef opn life) {bad' : Nat → Prop} {g' : H} (hn : g.nx ≤ g'.nx) (hb : ∀ b, b < g.nx → ¬ (lo ≤ b ∧ bad b) → g'.blk b = g.blk b) (hbad : ∀ q, lo ≤ q → q < g.nx → bad' q → bad q) :
    MS h16 m D b1 b2 b3 lo v0 av v15 v16 v18 bad' vs g' bef opn life := by
  obtain ⟨o1, o2, o3, o4⟩ := a.ord
  have hnx := a.nx
  refine ⟨a.ord, by omega, fun b h1 h2 => (hb b (by omega) (by omega)).trans (a.fr b h1 h2), (hb _ (by omega) (by omega)).trans a.mb, ?_, a.op.keep hn (hb _ (by omega) (by omega)), a.lf.keep hn (hb _ (by omega) (by omega))⟩
  exact a.bf.keep hn (hb _ (by omega) (by omega)) (fun q h1 h2 h3 => hb q h2 (fun h => h3 h.2)) hbad

theorem MS.setOp (a : MS h16 m D b1 b2 b3 lo v0 av v15 v16 v18 bad vs g bef opn life) (i : Nat) (x : Int) :
    MS h16 m D b1 b2 b3 lo v0 av v15 v16 v18 bad vs (g.set b2 (.row ((((List.range D).map opn).set i x).map iv) 3 true)) bef (upd opn i x) life := by
  obtain ⟨o1, o2, o3, o4⟩ := a.ord
  have h1 := a.op.set i x
  have e : ∀ b, b ≠ b2 → (g.set b2 (.row ((((List.range D).map opn).set i x).map iv) 3 true)).blk b = g.blk b := fun b hb => blk_set_ne _ _ _ hb
  generalize hg : g.set b2 (.row ((((List.range D).map opn).set i x).map iv) 3 true) = g' at *
  have hn : g'.nx = g.nx := by rw [← hg]; rfl
  rw [mapr_set] at h1
  have hnx := a.nx
  refine ⟨a.ord, by omega, fun b q1 q2 => (e b (by omega)).trans (a.fr b q1 q2), (e _ (by omega)).trans a.mb, ?_, h1, a.lf.keep (by omega) (e _ (by omega))⟩
  exact a.bf.keep (by omega) (e _ (by omega)) (fun q q1 q2 q3 => e q (by omega)) (fun _ _ _ h => h)

theorem MS.setLf (a : MS h16 m D b1 b2 b3 lo v0 av v15 v16 v18 bad vs g bef opn life) (i : Nat) (x : Int) :
    MS h16 m D b1 b2 b3 lo v0 av v15 v16 v18 bad vs (g.set b3 (.row ((((List.range D).map life).set i x).map iv) 3 true)) bef opn (upd life i x) := by
  obtain ⟨o1, o2, o3, o4⟩ := a.ord
  have h1 := a.lf.set i x
  have e : ∀ b, b ≠ b3 → (g.set b3 (.row ((((List.range D).map life).set i x).map iv) 3 true)).blk b = g.blk b := fun b hb => blk_set_ne _ _ _ hb
  generalize hg : g.set b3 (.row ((((List.range D).map life).set i x).map iv) 3 true) = g' at *
  have hn : g'.nx = g.nx := by rw [← hg]; rfl
  rw [mapr_set] at h1
  have hnx := a.nx
  refine ⟨a.ord, by omega, fun b q1 q2 => (e b (by omega)).trans (a.fr b q1 q2), (e _ (by omega)).trans a.mb, ?_, a.op.keep (by omega) (e _ (by omega)), h1⟩
  exact a.bf.keep (by omega) (e _ (by omega)) (fun q q1 q2 q3 => e q (by omega)) (fun _ _ _ h => h)

theorem MS.opGet (a : MS h16 m D b1 b2 b3 lo v0 av v15 v16 v18 bad vs g bef opn life) {i : Nat} (hi : i < D) (K : Value → Option R) : (six v16 (i : Int) 1 fun b o => (g.cell b o).bind K) = K (iv (opn i)) :=
  a.op.get (by omega) (by rw [Int.toNat_natCast]; exact mapr_get _ hi) K
theorem MS.lfGet (a : MS h16 m D b1 b2 b3 lo v0 av v15 v16 v18 bad vs g bef opn life) {i : Nat} (hi : i < D) (K : Value → Option R) : (six v18 (i : Int) 1 fun b o => (g.cell b o).bind K) = K (iv (life i)) :=
  a.lf.get (by omega) (by rw [Int.toNat_natCast]; exact mapr_get _ hi) K
theorem MS.opPut (a : MS h16 m D b1 b2 b3 lo v0 av v15 v16 v18 bad vs g bef opn life) {i : Nat} (hi : i < D) (x : Int) (K : H → Option R) : (six v16 (i : Int) 1 fun b o => (wrc 1 g b o (.int .i64 x)).bind K) = K (g.set b2 (.row ((((List.range D).map opn).set i x).map iv) 3 true)) := by
  rw [a.op.put (by omega) (by simp; omega), a.op.wrc (i := ((i : Int)).toNat) (by simp; omega)]; rfl
theorem MS.lfPut (a : MS h16 m D b1 b2 b3 lo v0 av v15 v16 v18 bad vs g bef opn life) {i : Nat} (hi : i < D) (x : Int) (K : H → Option R) : (six v18 (i : Int) 1 fun b o => (wrc 1 g b o (.int .i64 x)).bind K) = K (g.set b3 (.row ((((List.range D).map life).set i x).map iv) 3 true)) := by
  rw [a.lf.put (by omega) (by simp; omega), a.lf.wrc (i := ((i : Int)).toNat) (by simp; omega)]; rfl

/-- The slice of those before a state. -/
theorem MS.befGet (a : MS h16 m D b1 b2 b3 lo v0 av v15 v16 v18 bad vs g bef opn life) {t : Nat} (ht : t < D) : ∃ w, vs[t]? = some w ∧ AqR lo g 3 1 w (cellsI (nI (bef t))) ∧
    ∀ {R : Type} (K : Value → Option R), (six v15 (t : Int) 1 fun b o => (g.cell b o).bind K) = K w := by
  have hl := a.vlen
  obtain ⟨c, hv, hc1, hc2⟩ := a.bf.val
  have hw : vs[t]? = some vs[t] := List.getElem?_eq_getElem (by omega)
  refine ⟨vs[t], hw, a.bf.el t _ _ hw (mapr_get _ ht), fun K => ?_⟩
  rw [hv, six_in (by omega) (by omega)]
  simp [cell_of a.bf.row, hw]
end

def entB (i : Nat) (bef : Nat → List Nat) (x : Int) : Nat → List Nat := if x = -1 then bef else fun t => if t = x.toNat then bef t ++ [i] else bef t
def entO (i : Nat) (opn : Nat → Int) (x : Int) : Nat → Int := if x = -1 then opn else upd opn i (opn i + 1)

/-- The entries of one row. -/
theorem ent_loop {h16 : H} {m D b1 b2 b3 lo : Nat} {v0 av v15 v16 v18 : Value} {bad : Nat → Prop} {vs0 : List Value} {g0 : H} {bef0 : Nat → List Nat} {opn0 life : Nat → Int} (a : MS h16 m D b1 b2 b3 lo v0 av v15 v16 v18 bad vs0 g0 bef0 opn0 life)
    {i N : Nat} {qv v20 : Value} {row : List Int} (hi : i < D) (hs : SlR h16 3 1 v20 (cellsI row)) (hb : ∃ b, blkOf v20 = some b ∧ b < b1 ∧ b ≠ m) (hre : ∀ x ∈ row, x = -1 ∨ (0 ≤ x ∧ x < D)) (hlen : row.length ≤ 5)
    (hbl : ∀ t, (bef0 t).length ≤ N) (hN : N < 2 ^ 28) (hop : opn0 i = 0) (hbad : ∀ q, bad q → q < g0.nx) (hbadlo : ∀ q, bad q → lo ≤ q) (hh : h16.nx ≤ g0.nx) :
    ∃ g' vs, lpGo (f54_l4 rn 200010 v15 v16 [qv, iv i] v20 row.length) 200010 [iv 0] g0 = some (.exit 6, [iv row.length], g') ∧ MS h16 m D b1 b2 b3 lo v0 av v15 v16 v18 bad vs g' (row.foldl (entB i) bef0) (row.foldl (entO i) opn0) life ∧
      g0.nx ≤ g'.nx ∧ ∀ q, bad q → g'.blk q = g0.blk q := by
  obtain ⟨o1, o2, o3, o4⟩ := a.ord
  obtain ⟨ws', g', hlp, vs, hMS, rfl, _, _, hnx, hkeep⟩ := lp_for (σ := (Nat → List Nat) × (Nat → Int)) (F := f54_l4 rn 200010 v15 v16 [qv, iv i] v20 row.length) (k := 200010) (l := row) (fun _ x s => (entB i s.1 x, entO i s.2 x))
    (fun j s ws g => ∃ vs, MS h16 m D b1 b2 b3 lo v0 av v15 v16 v18 bad vs g s.1 s.2 life ∧ ws = [iv j] ∧ (∀ t, (s.1 t).length ≤ N + j) ∧ (0 ≤ s.2 i ∧ s.2 i ≤ j) ∧ g0.nx ≤ g.nx ∧ ∀ q, bad q → g.blk q = g0.blk q) 6 (ws := [iv 0]) (h := g0) (s0 := (bef0, opn0))
    ⟨vs0, a, rfl, by simpa using hbl, by simp [hop], Nat.le_refl _, fun _ _ => rfl⟩ (by omega)
    (by
      rintro s ws g ⟨vs, _, rfl, _⟩
      simp [f54_l4])
    (by
      rintro j x ⟨bef, opn⟩ ws g hx ⟨vs, hMS, rfl, hbl, ⟨hop1, hop2⟩, hnx, hkeep⟩
      simp only at hMS hbl hop1 hop2
      have hj := (List.getElem?_eq_some_iff.1 hx).1
      have hadd : add .i64 (j : Int) 1 = (j : Int) + 1 := add64 (by omega) (by omega)
      have hsg : SlR g 3 1 v20 (cellsI row) := hs.keepB (by omega) fun b hb' => by
        obtain ⟨b', e1, e2, e3⟩ := hb
        rw [e1] at hb'
        cases hb'
        exact hMS.fr b e2 e3
      have e1 : ∀ (K : Value → Option (Ex × List Value × H)), (six v20 (j : Int) 1 fun b o => (g.cell b o).bind K) = K (iv x) := fun K => hsg.c0 (by omega) (x := [iv x]) (by simp [hx]) rfl K
      by_cases hx1 : x = -1
      · subst hx1
        have hB : entB i bef (-1) = bef := if_pos rfl
        have hO : entO i opn (-1) = opn := if_pos rfl
        refine ⟨[iv ((j : Int) + 1)], g, ?_, vs, by simp only [hB, hO]; exact hMS, rfl, fun t => by simp only [hB]; have := hbl t; omega, by simp only [hO]; constructor <;> omega, hnx, hkeep⟩
        simp [f54_l4, hj, e1, hadd]
      · obtain ⟨hx0, hxD⟩ := (hre x (List.mem_of_getElem? hx)).resolve_left hx1
        obtain ⟨t, rfl⟩ := Int.eq_ofNat_of_zero_le hx0
        have htD : t < D := by omega
        obtain ⟨w, hw, haq, e2⟩ := hMS.befGet htD
        have hlo := hMS.nx
        obtain ⟨w', h9, e9, a9, n9, k9, b9, hb9, hb9'⟩ := haq.push app22 app22 (bls22 (i : Int)) rfl rfl (by have := hbl t; simp; omega) hlo
        have hwb : ∀ q, blkOf w = some q → lo ≤ q ∧ q < g.nx := fun q hq => ⟨(haq.blkOf hq).1, (haq.blkOf hq).2.1⟩
        have hcl := a9.cells
        have hk1 : ∀ b, b < lo → h9.blk b = g.blk b := fun b hb => k9 b (by omega) (fun e => by have := (hwb _ e).1; omega)
        have hrow := (hk1 b1 (by omega)).trans hMS.bf.row
        have hvl := hMS.vlen
        have hbl1 : cellsI (nI (bef t)) ++ [[iv (i : Int)]] = cellsI (nI (bef t ++ [i])) := by simp
        rw [hbl1] at a9
        have hgrow := hMS.bf.grow hw (mapr_get _ htD) a9 n9 k9 hb9 hb9' (fun q hq hb => by have := hbad q hb; omega)
        have hwr : wrc 1 h9 b1 t w' = some (h9.set b1 (.row (vs.set t w') 22 true)) := wrc_one hrow hcl.1 hcl.2 (by omega)
        obtain ⟨c, hv15, _, _⟩ := hMS.bf.val
        have e3 : ∀ (K : H → Option (Ex × List Value × H)), (six v15 (t : Int) 1 fun b o => (wrc 1 h9 b o w').bind K) = K (h9.set b1 (.row (vs.set t w') 22 true)) := fun K => by
          rw [hv15, six_in (by omega) (by omega)]
          simp [hwr]
        have hM10 : MS h16 m D b1 b2 b3 lo v0 av v15 v16 v18 bad (vs.set t w') (h9.set b1 (.row (vs.set t w') 22 true)) (entB i bef (t : Int)) opn life := by
          have e4 : ∀ b, b < lo → b ≠ b1 → (h9.set b1 (.row (vs.set t w') 22 true)).blk b = g.blk b := fun b h1 h2 => (blk_set_ne _ _ _ h2).trans (hk1 b h1)
          have hbf2 : (List.range D).map (fun t' => nI (entB i bef (t : Int) t')) = ((List.range D).map fun t => nI (bef t)).set t (nI (bef t ++ [i])) := by
            rw [mapr_set]
            apply List.map_congr_left
            intro j _
            simp only [entB, if_neg (show ¬ (t : Int) = -1 by omega), Int.toNat_natCast]
            by_cases h : j = t
            · subst h; simp
            · simp [h]
          generalize hh10 : h9.set b1 (.row (vs.set t w') 22 true) = h10 at *
          have hn10 : h10.nx = h9.nx := by rw [← hh10]; rfl
          refine ⟨a.ord, by omega, fun b h1 h2 => (e4 b (by omega) (by omega)).trans (hMS.fr b h1 h2), (e4 _ (by omega) (by omega)).trans hMS.mb, ?_, hMS.op.keep (by omega) (e4 _ (by omega) (by omega)), hMS.lf.keep (by omega) (e4 _ (by omega) (by omega))⟩
          rw [hbf2]
          exact hgrow
        have hk10 : ∀ q, bad q → (h9.set b1 (.row (vs.set t w') 22 true)).blk q = g0.blk q := fun q hq => by
          rw [blk_set_ne _ _ _ (fun e => by have := hbadlo q hq; omega), k9 q (by have := hbad q hq; omega) (fun e => hMS.bf.ok w (List.mem_of_getElem? hw) q e hq), hkeep q hq]
        generalize hh10 : h9.set b1 (.row (vs.set t w') 22 true) = h10 at *
        have hn10 : h10.nx = h9.nx := by rw [← hh10]; rfl
        have e5 := fun (K : Value → Option (Ex × List Value × H)) => hM10.opGet hi K
        have hadd2 : add .i64 (opn i) 1 = opn i + 1 := add64 (by omega) (by omega)
        have e6 := fun (K : H → Option (Ex × List Value × H)) => hM10.opPut hi (opn i + 1) K
        have hM11 := hM10.setOp i (opn i + 1)
        refine ⟨[iv ((j : Int) + 1)], h10.set b2 (.row ((((List.range D).map opn).set i (opn i + 1)).map iv) 3 true), ?_, vs.set t w', by simpa [entO, show ¬ (t : Int) = -1 by omega] using hM11, rfl, fun t' => ?_, ?_, ?_, fun q hq => ?_⟩
        · have ee : ∀ (K : Value → H → Option (Ex × List Value × H)), (bls Try.prog g 22 1 [(0, iv (i : Int))] fun y h2 => app Try.prog h2 22 22 w y K) = K w' h9 := fun K => e9 K
          simp [f54_l4, hj, e1, show ¬ (t : Int) = -1 by omega, e2, ee, e3, e5, hadd2, e6, hadd]
        · have := hbl t'
          simp only [entB, if_neg (show ¬ (t : Int) = -1 by omega)]
          split
          · simp; omega
          · omega
        · simp only [entO, if_neg (show ¬ (t : Int) = -1 by omega), upd, if_true]
          omega
        · show g0.nx ≤ h10.nx
          omega
        · rw [blk_set_ne _ _ _ (fun e => by have := hbadlo q hq; omega)]
          exact hk10 q hq)
  refine ⟨g', vs, hlp, ?_, hnx, hkeep⟩
  have hf : ∀ (l : List Int) (j : Nat) (s : (Nat → List Nat) × (Nat → Int)), foldI (fun _ x s => (entB i s.1 x, entO i s.2 x)) l j s = (l.foldl (entB i) s.1, l.foldl (entO i) s.2) := by
    intro l
    induction l with
    | nil => intro j s; rfl
    | cons x l ih => intro j s; exact ih _ _
  rw [hf] at hMS
  exact hMS

end Go.AM
