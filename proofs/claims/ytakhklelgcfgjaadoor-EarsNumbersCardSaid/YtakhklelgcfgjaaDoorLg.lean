/- Slices of numbers that a statement is handed, in the abstract heap. -/
import Derived.Test.YtakhklelgcfgjaaDoorSx
import Derived.Test.YtakhklelgcfgjaaDoorAmRun
import Derived.Test.YtakhklelgcfgjaaDoorRows
import Derived.LaidMore
import Derived.Stop.Joined
import Derived.ProofKit
import Derived.OpenShut
namespace Go.AM
open Go.Proofs Go.ChangeShapes

variable {HH : Type} {enc : TypeId × Value → HH} {w : World} {base : Nat} {held : Bool}

theorem flat3 (n : Nat) (cs : List Value) (x : DataW HH × List MemPlace) (h : DataW.trod enc Tryd.prog w base (fun _ => true) held n 3 cs = some x) : ∃ z : Int, cs = [iv z] := by
  obtain ⟨z, h1, _⟩ := DataW.trod_int (show Tryd.prog.underlying 3 = some (.int .i64) from by kernel_rfl) h
  exact ⟨z, h1⟩

theorem cellsOf3 : Tryd.prog.cellsOf 3 = 1 := by kernel_rfl
theorem under3 : Tryd.prog.underlying 3 = some (.int .i64) := by kernel_rfl
theorem bytes3 : Tryd.prog.bytesOf 3 = 8 := by kernel_rfl

theorem ints_of : ∀ (l : List (List Value)), (∀ x ∈ l, ∃ z : Int, x = [iv z]) → ∃ l' : List Int, l = l'.map fun z => [iv z] := by
  intro l
  induction l with
  | nil => intro _; exact ⟨[], rfl⟩
  | cons x l ih =>
    intro h
    obtain ⟨c, hc⟩ := h x (by simp)
    obtain ⟨l', hl⟩ := ih (fun y hy => h y (List.mem_cons_of_mem _ hy))
    exact ⟨c :: l', by rw [hc, hl]; rfl⟩

set_option maxRecDepth 100000 in
/-- A graph that came in. -/
theorem open_graph {rr : Reach} {b0 : Nat} {v : Value} {d : DataW HH} {ps : List MemPlace} (hv : Value.okWide Tryd.prog w rr b0 23 v) (hwt : ∀ x ∈ d.weights Tryd.prog 23, x ≤ reachBytes)
    (hd : DataW.Trod enc Tryd.prog w base (fun _ => true) held 23 v d ps) {ι : Nat → Emb} {h : H} (r : Rel Tryd.prog E0 ι h w) (hro : ∀ b k, h.blk b = some k → k.own = false) :
    ∃ (v0 : Value) (ι' : Nat → Emb) (h' : H) (l : List Int), Rel Tryd.prog E0 ι' h' w ∧ (∀ b k, h'.blk b = some k → k.own = false) ∧ Ext h h' ∧ (∀ b, b < h.nx → ι' b = ι b) ∧
      VR ι' h'.nx v0 v ∧ SlR h' 3 1 v0 (l.map fun z => [iv z]) := by
  have hu : Tryd.prog.underlying 23 = some (.slice 3) := by kernel_rfl
  simp only [Value.okWide, hu] at hv
  have hy : ∃ a len cap, v = .slice a len cap := by
    simp only [Cell.okWide, hu] at hv
    cases v <;> simp_all [Cell.ok]
  obtain ⟨a, len, cap, rfl⟩ := hy
  obtain ⟨ι', h', v0, l, g1, g2, g3, g4, g5, g6, g7⟩ := open_flat r hro hu sz3 cellsOf3 (by decide) (Q := fun x => ∃ z : Int, x = [iv z]) flat3 (by
    rintro cs ⟨c, rfl⟩
    exact ⟨rfl, fun v hv => by simp at hv; subst hv; exact ⟨_, _, rfl⟩⟩) (by rw [bytes3]; exact Nat.succ_pos _) hwt (okWide_has hu hv) hd
  obtain ⟨l', rfl⟩ := ints_of l g7
  exact ⟨v0, ι', h', l', g1, g2, g3, g4, g5, g6⟩

/-! ### Streets and numbers that came in -/

noncomputable def fields94 : Array Field := match Tryd.prog.underlying 94 with
  | some (.struct fs) => fs
  | _ => #[]

theorem under94 : Tryd.prog.underlying 94 = some (.struct fields94) := by kernel_rfl
theorem fields94_types : fields94.toList.map (fun f => (f.type, f.offset)) = [(3, 0), (3, 1)] := by kernel_rfl
theorem cellsOf94 : Tryd.prog.cellsOf 94 = 2 := by kernel_rfl
theorem bytes94 : Tryd.prog.bytesOf 94 = 16 := by kernel_rfl

theorem trod_two {P : Program} {e ti : TypeId} {fs : Array Field} (hu : P.underlying e = some (.struct fs)) (ht : fs.toList.map (fun f => (f.type, f.offset)) = [(ti, 0), (ti, 1)]) (hti : P.underlying ti = some (.int .i64))
    (hci : P.cellsOf ti = 1) (hce : P.cellsOf e = 2) {n : Nat} {cs : List Value} {x : DataW HH × List MemPlace} (h : DataW.trod enc P w base (fun _ => true) held n e cs = some x) : ∃ a b : Int, cs = [iv a, iv b] := by
  obtain ⟨xs, m, rfl, _, hl, hxs, each⟩ := DataW.trod_struct hu h
  rw [hce] at hl
  have hsz : fs.size = 2 := by
    have := congrArg List.length ht
    simpa using this
  have key : ∀ i, i < 2 → ∃ z : Int, (cs.drop i).take 1 = [iv z] := by
    intro i hi
    have hf : fs[i]? = some fs[i] := Array.getElem?_eq_getElem (by omega)
    have h1 := each i _ hf
    have h2 : (fs.toList.map (fun f => (f.type, f.offset)))[i]? = some (fs[i].type, fs[i].offset) := by
      rw [List.getElem?_map, Array.getElem?_toList, hf]; rfl
    rw [ht] at h2
    have h3 : fs[i].type = ti ∧ fs[i].offset = i := by
      rcases (by omega : i = 0 ∨ i = 1) with rfl | rfl <;> (simp at h2; exact ⟨h2.1.symm, h2.2.symm⟩)
    rw [h3.1, h3.2, hci, List.getElem?_eq_getElem (show i < xs.length by omega)] at h1
    obtain ⟨z, hz, _⟩ := DataW.trod_int hti h1
    exact ⟨z, hz⟩
  obtain ⟨a, ha⟩ := key 0 (by omega)
  obtain ⟨b, hb⟩ := key 1 (by omega)
  match cs, hl with
  | [x, y], _ =>
    simp at ha hb
    exact ⟨a, b, by simp [ha, hb]⟩

theorem flat94 (n : Nat) (cs : List Value) (x : DataW HH × List MemPlace) (h : DataW.trod enc Tryd.prog w base (fun _ => true) held n 94 cs = some x) : ∃ c : Int × Int, cs = [iv c.1, iv c.2] := by
  obtain ⟨a, b, e⟩ := trod_two under94 fields94_types under3 cellsOf3 cellsOf94 h
  exact ⟨(a, b), e⟩

theorem pairs_of : ∀ (l : List (List Value)), (∀ x ∈ l, ∃ c : Int × Int, x = [iv c.1, iv c.2]) → ∃ l' : List (Int × Int), l = l'.map fun c => [iv c.1, iv c.2] := by
  intro l
  induction l with
  | nil => intro _; exact ⟨[], rfl⟩
  | cons x l ih =>
    intro h
    obtain ⟨c, hc⟩ := h x (by simp)
    obtain ⟨l', hl⟩ := ih (fun y hy => h y (List.mem_cons_of_mem _ hy))
    exact ⟨c :: l', by rw [hc, hl]; rfl⟩

set_option maxRecDepth 100000 in
theorem open_streets {rr : Reach} {b0 : Nat} {v : Value} {d : DataW HH} {ps : List MemPlace} (hv : Value.okWide Tryd.prog w rr b0 37 v) (hwt : ∀ x ∈ d.weights Tryd.prog 37, x ≤ reachBytes)
    (hd : DataW.Trod enc Tryd.prog w base (fun _ => true) held 37 v d ps) {ι : Nat → Emb} {h : H} (r : Rel Tryd.prog E0 ι h w) (hro : ∀ b k, h.blk b = some k → k.own = false) :
    ∃ (v0 : Value) (ι' : Nat → Emb) (h' : H) (l : List (Int × Int)), Rel Tryd.prog E0 ι' h' w ∧ (∀ b k, h'.blk b = some k → k.own = false) ∧ Ext h h' ∧ (∀ b, b < h.nx → ι' b = ι b) ∧
      VR ι' h'.nx v0 v ∧ SlR h' 94 2 v0 (l.map fun c => [iv c.1, iv c.2]) := by
  have hu : Tryd.prog.underlying 37 = some (.slice 94) := by kernel_rfl
  simp only [Value.okWide, hu] at hv
  have hy : ∃ a len cap, v = .slice a len cap := by
    simp only [Cell.okWide, hu] at hv
    cases v <;> simp_all [Cell.ok]
  obtain ⟨a, len, cap, rfl⟩ := hy
  obtain ⟨ι', h', v0, l, g1, g2, g3, g4, g5, g6, g7⟩ := open_flat r hro hu sz94 cellsOf94 (by decide) (Q := fun x => ∃ c : Int × Int, x = [iv c.1, iv c.2]) flat94 (by
    rintro cs ⟨c, rfl⟩
    exact ⟨rfl, fun v hv => by simp at hv; rcases hv with rfl | rfl <;> exact ⟨_, _, rfl⟩⟩) (by rw [bytes94]; exact Nat.succ_pos _) hwt (okWide_has hu hv) hd
  obtain ⟨l', rfl⟩ := pairs_of l g7
  exact ⟨v0, ι', h', l', g1, g2, g3, g4, g5, g6⟩

set_option maxRecDepth 100000 in
theorem open_nums {rr : Reach} {b0 : Nat} {v : Value} {d : DataW HH} {ps : List MemPlace} (hv : Value.okWide Tryd.prog w rr b0 22 v) (hwt : ∀ x ∈ d.weights Tryd.prog 22, x ≤ reachBytes)
    (hd : DataW.Trod enc Tryd.prog w base (fun _ => true) held 22 v d ps) {ι : Nat → Emb} {h : H} (r : Rel Tryd.prog E0 ι h w) (hro : ∀ b k, h.blk b = some k → k.own = false) :
    ∃ (v0 : Value) (ι' : Nat → Emb) (h' : H) (l : List Int), Rel Tryd.prog E0 ι' h' w ∧ (∀ b k, h'.blk b = some k → k.own = false) ∧ Ext h h' ∧ (∀ b, b < h.nx → ι' b = ι b) ∧
      VR ι' h'.nx v0 v ∧ SlR h' 3 1 v0 (l.map fun z => [iv z]) := by
  have hu : Tryd.prog.underlying 22 = some (.slice 3) := by kernel_rfl
  simp only [Value.okWide, hu] at hv
  have hy : ∃ a len cap, v = .slice a len cap := by
    simp only [Cell.okWide, hu] at hv
    cases v <;> simp_all [Cell.ok]
  obtain ⟨a, len, cap, rfl⟩ := hy
  obtain ⟨ι', h', v0, l, g1, g2, g3, g4, g5, g6, g7⟩ := open_flat r hro hu sz3 cellsOf3 (by decide) (Q := fun x => ∃ z : Int, x = [iv z]) flat3 (by
    rintro cs ⟨c, rfl⟩
    exact ⟨rfl, fun v hv => by simp at hv; subst hv; exact ⟨_, _, rfl⟩⟩) (by rw [bytes3]; exact Nat.succ_pos _) hwt (okWide_has hu hv) hd
  obtain ⟨l', rfl⟩ := ints_of l g7
  exact ⟨v0, ι', h', l', g1, g2, g3, g4, g5, g6⟩


/-! ### The table -/

open Go.Proofs.YtakhklelgcfgjaaDoor

theorem glTab32 : Tryd.prog.globalNamed "math/bits.deBruijn32tab" = some 0 := by kernel_rfl
theorem glTab : Tryd.prog.globalNamed "math/bits.deBruijn64tab" = some 1 := by kernel_rfl
theorem tyTab : (Tryd.prog.globals[1]?).map (·.type) = some 136 := by kernel_rfl
theorem under136 : Tryd.prog.underlying 136 = some (.array 64 5) := by kernel_rfl
theorem under5 : Tryd.prog.underlying 5 = some (.int .u8) := by kernel_rfl
theorem cellsOf5 : Tryd.prog.cellsOf 5 = 1 := by kernel_rfl
theorem cellsOf136 : Tryd.prog.cellsOf 136 = 64 := by kernel_rfl

/-- What the rows say of the package-level variables. -/
def laidT : List (String × DataW Unit) := [("math/bits.deBruijn32tab", Rows.laid_math_bits_deBruijn32tab), ("math/bits.deBruijn64tab", Rows.laid_math_bits_deBruijn64tab)]

theorem laid64_eq : (Rows.laid_math_bits_deBruijn64tab : DataW Unit) = .agg (tab64.map fun n => .lit (.int .u8 n)) := by kernel_rfl

theorem tab_len : tab64.length = 64 := by decide

set_option maxRecDepth 100000 in
/-- What the condition gives: each cell of the table. -/
theorem of_laid {W : World} (h : laidMetH Tryd.prog laidT W) (i : Nat) (z : Int) (hz : tab64[i]? = some z) : W.cell? ⟨1, i, none⟩ = some (.int .u8 z) := by
  rw [MakeChecks.laidMetH_plain _ _ _ (by kernel_rfl)] at h
  obtain ⟨ps, ⟨g0, t0, cs0, f0, p0, q0, hg0, ht0, hv0, hd0, ⟨g1, t1, cs1, f1, p1, q1, hg1, ht1, hv1, hd1, _, _⟩, _⟩, _, _⟩ := h
  obtain rfl := Option.some.inj (glTab.symm.trans hg1)
  obtain rfl := Option.some.inj (tyTab.symm.trans ht1)
  obtain ⟨xs, m1, rfl, hx1, hlen, hn3, hel⟩ := DataW.trod_array under136 hd1
  have hi : i < 64 := by rw [← tab_len]; exact (List.getElem?_eq_some_iff.1 hz).1
  have h0 := hel i hi
  rw [cellsOf5, Nat.mul_one] at h0
  have hxi : xs[i]? = some xs[i] := List.getElem?_eq_getElem (by omega)
  rw [hxi] at h0
  obtain ⟨k, e1, e2, _⟩ := DataW.trod_int under5 h0
  have hx2 : DataW.agg (tab64.map fun n => DataW.lit (.int .u8 n)) = DataW.agg (xs.map (·.1)) := by
    rw [← laid64_eq]
    exact congrArg Prod.fst hx1
  have hx3 : (tab64.map fun n => (DataW.lit (.int .u8 n) : DataW Unit)) = xs.map (·.1) := by
    exact DataW.agg.inj hx2
  have hx4 := congrArg (·[i]?) hx3
  simp only [List.getElem?_map, hz, hxi, Option.map_some, Option.some.injEq] at hx4
  rw [e2] at hx4
  have hk : z = k := by
    have h5 : (DataW.lit (Lit.int .u8 z) : DataW Unit) = DataW.lit (Lit.int .u8 k) := hx4
    exact (Lit.int.inj (DataW.lit.inj h5)).2
  subst hk
  rw [World.var?_cell hg1 hv1 i]
  have hcl : cs1.toList[i]? = some (.int .u8 z) := by
    have := congrArg (·[0]?) e1
    simpa [List.getElem?_take, List.getElem?_drop] using this
  simpa using hcl

/-- The beginning: the table alone. -/
def hTab : H := ⟨fun b => if b = 1 then some (.row (tab64.map fun n => .int .u8 n) 5 false) else none, 2, 0⟩
def ιTab : Nat → Emb := fun g => ⟨g, 0, 64, 1⟩

set_option maxRecDepth 100000 in
theorem rel_tab {W : World} (h : laidMetH Tryd.prog laidT W) : Rel Tryd.prog E0 ιTab hTab W := by
  have hc := of_laid h
  have h0 := hc 0 0 (by decide)
  have hsz : 1 < W.heap.size := by
    unfold World.cell? at h0
    split at h0
    · rename_i hb
      rcases Nat.lt_or_ge 1 W.heap.size with h1 | h1
      · exact h1
      · rw [Array.getElem?_eq_none h1] at hb; cases hb
    · cases h0
  have hrow : ∀ n, BlkR Tryd.prog ιTab n W 1 (.row (tab64.map fun n => .int .u8 n) 5 false) := by
    intro n
    refine ⟨hsz, sz5, fun i v hv => ?_⟩
    rw [List.getElem?_map] at hv
    obtain ⟨z, hz, rfl⟩ := Option.map_eq_some_iff.1 hv
    refine ⟨.int .u8 z, ?_, .int .u8 z⟩
    have := hc i z hz
    simpa [ιTab] using this
  refine ⟨fun b k hb => ?_, fun b k hb => ?_, fun b b' k k' hb _ _ ho => ?_, Nat.le_refl _, fun g _ => ⟨rfl, rfl⟩, fun g hg => ?_, fun g k hg hk => ?_⟩
  · simp only [hTab] at hb ⊢
    split at hb
    · omega
    · cases hb
  · simp only [hTab] at hb
    split at hb
    · rename_i h1
      subst h1
      cases hb
      exact hrow _
    · cases hb
  · simp only [hTab] at hb
    split at hb
    · cases hb; cases ho
    · cases hb
  · simp only [hTab, E0]
  · simp only [E0] at hk
    split at hk
    · rename_i h1
      subst h1
      cases hk
      exact ⟨rfl, hrow _⟩
    · cases hk

theorem ro_tab : ∀ b k, hTab.blk b = some k → k.own = false := by
  intro b k hb
  simp only [hTab] at hb
  split at hb
  · cases hb; rfl
  · cases hb

end Go.AM
