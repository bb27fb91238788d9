/- Tables that a statement is handed, in the abstract heap. -/
import Derived.Test.YtnhmgokjijlhbaaTa
import Derived.Test.YtnhmgokjijlhbaaLg
namespace Go.AM
open Go.Proofs Go.ChangeShapes

variable {HH : Type} {enc : TypeId × Value → HH} {w : World} {base : Nat} {held : Bool}

section
variable {P : Program}

/-- A struct of two whole numbers and a slice. -/
theorem open_num2slice {t ti ts e : TypeId} {fs : Array Field} {f0 f1 f2 : Field} {rr : Reach} {b0 : Nat} {v : Value} {d : DataW HH} {ps : List MemPlace} (hu : P.underlying t = some (.struct fs)) (hfs : fs = #[f0, f1, f2])
    (h0 : f0.type = ti ∧ f0.offset = 0) (h1 : f1.type = ti ∧ f1.offset = 1) (h2 : f2.type = ts ∧ f2.offset = 2) (hti : P.underlying ti = some (.int .i64)) (hts : P.underlying ts = some (.slice e)) (hc : P.cellsOf t = 3) (hci : P.cellsOf ti = 1) (hcs : P.cellsOf ts = 1)
    (hct : P.cellTypes P.depth t = some [ti, ti, ts]) (hv : Value.okWide P w rr b0 t v) (hwt : ∀ x ∈ d.weights P t, x ≤ reachBytes) (hd : DataW.Trod enc P w base (fun _ => true) held t v d ps) :
    ∃ (n m : Int) (a : Option Addr) (len cap : Nat) (d1 : DataW HH) (p1 : List MemPlace), v = .agg #[.int .i64 n, .int .i64 m, .slice a len cap] ∧ (∀ x ∈ d1.weights P ts, x ≤ reachBytes) ∧
      (∀ a', a = some a' → a'.spot = none ∧ a'.block < w.heap.size) ∧ DataW.Trod enc P w base (fun _ => true) held ts (.slice a len cap) d1 p1 := by
  simp only [Value.okWide, hu] at hv
  obtain ⟨cs, rfl, hsz, tys, htys, _, hrow⟩ := hv
  rw [hct] at htys
  cases htys
  rw [hc] at hsz
  have hxy : ∃ x y z, cs = #[x, y, z] := by
    obtain ⟨l⟩ := cs
    match l, hsz with
    | [x, y, z], _ => exact ⟨x, y, z, rfl⟩
  obtain ⟨x, y, z, rfl⟩ := hxy
  obtain ⟨u0, e0, c0⟩ := hrow 0 x rfl
  obtain ⟨u1, e1, c1⟩ := hrow 1 y rfl
  obtain ⟨u2, e2, c2⟩ := hrow 2 z rfl
  simp at e0 e1 e2
  subst e0; subst e1; subst e2
  have hx : ∃ n, x = .int .i64 n := by
    simp only [Cell.okWide, hti] at c0
    cases x <;> simp_all [Cell.ok]
  have hy : ∃ n, y = .int .i64 n := by
    simp only [Cell.okWide, hti] at c1
    cases y <;> simp_all [Cell.ok]
  have hz : ∃ a len cap, z = .slice a len cap := by
    simp only [Cell.okWide, hts] at c2
    cases z <;> simp_all [Cell.ok]
  obtain ⟨n, rfl⟩ := hx
  obtain ⟨m, rfl⟩ := hy
  obtain ⟨a, len, cap, rfl⟩ := hz
  obtain ⟨fuel, hf⟩ := hd
  obtain ⟨xs, fu, rfl, hx, _, hxl, each⟩ := DataW.trod_struct hu hf
  have a2 := each 2 f2 (by rw [hfs]; rfl)
  rw [h2.1, h2.2, hcs] at a2
  have hl3 : xs.length = 3 := by rw [hxl, hfs]; rfl
  rw [List.getElem?_eq_getElem (show 2 < xs.length by omega)] at a2
  have hdd : d = .agg (xs.map (·.1)) := congrArg Prod.fst hx
  refine ⟨n, m, a, len, cap, xs[2].1, xs[2].2, rfl, fun q hq => hwt q ?_, okWide_has hts c2, fu, a2⟩
  rw [hdd]
  simp only [DataW.weights, hu]
  refine DataW.weights_mem_each (j := 2) (t := ts) (d := xs[2].1) (by rw [hfs]; simp [h2.1]) ?_ q hq
  rw [List.getElem?_map, List.getElem?_eq_getElem (show 2 < xs.length by omega)]
  rfl

/-- The cells of a struct of four whole numbers. -/
theorem trod_four {e ti : TypeId} {fs : Array Field} (hu : P.underlying e = some (.struct fs)) (ht : fs.toList.map (fun f => (f.type, f.offset)) = [(ti, 0), (ti, 1), (ti, 2), (ti, 3)]) (hti : P.underlying ti = some (.int .i64))
    (hci : P.cellsOf ti = 1) (hce : P.cellsOf e = 4) {n : Nat} {cs : List Value} {x : DataW HH × List MemPlace} (h : DataW.trod enc P w base (fun _ => true) held n e cs = some x) : ∃ a b c d : Int, cs = [iv a, iv b, iv c, iv d] := by
  obtain ⟨xs, m, rfl, _, hl, hxs, each⟩ := DataW.trod_struct hu h
  rw [hce] at hl
  have hsz : fs.size = 4 := by
    have := congrArg List.length ht
    simpa using this
  have key : ∀ i, i < 4 → ∃ z : Int, (cs.drop i).take 1 = [iv z] := by
    intro i hi
    have hf : fs[i]? = some fs[i] := Array.getElem?_eq_getElem (by omega)
    have h1 := each i _ hf
    have h2 : (fs.toList.map (fun f => (f.type, f.offset)))[i]? = some (fs[i].type, fs[i].offset) := by
      rw [List.getElem?_map, Array.getElem?_toList, hf]; rfl
    rw [ht] at h2
    have h3 : fs[i].type = ti ∧ fs[i].offset = i := by
      rcases (by omega : i = 0 ∨ i = 1 ∨ i = 2 ∨ i = 3) with rfl | rfl | rfl | rfl <;> (simp at h2; exact ⟨h2.1.symm, h2.2.symm⟩)
    rw [h3.1, h3.2, hci, List.getElem?_eq_getElem (show i < xs.length by omega)] at h1
    obtain ⟨z, hz, _⟩ := DataW.trod_int hti h1
    exact ⟨z, hz⟩
  obtain ⟨a, ha⟩ := key 0 (by omega)
  obtain ⟨b, hb⟩ := key 1 (by omega)
  obtain ⟨c, hc⟩ := key 2 (by omega)
  obtain ⟨d, hd⟩ := key 3 (by omega)
  match cs, hl with
  | [x, y, z, u], _ =>
    simp at ha hb hc hd
    exact ⟨a, b, c, d, by simp [ha, hb, hc, hd]⟩

end

noncomputable def fields89 : Array Field := match Try.prog.underlying 89 with
  | some (.struct fs) => fs
  | _ => #[]
theorem under89 : Try.prog.underlying 89 = some (.struct fields89) := by kernel_rfl
theorem fields89_types : fields89.toList.map (fun f => (f.type, f.offset)) = [(3, 0), (3, 1), (3, 2), (3, 3)] := by kernel_rfl
theorem cellsOf89 : Try.prog.cellsOf 89 = 4 := by kernel_rfl

theorem flat89 (n : Nat) (cs : List Value) (x : DataW HH × List MemPlace) (h : DataW.trod enc Try.prog w base (fun _ => true) held n 89 cs = some x) : ∃ c : Sp, cs = c.cells := by
  obtain ⟨a, b, c, d, e⟩ := trod_four under89 fields89_types under3 cellsOf3 cellsOf89 h
  exact ⟨⟨a, b, c, d⟩, e⟩

theorem spans_of : ∀ (l : List (List Value)), (∀ x ∈ l, ∃ c : Sp, x = c.cells) → ∃ l' : List Sp, l = l'.map Sp.cells := by
  intro l
  induction l with
  | nil => intro _; exact ⟨[], rfl⟩
  | cons x l ih =>
    intro h
    obtain ⟨c, hc⟩ := h x (by simp)
    obtain ⟨l', hl⟩ := ih (fun y hy => h y (List.mem_cons_of_mem _ hy))
    exact ⟨c :: l', by rw [hc, hl]; rfl⟩

noncomputable def fields47 : Array Field := match Try.prog.underlying 47 with
  | some (.struct fs) => fs
  | _ => #[]
noncomputable def field47 (i : Nat) : Field := fields47[i]!

theorem under47s : Try.prog.underlying 47 = some (.struct fields47) := by kernel_rfl
theorem fields47_eq : fields47 = #[field47 0, field47 1, field47 2] := by kernel_rfl
theorem field47_0 : ((field47 0).type, (field47 0).offset) = (3, 0) := by kernel_rfl
theorem field47_1 : ((field47 1).type, (field47 1).offset) = (3, 1) := by kernel_rfl
theorem field47_2 : ((field47 2).type, (field47 2).offset) = (45, 2) := by kernel_rfl
theorem under45 : Try.prog.underlying 45 = some (.slice 89) := by kernel_rfl
theorem cellsOf47 : Try.prog.cellsOf 47 = 3 := by kernel_rfl
theorem cellsOf45 : Try.prog.cellsOf 45 = 1 := by kernel_rfl
theorem bytes89 : Try.prog.bytesOf 89 = 32 := by kernel_rfl
theorem types47 : Try.prog.cellTypes Try.prog.depth 47 = some [3, 3, 45] := by kernel_rfl

set_option maxRecDepth 100000 in
/-- A table that came in. -/
theorem open_table {rr : Reach} {b0 : Nat} {v : Value} {d : DataW HH} {ps : List MemPlace} (hv : Value.okWide Try.prog w rr b0 47 v) (hwt : ∀ x ∈ d.weights Try.prog 47, x ≤ reachBytes)
    (hd : DataW.Trod enc Try.prog w base (fun _ => true) held 47 v d ps) {ι : Nat → Emb} {h : H} (r : Rel Try.prog E0 ι h w) (hro : ∀ b k, h.blk b = some k → k.own = false) :
    ∃ (n m : Int) (sl sl0 : Value) (ι' : Nat → Emb) (h' : H) (l : List Sp), v = .agg #[iv n, iv m, sl] ∧ Rel Try.prog E0 ι' h' w ∧ (∀ b k, h'.blk b = some k → k.own = false) ∧ Ext h h' ∧ (∀ b, b < h.nx → ι' b = ι b) ∧
      VR ι' h'.nx sl0 sl ∧ SlR h' 89 4 sl0 (l.map Sp.cells) := by
  obtain ⟨n, m, a, len, cap, d1, p1, rfl, hw1, hhas, hd1⟩ := open_num2slice under47s fields47_eq (Prod.mk.inj field47_0) (Prod.mk.inj field47_1) (Prod.mk.inj field47_2) under3 under45 cellsOf47 cellsOf3 cellsOf45 types47 hv hwt hd
  obtain ⟨ι', h', v0, l, g1, g2, g3, g4, g5, g6, g7⟩ := open_flat r hro under45 sz89 cellsOf89 (by decide) (Q := fun x => ∃ c : Sp, x = c.cells) flat89 (by
    rintro cs ⟨c, rfl⟩
    exact ⟨rfl, fun v hv => by simp [Sp.cells] at hv; rcases hv with rfl | rfl | rfl | rfl <;> exact ⟨_, _, rfl⟩⟩) (by rw [bytes89]; exact Nat.succ_pos _) hw1 hhas hd1
  obtain ⟨l', rfl⟩ := spans_of l g7
  exact ⟨n, m, _, v0, ι', h', l', rfl, g1, g2, g3, g4, g5, g6⟩

end Go.AM
