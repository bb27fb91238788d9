/- The logs that a statement is handed, in the abstract heap. -/
import Derived.Test.YthmfjfblndophaaCa
import Derived.Test.YthmfjfblndophaaAmRun
namespace Go.AM
open Go.Proofs Go.ChangeShapes

variable {HH : Type} {enc : TypeId × Value → HH} {w : World} {base : Nat} {held : Bool}

theorem flat3 (n : Nat) (cs : List Value) (x : DataW HH × List MemPlace) (h : DataW.trod enc Try.prog w base (fun _ => true) held n 3 cs = some x) : ∃ z : Int, cs = [iv z] := by
  obtain ⟨z, h1, _⟩ := DataW.trod_int (show Try.prog.underlying 3 = some (.int .i64) from by kernel_rfl) h
  exact ⟨z, h1⟩

noncomputable def fields59 : Array Field := match Try.prog.underlying 59 with
  | some (.struct fs) => fs
  | _ => #[]

theorem under59 : Try.prog.underlying 59 = some (.struct fields59) := by kernel_rfl
theorem fields59_types : fields59.toList.map (fun f => (f.type, f.offset)) = [(3, 0), (3, 1), (3, 2)] := by kernel_rfl
theorem cellsOf3 : Try.prog.cellsOf 3 = 1 := by kernel_rfl
theorem cellsOf59 : Try.prog.cellsOf 59 = 3 := by kernel_rfl

theorem flat59 (n : Nat) (cs : List Value) (x : DataW HH × List MemPlace) (h : DataW.trod enc Try.prog w base (fun _ => true) held n 59 cs = some x) : ∃ c : Cl, cs = c.cells := by
  obtain ⟨a, b, t, e⟩ := trod_three under59 fields59_types (show Try.prog.underlying 3 = some (.int .i64) from by kernel_rfl) cellsOf3 cellsOf59 h
  exact ⟨⟨a, b, t⟩, e⟩

/-- Rows that are cells of calls are the cells of a list of calls. -/
theorem calls_of : ∀ (l : List (List Value)), (∀ x ∈ l, ∃ c : Cl, x = c.cells) → ∃ l' : List Cl, l = l'.map Cl.cells := by
  intro l
  induction l with
  | nil => intro _; exact ⟨[], rfl⟩
  | cons x l ih =>
    intro h
    obtain ⟨c, hc⟩ := h x (by simp)
    obtain ⟨l', hl⟩ := ih (fun y hy => h y (List.mem_cons_of_mem _ hy))
    exact ⟨c :: l', by rw [hc, hl]; rfl⟩

theorem ints_of : ∀ (l : List (List Value)), (∀ x ∈ l, ∃ z : Int, x = [iv z]) → ∃ l' : List Int, l = l'.map fun z => [iv z] := by
  intro l
  induction l with
  | nil => intro _; exact ⟨[], rfl⟩
  | cons x l ih =>
    intro h
    obtain ⟨c, hc⟩ := h x (by simp)
    obtain ⟨l', hl⟩ := ih (fun y hy => h y (List.mem_cons_of_mem _ hy))
    exact ⟨c :: l', by rw [hc, hl]; rfl⟩

noncomputable def fields24 : Array Field := match Try.prog.underlying 24 with
  | some (.struct fs) => fs
  | _ => #[]
noncomputable def field24 (i : Nat) : Field := fields24[i]!

theorem under24s : Try.prog.underlying 24 = some (.struct fields24) := by kernel_rfl
theorem fields24_eq : fields24 = #[field24 0, field24 1] := by kernel_rfl
theorem field24_0 : ((field24 0).type, (field24 0).offset) = (3, 0) := by kernel_rfl
theorem field24_1 : ((field24 1).type, (field24 1).offset) = (22, 1) := by kernel_rfl
theorem under3 : Try.prog.underlying 3 = some (.int .i64) := by kernel_rfl
theorem under22 : Try.prog.underlying 22 = some (.slice 59) := by kernel_rfl
theorem cellsOf24 : Try.prog.cellsOf 24 = 2 := by kernel_rfl
theorem cellsOf22 : Try.prog.cellsOf 22 = 1 := by kernel_rfl
theorem bytes59 : Try.prog.bytesOf 59 = 24 := by kernel_rfl
theorem bytes3 : Try.prog.bytesOf 3 = 8 := by kernel_rfl
theorem types24 : Try.prog.cellTypes Try.prog.depth 24 = some [3, 22] := by kernel_rfl

set_option maxRecDepth 100000 in
/-- A log that came in. -/
theorem open_log {rr : Reach} {b0 : Nat} {v : Value} {d : DataW HH} {ps : List MemPlace} (hv : Value.okWide Try.prog w rr b0 24 v) (hwt : ∀ x ∈ d.weights Try.prog 24, x ≤ reachBytes)
    (hd : DataW.Trod enc Try.prog w base (fun _ => true) held 24 v d ps) {ι : Nat → Emb} {h : H} (r : Rel Try.prog E0 ι h w) (hro : ∀ b k, h.blk b = some k → k.own = false) :
    ∃ (n : Int) (sl sl0 : Value) (ι' : Nat → Emb) (h' : H) (l : List Cl), v = .agg #[iv n, sl] ∧ (Lit.int .i64 n).wf = true ∧ Rel Try.prog E0 ι' h' w ∧ (∀ b k, h'.blk b = some k → k.own = false) ∧ Ext h h' ∧ (∀ b, b < h.nx → ι' b = ι b) ∧
      VR ι' h'.nx sl0 sl ∧ SlR h' 59 3 sl0 (l.map Cl.cells) := by
  obtain ⟨n, a, len, cap, d1, p1, rfl, hn, hw1, hhas, hd1⟩ := open_numslice under24s fields24_eq (Prod.mk.inj field24_0) (Prod.mk.inj field24_1) under3 under22 cellsOf24 cellsOf3 cellsOf22 types24 hv hwt hd
  obtain ⟨ι', h', v0, l, g1, g2, g3, g4, g5, g6, g7⟩ := open_flat r hro under22 sz59 cellsOf59 (by decide) (Q := fun x => ∃ c : Cl, x = c.cells) flat59 (by
    rintro cs ⟨c, rfl⟩
    exact ⟨rfl, fun v hv => by simp [Cl.cells] at hv; rcases hv with rfl | rfl | rfl <;> exact ⟨_, _, rfl⟩⟩) (by rw [bytes59]; exact Nat.succ_pos _) hw1 hhas hd1
  obtain ⟨l', rfl⟩ := calls_of l g7
  exact ⟨n, _, v0, ι', h', l', rfl, hn, g1, g2, g3, g4, g5, g6⟩

set_option maxRecDepth 100000 in
/-- A slice of numbers that came in. -/
theorem open_nums {rr : Reach} {b0 : Nat} {v : Value} {d : DataW HH} {ps : List MemPlace} (hv : Value.okWide Try.prog w rr b0 25 v) (hwt : ∀ x ∈ d.weights Try.prog 25, x ≤ reachBytes)
    (hd : DataW.Trod enc Try.prog w base (fun _ => true) held 25 v d ps) {ι : Nat → Emb} {h : H} (r : Rel Try.prog E0 ι h w) (hro : ∀ b k, h.blk b = some k → k.own = false) :
    ∃ (v0 : Value) (ι' : Nat → Emb) (h' : H) (l : List Int), Rel Try.prog E0 ι' h' w ∧ (∀ b k, h'.blk b = some k → k.own = false) ∧ Ext h h' ∧ (∀ b, b < h.nx → ι' b = ι b) ∧
      VR ι' h'.nx v0 v ∧ SlR h' 3 1 v0 (l.map fun z => [iv z]) := by
  have hu : Try.prog.underlying 25 = some (.slice 3) := by kernel_rfl
  simp only [Value.okWide, hu] at hv
  have hy : ∃ a len cap, v = .slice a len cap := by
    simp only [Cell.okWide, hu] at hv
    cases v <;> simp_all [Cell.ok]
  obtain ⟨a, len, cap, rfl⟩ := hy
  obtain ⟨ι', h', v0, l, g1, g2, g3, g4, g5, g6, g7⟩ := open_flat r hro hu sz3 cellsOf3 (by decide) (Q := fun x => ∃ z : Int, x = [iv z]) flat3 (by
    rintro cs ⟨c, rfl⟩
    exact ⟨rfl, fun v hv => by simp at hv; subst hv; exact ⟨_, _, rfl⟩⟩) (by rw [bytes3]; exact Nat.succ_pos _) hwt (okWide_has hu hv) hd
  obtain ⟨l', rfl⟩ := ints_of l g7
  exact ⟨v0, ι', h', l', g1, g2, g3, g4, g5, g6⟩

end Go.AM
