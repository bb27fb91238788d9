/- The arguments of a call, in the abstract heap. -/
import Derived.Test.YthmfjfblndophaaAmLaw
import Derived.Test.YthmfjfblndophaaAmSl
import Derived.ChangeArms
import Derived.ChangeSlices
import Derived.WideShapes
import Derived.SizedLaws
namespace Go.AM
open Go.ChangeShapes

section
variable {P : Program} {E : Env} {ι : Nat → Emb} {h : H} {w : World}

/-- A row to be read alone. -/
theorem Rel.addRO (r : Rel P E ι h w) (hro : ∀ b k, h.blk b = some k → k.own = false) {cs : List Value} {e : TypeId} {m : Emb} (hg : m.g < w.heap.size) (hs : size? P e = some m.sz)
    (hc : ∀ (i : Nat) (v : Value), cs[i]? = some v → ∃ v', w.cell? ⟨m.g, m.base + i, none⟩ = some v' ∧ VR ι h.nx v v') :
    Rel P E (Emb.new ι h.nx m) (h.new (.row cs e false)) w ∧ (∀ b k, (h.new (.row cs e false)).blk b = some k → k.own = false) := by
  have hlt : ∀ {b}, b < h.nx → Emb.new ι h.nx m b = ι b := fun hb => Emb.new_lt ι _ m hb
  have hro' : ∀ b k, (h.new (.row cs e false)).blk b = some k → k.own = false := by
    intro b k hb
    simp only [H.new] at hb
    split at hb
    · cases hb; rfl
    · exact hro b k hb
  refine ⟨⟨?_, ?_, ?_, ?_, ?_, ?_, ?_⟩, hro'⟩
  · intro b k hb
    simp only [H.new] at hb ⊢
    split at hb
    · omega
    · have := r.dom b k hb; omega
  · intro b k hb
    simp only [H.new] at hb ⊢
    split at hb
    · rename_i e1
      cases hb
      subst e1
      refine ⟨by rw [Emb.new_at]; exact hg, by rw [Emb.new_at]; exact hs, fun i v hv => ?_⟩
      obtain ⟨v', h1, h2⟩ := hc i v hv
      rw [Emb.new_at]
      exact ⟨v', h1, h2.mono (Nat.le_succ _) (fun b hb => hlt hb)⟩
    · have hbl := r.dom b k hb
      exact (r.blk b k hb).mono (Nat.le_succ _) (fun b hb => hlt hb) (hlt hbl)
  · intro b b' k k' hb hb' _ ho
    rw [hro' b k hb] at ho
    cases ho
  · simp only [H.new]; exact Nat.le_succ_of_le r.ng
  · intro g hg'
    rw [hlt (Nat.lt_of_lt_of_le hg' r.ng)]
    exact r.glob g hg'
  · intro g hg'
    simp only [H.new]
    rw [if_neg (by have := r.ng; omega)]
    exact r.globB g hg'
  · intro g k' hg' hk'
    obtain ⟨h1, h2⟩ := r.globO g k' hg' hk'
    have hgl := Nat.lt_of_lt_of_le hg' r.ng
    exact ⟨h1, h2.mono (Nat.le_refl _) (fun b hb => hlt (Nat.lt_of_lt_of_le hb r.ng)) (hlt hgl)⟩

theorem cell_lt {a : Addr} {v : Value} (h : w.cell? a = some v) : a.block < w.heap.size ∧ a.spot = none := by
  unfold World.cell? at h
  split at h
  · rename_i c _ _ hb
    refine ⟨?_, ?_⟩
    · rcases Nat.lt_or_ge a.block w.heap.size with h1 | h1
      · exact h1
      · rw [Array.getElem?_eq_none h1] at hb; cases hb
    · split at h
      · cases h
      · rename_i hs
        simpa using hs
  · cases h

theorem add_add {a : Addr} (ha : a.spot = none) (i j : Nat) : (a.add i).add j = ⟨a.block, a.off + (i + j), none⟩ := by
  obtain ⟨b, o, s⟩ := a
  simp only at ha
  subst ha
  unfold Addr.add
  by_cases h1 : i = 0 <;> by_cases h2 : j = 0 <;> simp [h1, h2, Nat.add_assoc]

/-- What a whole number stands for is itself. -/
theorem VR.ints {n : Nat} {v : Value} (h : ∃ k x, v = .int k x) : VR ι n v v := by
  obtain ⟨k, x, rfl⟩ := h
  exact .int k x

variable {HH : Type} {enc : TypeId × Value → HH} {base : Nat} {held : Bool}

/-- A slice whose elements are of whole numbers alone. -/
theorem open_flat (r : Rel P E ι h w) (hro : ∀ b k, h.blk b = some k → k.own = false) {t e : TypeId} {s : Nat} (ht : P.underlying t = some (.slice e)) (hs : size? P e = some s) (hce : P.cellsOf e = s) (h0 : 0 < s)
    {Q : List Value → Prop} (hflat : ∀ n cs x, DataW.trod enc P w base (fun _ => true) held n e cs = some x → Q cs) (hQ : ∀ cs, Q cs → cs.length = s ∧ ∀ v ∈ cs, ∃ k x, v = .int k x)
    {a : Option Addr} {len cap : Nat} {d : DataW HH} {ps : List MemPlace} (hby : 0 < P.bytesOf e) (hwt : ∀ x ∈ d.weights P t, x ≤ reachBytes) (hhas : ∀ a', a = some a' → a'.spot = none ∧ a'.block < w.heap.size) (hd : DataW.Trod enc P w base (fun _ => true) held t (.slice a len cap) d ps) :
    ∃ (ι' : Nat → Emb) (h' : H) (v0 : Value) (l : List (List Value)), Rel P E ι' h' w ∧ (∀ b k, h'.blk b = some k → k.own = false) ∧ Ext h h' ∧ (∀ b, b < h.nx → ι' b = ι b) ∧ VR ι' h'.nx v0 (.slice a len cap) ∧
      SlR h' e s v0 l ∧ ∀ x ∈ l, Q x := by
  obtain ⟨fuel, hf⟩ := hd
  rcases DataW.trod_slice ht hf with ⟨hcs, _⟩ | ⟨a', len', cap', elems, rest, n, _, hcs, hx, hb, hlc, hcm, hel, he, _, _⟩
  · simp [Value.cells] at hcs
    obtain ⟨rfl, rfl, rfl⟩ := hcs
    exact ⟨ι, h, .slice none 0 0, [], r, hro, .refl _, fun _ _ => rfl, .slNil, .nil, fun x hx => by cases hx⟩
  · simp [Value.cells] at hcs
    obtain ⟨rfl, rfl, rfl⟩ := hcs
    rw [hce] at he
    have hlen : len < U := by
      have hd : d = .slice (elems.map (·.1)) (rest.map (·.1)) := congrArg Prod.fst hx
      have := hwt ((elems.length + rest.length) * P.bytesOf e) (by rw [hd]; simp [DataW.weights, ht])
      have h1 : (elems.length + rest.length) * 1 ≤ (elems.length + rest.length) * P.bytesOf e := Nat.mul_le_mul_left _ hby
      have h2 : reachBytes < U := by decide
      omega
    have hex : ∀ i, i < len → ∃ cs, w.cells? base (a'.add (i * s)) s = some cs ∧ Q cs := by
      intro i hi
      have h1 := he i hi
      have h2 : elems[i]? = some elems[i] := List.getElem?_eq_getElem (by omega)
      rw [h2] at h1
      obtain ⟨cs, g1, g2⟩ := Option.bind_eq_some_iff.1 h1
      exact ⟨cs, g1, hflat _ _ _ g2⟩
    obtain ⟨hsp, hgl⟩ := hhas a' rfl
    let f : Nat → List Value := fun i => ((w.cells? base (a'.add (i * s)) s).getD [])
    have hf' : ∀ i, i < len → w.cells? base (a'.add (i * s)) s = some (f i) ∧ Q (f i) := by
      intro i hi
      obtain ⟨cs, g1, g2⟩ := hex i hi
      have : f i = cs := by simp [f, g1]
      rw [this]; exact ⟨g1, g2⟩
    have hfl : ∀ x ∈ (List.range len).map f, x.length = s := by
      intro x hx
      obtain ⟨i, hi, rfl⟩ := List.mem_map.1 hx
      exact (hQ _ (hf' i (List.mem_range.1 hi)).2).1
    have hget : ∀ i, i < len → ((List.range len).map f)[i]? = some (f i) := by
      intro i hi
      rw [List.getElem?_map, List.getElem?_range hi]; rfl
    have hcells : ∀ i j, i < len → j < s → w.cell? ⟨a'.block, a'.off + (i * s + j), none⟩ = (f i)[j]? := by
      intro i j hi hj
      obtain ⟨_, _, g3⟩ := World.cells?_some (hf' i hi).1
      rw [← g3 j hj, add_add hsp]
    have hnew := r.addRO hro (cs := ((List.range len).map f).flatten) (e := e) (m := ⟨a'.block, a'.off, a'.off + cap * s, s⟩) hgl hs (by
      intro i v hv
      have hi : i < len * s := by
        have := (List.getElem?_eq_some_iff.1 hv).1
        rw [flatten_len hfl] at this
        simpa using this
      have hq : i / s < len := by rw [Nat.div_lt_iff_lt_mul h0]; exact hi
      have hm : i % s < s := Nat.mod_lt _ h0
      have e1 : i = i / s * s + i % s := by
        have := Nat.div_add_mod i s
        rw [Nat.mul_comm] at this
        exact this.symm
      have h2 := flatten_get hfl (i / s) (f (i / s)) (hget _ hq) (i % s) hm
      rw [← e1, hv] at h2
      refine ⟨v, ?_, ?_⟩
      · have := hcells (i / s) (i % s) hq hm
        rw [← e1] at this
        rw [h2]; exact this
      · exact VR.ints ((hQ _ (hf' _ hq).2).2 v (List.mem_of_getElem? h2.symm)))
    refine ⟨_, _, .slice (some ⟨h.nx, 0, none⟩) len (U + len), (List.range len).map f, hnew.1, hnew.2, .new _ _, fun b hb => Emb.new_lt ι _ _ hb, ?_, ?_, ?_⟩
    · have := VR.sl (ι := Emb.new ι h.nx ⟨a'.block, a'.off, a'.off + cap * s, s⟩) (n := h.nx + 1) (b := h.nx) (o := 0) (l := len) (c := U + len) (c' := cap) (Nat.lt_succ_self _) (.inr ⟨Nat.le_add_right _ _, by omega⟩)
        (by rw [capK_U]; exact Nat.le_refl _) (by rw [Emb.new_at]; simp only [Nat.zero_add]; omega)
      rw [Emb.new_at] at this
      obtain ⟨ab, ao, asp⟩ := a'
      simp only at hsp
      subst hsp
      exact this
    · have := SlR.at_ (h := h.new (.row ((List.range len).map f).flatten e false)) (e := e) (s := s) (b := h.nx) (o := 0) (c := U + len) (l := (List.range len).map f) (Nat.lt_succ_self _) (blk_new_self _ _)
        (by rw [capK_U]; simp) (by rw [capK_U]; exact hlen) (by rw [flatten_len hfl]; omega) (fun i x hi => ⟨hfl x (List.mem_of_getElem? hi), fun j hj => by
          rw [Nat.zero_add]; exact flatten_get hfl i x hi j hj⟩)
      simpa using this
    · intro x hx
      obtain ⟨i, hi, rfl⟩ := List.mem_map.1 hx
      exact (hf' i (List.mem_range.1 hi)).2

/-- Where a slice lies, by the form's own condition on arguments. -/
theorem okWide_has {t e : TypeId} {rr : Reach} {b0 : Nat} {a : Option Addr} {len cap : Nat} (ht : P.underlying t = some (.slice e)) (hv : Cell.okWide P w rr b0 t (.slice a len cap)) :
    ∀ a', a = some a' → a'.spot = none ∧ a'.block < w.heap.size := by
  intro a' ha
  subst ha
  simp only [Cell.okWide, ht, Cell.ok] at hv
  obtain ⟨_, _, _, hs, row, cells, hsh, _⟩ := hv
  refine ⟨hs, ?_⟩
  unfold World.shape? at hsh
  split at hsh
  · rename_i hb
    rcases Nat.lt_or_ge a'.block w.heap.size with h1 | h1
    · exact h1
    · rw [Array.getElem?_eq_none h1] at hb; cases hb
  · cases hsh

/-- A struct of a whole number and a slice. -/
theorem open_numslice {t ti ts e : TypeId} {fs : Array Field} {f0 f1 : Field} {rr : Reach} {b0 : Nat} {v : Value} {d : DataW HH} {ps : List MemPlace} (hu : P.underlying t = some (.struct fs)) (hfs : fs = #[f0, f1])
    (h0 : f0.type = ti ∧ f0.offset = 0) (h1 : f1.type = ts ∧ f1.offset = 1) (hti : P.underlying ti = some (.int .i64)) (hts : P.underlying ts = some (.slice e)) (hc : P.cellsOf t = 2) (hci : P.cellsOf ti = 1) (hcs : P.cellsOf ts = 1)
    (hct : P.cellTypes P.depth t = some [ti, ts]) (hv : Value.okWide P w rr b0 t v) (hwt : ∀ x ∈ d.weights P t, x ≤ reachBytes) (hd : DataW.Trod enc P w base (fun _ => true) held t v d ps) :
    ∃ (n : Int) (a : Option Addr) (len cap : Nat) (d1 : DataW HH) (p1 : List MemPlace), v = .agg #[.int .i64 n, .slice a len cap] ∧ (Lit.int .i64 n).wf = true ∧ (∀ x ∈ d1.weights P ts, x ≤ reachBytes) ∧
      (∀ a', a = some a' → a'.spot = none ∧ a'.block < w.heap.size) ∧ DataW.Trod enc P w base (fun _ => true) held ts (.slice a len cap) d1 p1 := by
  simp only [Value.okWide, hu] at hv
  obtain ⟨cs, rfl, hsz, tys, htys, _, hrow⟩ := hv
  rw [hct] at htys
  cases htys
  rw [hc] at hsz
  have hxy : ∃ x y, cs = #[x, y] := by
    obtain ⟨l⟩ := cs
    match l, hsz with
    | [x, y], _ => exact ⟨x, y, rfl⟩
  obtain ⟨x, y, rfl⟩ := hxy
  obtain ⟨u0, e0, c0⟩ := hrow 0 x rfl
  obtain ⟨u1, e1, c1⟩ := hrow 1 y rfl
  simp at e0 e1
  subst e0; subst e1
  have hx : ∃ n, x = .int .i64 n := by
    simp only [Cell.okWide, hti] at c0
    cases x <;> simp_all [Cell.ok]
  have hy : ∃ a len cap, y = .slice a len cap := by
    simp only [Cell.okWide, hts] at c1
    cases y <;> simp_all [Cell.ok]
  obtain ⟨n, rfl⟩ := hx
  obtain ⟨a, len, cap, rfl⟩ := hy
  obtain ⟨fuel, hf⟩ := hd
  obtain ⟨xs, m, rfl, hx, _, hxl, each⟩ := DataW.trod_struct hu hf
  have a0 := each 0 f0 (by rw [hfs]; rfl)
  have a1 := each 1 f1 (by rw [hfs]; rfl)
  rw [h0.1, h0.2, hci] at a0
  rw [h1.1, h1.2, hcs] at a1
  have hl2 : xs.length = 2 := by rw [hxl, hfs]; rfl
  rw [List.getElem?_eq_getElem (show 0 < xs.length by omega)] at a0
  rw [List.getElem?_eq_getElem (show 1 < xs.length by omega)] at a1
  have hdd : d = .agg (xs.map (·.1)) := congrArg Prod.fst hx
  refine ⟨n, a, len, cap, xs[1].1, xs[1].2, rfl, ?_, fun z hz => hwt z ?_, okWide_has hts c1, m, a1⟩
  · obtain ⟨n', hh, _, hw⟩ := DataW.trod_int hti a0
    simp [Value.cells] at hh
    subst hh
    exact hw
  · rw [hdd]
    simp only [DataW.weights, hu]
    refine DataW.weights_mem_each (j := 1) (t := ts) (d := xs[1].1) (by rw [hfs]; simp [h1.1]) ?_ z hz
    rw [List.getElem?_map, List.getElem?_eq_getElem (show 1 < xs.length by omega)]
    rfl

/-- The cells of a struct of three whole numbers. -/
theorem trod_three {e ti : TypeId} {fs : Array Field} (hu : P.underlying e = some (.struct fs)) (ht : fs.toList.map (fun f => (f.type, f.offset)) = [(ti, 0), (ti, 1), (ti, 2)]) (hti : P.underlying ti = some (.int .i64))
    (hci : P.cellsOf ti = 1) (hce : P.cellsOf e = 3) {n : Nat} {cs : List Value} {x : DataW HH × List MemPlace} (h : DataW.trod enc P w base (fun _ => true) held n e cs = some x) : ∃ a b c : Int, cs = [iv a, iv b, iv c] := by
  obtain ⟨xs, m, rfl, _, hl, hxs, each⟩ := DataW.trod_struct hu h
  rw [hce] at hl
  have hsz : fs.size = 3 := by
    have := congrArg List.length ht
    simpa using this
  have key : ∀ i, i < 3 → ∃ z : Int, (cs.drop i).take 1 = [iv z] := by
    intro i hi
    have hf : fs[i]? = some fs[i] := Array.getElem?_eq_getElem (by omega)
    have h1 := each i _ hf
    have h2 : (fs.toList.map (fun f => (f.type, f.offset)))[i]? = some (fs[i].type, fs[i].offset) := by
      rw [List.getElem?_map, Array.getElem?_toList, hf]; rfl
    rw [ht] at h2
    have h3 : fs[i].type = ti ∧ fs[i].offset = i := by
      rcases (by omega : i = 0 ∨ i = 1 ∨ i = 2) with rfl | rfl | rfl <;> (simp at h2; exact ⟨h2.1.symm, h2.2.symm⟩)
    rw [h3.1, h3.2, hci, List.getElem?_eq_getElem (show i < xs.length by omega)] at h1
    obtain ⟨z, hz, _⟩ := DataW.trod_int hti h1
    exact ⟨z, hz⟩
  obtain ⟨a, ha⟩ := key 0 (by omega)
  obtain ⟨b, hb⟩ := key 1 (by omega)
  obtain ⟨t, ht'⟩ := key 2 (by omega)
  match cs, hl with
  | [x, y, z], _ =>
    simp at ha hb ht'
    exact ⟨a, b, t, by simp [ha, hb, ht']⟩

end
end Go.AM
