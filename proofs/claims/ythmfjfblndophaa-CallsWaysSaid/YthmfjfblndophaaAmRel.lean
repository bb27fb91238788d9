/- The abstract heap and the world: when the one stands for the other. -/
import Derived.Test.YthmfjfblndophaaAmDef
namespace Go.AM

structure Emb where
  g : Nat
  base : Nat
  lim : Nat
  sz : Nat

def CapR (c c' : Nat) : Prop := (c < U ∧ c' = c) ∨ (U ≤ c ∧ c - U ≤ c')

inductive VR (ι : Nat → Emb) (n : Nat) : Value → Value → Prop
  | bool (b : Bool) : VR ι n (.bool b) (.bool b)
  | int (k : IntKind) (x : Int) : VR ι n (.int k x) (.int k x)
  | string (s : ByteArray) : VR ι n (.string s) (.string s)
  | ptrNil : VR ι n (.pointer none) (.pointer none)
  | ptr {b o : Nat} (hb : b < n) : VR ι n (.pointer (some ⟨b, o, none⟩)) (.pointer (some ⟨(ι b).g, (ι b).base + o, none⟩))
  | slNil : VR ι n (.slice none 0 0) (.slice none 0 0)
  | sl {b o l c c' : Nat} (hb : b < n) (hc : CapR c c') (hk : l ≤ capK c) (hl : o + c' * (ι b).sz ≤ (ι b).lim) :
      VR ι n (.slice (some ⟨b, o, none⟩) l c) (.slice (some ⟨(ι b).g, (ι b).base + o, none⟩) l c')
  | sl0 {b o c : Nat} {ad : Addr} (hb : b < n) (hc : capK c = 0) : VR ι n (.slice (some ⟨b, o, none⟩) 0 c) (.slice (some ad) 0 0)
  | mapNil : VR ι n (.map none) (.map none)
  | map {b : Nat} (hb : b < n) : VR ι n (.map (some b)) (.map (some (ι b).g))
  | nilFunc : VR ι n .nilFunc .nilFunc
  | func {f : FuncId} {xs xs' ys ys' : Array Value} (h1 : xs.size = xs'.size) (h2 : ys.size = ys'.size)
      (h3 : ∀ (i : Nat) (v v' : Value), xs[i]? = some v → xs'[i]? = some v' → VR ι n v v')
      (h4 : ∀ (i : Nat) (v v' : Value), ys[i]? = some v → ys'[i]? = some v' → VR ι n v v') : VR ι n (.func (.func f) xs ys) (.func (.func f) xs' ys')
  | nilIface : VR ι n .nilIface .nilIface
  | agg {xs xs' : Array Value} (h1 : xs.size = xs'.size) (h2 : ∀ (i : Nat) (v v' : Value), xs[i]? = some v → xs'[i]? = some v' → VR ι n v v') :
      VR ι n (.agg xs) (.agg xs')
  | tuple {xs xs' : Array Value} (h1 : xs.size = xs'.size) (h2 : ∀ (i : Nat) (v v' : Value), xs[i]? = some v → xs'[i]? = some v' → VR ι n v v') :
      VR ι n (.tuple xs) (.tuple xs')

/-- Rows of values, one by one. -/
def AR (ι : Nat → Emb) (n : Nat) (xs xs' : Array Value) : Prop :=
  xs.size = xs'.size ∧ ∀ (i : Nat) (v v' : Value), xs[i]? = some v → xs'[i]? = some v' → VR ι n v v'

def LR (ι : Nat → Emb) (n : Nat) (xs xs' : List Value) : Prop :=
  xs.length = xs'.length ∧ ∀ (i : Nat) (v v' : Value), xs[i]? = some v → xs'[i]? = some v' → VR ι n v v'

theorem VR.mono {ι ι' : Nat → Emb} {n n' : Nat} (hn : n ≤ n') (he : ∀ b, b < n → ι' b = ι b) {v v' : Value} (h : VR ι n v v') : VR ι' n' v v' := by
  induction h with
  | bool b => exact .bool b
  | int k x => exact .int k x
  | string s => exact .string s
  | ptrNil => exact .ptrNil
  | ptr hb => rw [← he _ hb]; exact .ptr (Nat.lt_of_lt_of_le hb hn)
  | slNil => exact .slNil
  | sl hb hc hk hl => rw [← he _ hb] at hl ⊢; exact .sl (Nat.lt_of_lt_of_le hb hn) hc hk hl
  | sl0 hb hc => exact .sl0 (Nat.lt_of_lt_of_le hb hn) hc
  | mapNil => exact .mapNil
  | map hb => rw [← he _ hb]; exact .map (Nat.lt_of_lt_of_le hb hn)
  | nilFunc => exact .nilFunc
  | func h1 h2 _ _ i3 i4 => exact .func h1 h2 i3 i4
  | nilIface => exact .nilIface
  | agg h1 _ i2 => exact .agg h1 i2
  | tuple h1 _ i2 => exact .tuple h1 i2

theorem AR.mono {ι ι' : Nat → Emb} {n n' : Nat} (hn : n ≤ n') (he : ∀ b, b < n → ι' b = ι b) {v v' : Array Value} (h : AR ι n v v') : AR ι' n' v v' :=
  ⟨h.1, fun i x x' hx hx' => (h.2 i x x' hx hx').mono hn he⟩

theorem LR.mono {ι ι' : Nat → Emb} {n n' : Nat} (hn : n ≤ n') (he : ∀ b, b < n → ι' b = ι b) {v v' : List Value} (h : LR ι n v v') : LR ι' n' v v' :=
  ⟨h.1, fun i x x' hx hx' => (h.2 i x x' hx hx').mono hn he⟩

theorem AR.toList {ι : Nat → Emb} {n : Nat} {v v' : Array Value} (h : AR ι n v v') : LR ι n v.toList v'.toList :=
  ⟨by simpa using h.1, fun i x x' hx hx' => h.2 i x x' (by simpa using hx) (by simpa using hx')⟩

theorem LR.toArray {ι : Nat → Emb} {n : Nat} {v v' : List Value} (h : LR ι n v v') : AR ι n v.toArray v'.toArray :=
  ⟨by simpa using h.1, fun i x x' hx hx' => h.2 i x x' (by simpa using hx) (by simpa using hx')⟩

theorem LR.nil {ι : Nat → Emb} {n : Nat} : LR ι n [] [] := ⟨rfl, fun i x x' h => by simp at h⟩

theorem LR.cons {ι : Nat → Emb} {n : Nat} {x x' : Value} {v v' : List Value} (hx : VR ι n x x') (h : LR ι n v v') : LR ι n (x :: v) (x' :: v') :=
  ⟨by simp [h.1], fun i y y' hy hy' => by
    cases i with
    | zero => simp at hy hy'; subst hy; subst hy'; exact hx
    | succ i => exact h.2 i y y' (by simpa using hy) (by simpa using hy')⟩

theorem LR.uncons {ι : Nat → Emb} {n : Nat} {x : Value} {v u : List Value} (h : LR ι n (x :: v) u) : ∃ x' v', u = x' :: v' ∧ VR ι n x x' ∧ LR ι n v v' := by
  cases u with
  | nil => exact absurd h.1 (by simp)
  | cons x' v' => exact ⟨x', v', rfl, h.2 0 x x' rfl rfl, by simpa using h.1, fun i y y' hy hy' => h.2 (i + 1) y y' (by simpa using hy) (by simpa using hy')⟩

theorem LR.get {ι : Nat → Emb} {n : Nat} {v v' : List Value} (h : LR ι n v v') {i : Nat} {x : Value} (hx : v[i]? = some x) : ∃ x', v'[i]? = some x' ∧ VR ι n x x' := by
  have hi : i < v'.length := by
    have : i < v.length := by
      rcases Nat.lt_or_ge i v.length with h | h
      · exact h
      · rw [List.getElem?_eq_none h] at hx; cases hx
    have := h.1
    omega
  exact ⟨v'[i], by simp [hi], h.2 i x _ hx (by simp [hi])⟩

theorem AR.get {ι : Nat → Emb} {n : Nat} {v v' : Array Value} (h : AR ι n v v') {i : Nat} {x : Value} (hx : v[i]? = some x) : ∃ x', v'[i]? = some x' ∧ VR ι n x x' := by
  obtain ⟨x', h1, h2⟩ := h.toList.get (i := i) (x := x) (by simpa using hx)
  exact ⟨x', by simpa using h1, h2⟩

theorem LR.append {ι : Nat → Emb} {n : Nat} {a a' b b' : List Value} (h : LR ι n a a') (k : LR ι n b b') : LR ι n (a ++ b) (a' ++ b') := by
  refine ⟨by simp [h.1, k.1], fun i x x' hx hx' => ?_⟩
  by_cases hi : i < a.length
  · rw [List.getElem?_append_left hi] at hx
    rw [List.getElem?_append_left (h.1 ▸ hi)] at hx'
    exact h.2 i x x' hx hx'
  · rw [List.getElem?_append_right (by omega)] at hx
    rw [List.getElem?_append_right (by have := h.1; omega), ← h.1] at hx'
    exact k.2 _ x x' hx hx'

theorem LR.map {α : Type} {ι : Nat → Emb} {n : Nat} (f f' : α → Value) (l : List α) (h : ∀ x ∈ l, VR ι n (f x) (f' x)) : LR ι n (l.map f) (l.map f') := by
  refine ⟨by simp, fun i x x' hx hx' => ?_⟩
  simp only [List.getElem?_map] at hx hx'
  cases hl : l[i]? with
  | none => rw [hl] at hx; cases hx
  | some y =>
    rw [hl] at hx hx'
    simp at hx hx'
    subst hx; subst hx'
    exact h y (List.mem_of_getElem? hl)

theorem VR.cells {ι : Nat → Emb} {n : Nat} {v v' : Value} (h : VR ι n v v') : AR ι n v.cells v'.cells := by
  cases h with
  | agg h1 h2 => exact ⟨h1, h2⟩
  | tuple h1 h2 => exact (LR.cons (VR.tuple h1 h2) .nil).toArray
  | func h1 h2 h3 h4 => exact (LR.cons (VR.func h1 h2 h3 h4) .nil).toArray
  | bool b => exact (LR.cons (VR.bool b) .nil).toArray
  | int k x => exact (LR.cons (VR.int k x) .nil).toArray
  | string s => exact (LR.cons (VR.string s) .nil).toArray
  | ptrNil => exact (LR.cons VR.ptrNil .nil).toArray
  | ptr hb => exact (LR.cons (VR.ptr hb) .nil).toArray
  | slNil => exact (LR.cons VR.slNil .nil).toArray
  | sl hb hc hk hl => exact (LR.cons (VR.sl hb hc hk hl) .nil).toArray
  | sl0 hb hc => exact (LR.cons (VR.sl0 hb hc) .nil).toArray
  | mapNil => exact (LR.cons VR.mapNil .nil).toArray
  | map hb => exact (LR.cons (VR.map hb) .nil).toArray
  | nilFunc => exact (LR.cons VR.nilFunc .nil).toArray
  | nilIface => exact (LR.cons VR.nilIface .nil).toArray

theorem VR.scal {ι : Nat → Emb} {n : Nat} {v v' : Value} (h : VR ι n v v') : scal v' = scal v := by
  cases h <;> rfl

/-- A value without any address stands for itself. -/
theorem VR.undef {ι : Nat → Emb} {n : Nat} : VR ι n undef undef := .tuple rfl (fun i v v' h => by simp at h)

section
variable (P : Program)

def BlkR (ι : Nat → Emb) (n : Nat) (w : World) (b : Nat) : Blk → Prop
  | .row c e true => ∃ C E, w.heap[(ι b).g]? = some (.cells C E (0, 0)) ∧ size? P e = some (ι b).sz ∧ c.length ≤ (ι b).lim ∧
      (ι b).base + (ι b).lim ≤ C.size ∧ ∀ (i : Nat) (v : Value), c[i]? = some v → ∃ v', C[(ι b).base + i]? = some v' ∧ VR ι n v v'
  | .row c e false => (ι b).g < w.heap.size ∧ size? P e = some (ι b).sz ∧
      ∀ (i : Nat) (v : Value), c[i]? = some v → ∃ v', w.cell? ⟨(ι b).g, (ι b).base + i, none⟩ = some v' ∧ VR ι n v v'
  | .mp es clk => ∃ es', w.heap[(ι b).g]? = some (.map es' clk) ∧ es.length = es'.size ∧
      ∀ (i : Nat) (e e' : MapEntry), es[i]? = some e → es'[i]? = some e' → VR ι n e.key e'.key ∧ VR ι n e.val e'.val ∧ e.born = e'.born

structure Rel (E : Env) (ι : Nat → Emb) (h : H) (w : World) : Prop where
  dom : ∀ b k, h.blk b = some k → b < h.nx
  blk : ∀ b k, h.blk b = some k → BlkR P ι h.nx w b k
  inj : ∀ b b' k k', h.blk b = some k → h.blk b' = some k' → b ≠ b' → k.own = true → (ι b).g ≠ (ι b').g
  ng : E.NG ≤ h.nx
  glob : ∀ g, g < E.NG → (ι g).g = g ∧ (ι g).base = 0
  globB : ∀ g, g < E.NG → h.blk g = E.G g
  globO : ∀ g k, g < E.NG → E.G g = some k → k.own = false ∧ BlkR P ι E.NG w g k

structure Tr (ι : Nat → Emb) (h : H) (w : World) (ι' : Nat → Emb) (h' : H) (w' : World) : Prop where
  nx : h.nx ≤ h'.nx
  ext : ∀ b, b < h.nx → ι' b = ι b
  os : w'.os = w.os
  tape : w'.tape = w.tape
  output : w'.output = w.output
  size : w.heap.size ≤ w'.heap.size
  fr : ∀ g, g < w.heap.size → (∀ b k, h.blk b = some k → k.own = true → (ι b).g ≠ g) → w'.heap[g]? = w.heap[g]?
  own : ∀ b k, h'.blk b = some k → k.own = true → (∃ b0 k0, h.blk b0 = some k0 ∧ k0.own = true ∧ (ι b0).g = (ι' b).g) ∨ w.heap.size ≤ (ι' b).g

end

theorem Tr.refl (ι : Nat → Emb) (h : H) (w : World) : Tr ι h w ι h w :=
  ⟨Nat.le_refl _, fun _ _ => rfl, rfl, rfl, rfl, Nat.le_refl _, fun _ _ _ => rfl, fun b k hb ho => .inl ⟨b, k, hb, ho, rfl⟩⟩

theorem Tr.trans {ι ι1 ι2 : Nat → Emb} {h h1 h2 : H} {w w1 w2 : World} (a : Tr ι h w ι1 h1 w1) (b : Tr ι1 h1 w1 ι2 h2 w2) : Tr ι h w ι2 h2 w2 where
  nx := Nat.le_trans a.nx b.nx
  ext := fun i hi => (b.ext i (Nat.lt_of_lt_of_le hi a.nx)).trans (a.ext i hi)
  os := b.os.trans a.os
  tape := b.tape.trans a.tape
  output := b.output.trans a.output
  size := Nat.le_trans a.size b.size
  fr := fun g hg hn => by
    have h1 := a.fr g hg hn
    rw [← h1]
    refine b.fr g (Nat.lt_of_lt_of_le hg a.size) fun i k hi ho he => ?_
    rcases a.own i k hi ho with ⟨b0, k0, hb0, ho0, e⟩ | hge
    · exact hn b0 k0 hb0 ho0 (e.trans he)
    · omega
  own := fun i k hi ho => by
    rcases b.own i k hi ho with ⟨b0, k0, hb0, ho0, e⟩ | hge
    · rcases a.own b0 k0 hb0 ho0 with ⟨b1, k1, hb1, ho1, e1⟩ | hge
      · exact .inl ⟨b1, k1, hb1, ho1, e1.trans e⟩
      · exact .inr (e ▸ hge)
    · exact .inr (Nat.le_trans a.size hge)

/-- A draw turns nothing. -/
theorem BlkR.congr {P : Program} {ι : Nat → Emb} {n : Nat} {w w' : World} {b : Nat} {k : Blk} (h : BlkR P ι n w b k) (hw : w'.heap[(ι b).g]? = w.heap[(ι b).g]?) (hs : w.heap.size ≤ w'.heap.size) :
    BlkR P ι n w' b k := by
  unfold BlkR at *
  split
  · obtain ⟨C, E, h1, h2⟩ := h
    exact ⟨C, E, hw.trans h1, h2⟩
  · obtain ⟨h1, h2, h3⟩ := h
    refine ⟨Nat.lt_of_lt_of_le h1 hs, h2, fun i v hv => ?_⟩
    obtain ⟨v', hc, hr⟩ := h3 i v hv
    refine ⟨v', ?_, hr⟩
    rw [← hc]
    simp only [World.cell?, hw]
  · obtain ⟨es', h1, h2⟩ := h
    exact ⟨es', hw.trans h1, h2⟩

theorem BlkR.lt {P : Program} {ι : Nat → Emb} {n : Nat} {w : World} {b : Nat} {k : Blk} (h : BlkR P ι n w b k) : (ι b).g < w.heap.size := by
  have key : ∀ o : Obj, w.heap[(ι b).g]? = some o → (ι b).g < w.heap.size := fun o ho => by
    rcases Nat.lt_or_ge (ι b).g w.heap.size with h | h
    · exact h
    · rw [Array.getElem?_eq_none h] at ho; cases ho
  unfold BlkR at h
  split at h
  · obtain ⟨C, E, h1, _⟩ := h; exact key _ h1
  · exact h.1
  · obtain ⟨es', h1, _⟩ := h; exact key _ h1

theorem BlkR.mono {P : Program} {ι ι' : Nat → Emb} {n n' : Nat} {w : World} {b : Nat} {k : Blk} (h : BlkR P ι n w b k) (hn : n ≤ n') (he : ∀ b, b < n → ι' b = ι b) (hb : ι' b = ι b) :
    BlkR P ι' n' w b k := by
  unfold BlkR at *
  rw [hb]
  split
  · obtain ⟨C, E, h1, h2, h3, h4, h5⟩ := h
    exact ⟨C, E, h1, h2, h3, h4, fun i v hv => let ⟨v', a, r⟩ := h5 i v hv; ⟨v', a, r.mono hn he⟩⟩
  · obtain ⟨h1, h2, h3⟩ := h
    exact ⟨h1, h2, fun i v hv => let ⟨v', a, r⟩ := h3 i v hv; ⟨v', a, r.mono hn he⟩⟩
  · obtain ⟨es', h1, h2, h3⟩ := h
    exact ⟨es', h1, h2, fun i e e' a b => let ⟨p, q, r⟩ := h3 i e e' a b; ⟨p.mono hn he, q.mono hn he, r⟩⟩

theorem Rel.drew {P : Program} {E : Env} {ι : Nat → Emb} {h : H} {w : World} (r : Rel P E ι h w) (k : Nat) : Rel P E ι h { w with drawn := k } :=
  ⟨r.dom, fun b k hb => (r.blk b k hb).congr rfl (Nat.le_refl _), r.inj, r.ng, r.glob, r.globB, fun g k hg hk => ⟨(r.globO g k hg hk).1, (r.globO g k hg hk).2.congr rfl (Nat.le_refl _)⟩⟩

/-- A cell that the abstract heap has. -/
theorem Rel.cell {P : Program} {E : Env} {ι : Nat → Emb} {h : H} {w : World} (r : Rel P E ι h w) {b o : Nat} {v : Value} (hc : h.cell b o = some v) :
    ∃ v', w.cell? ⟨(ι b).g, (ι b).base + o, none⟩ = some v' ∧ VR ι h.nx v v' := by
  unfold H.cell at hc
  split at hc
  · rename_i c e own hb
    have hR := r.blk b _ hb
    cases own with
    | true =>
      obtain ⟨C, E, h1, _, _, _, h5⟩ := hR
      obtain ⟨v', hv', hr⟩ := h5 o v hc
      exact ⟨v', by simp [World.cell?, h1, hv'], hr⟩
    | false => exact hR.2.2 o v hc
  · cases hc

theorem Rel.rd {P : Program} {E : Env} {ι : Nat → Emb} {h : H} {w : World} (r : Rel P E ι h w) {b o n : Nat} {l : List Value} (hc : h.rd b o n = some l) :
    l.length = n ∧ ∃ l', LR ι h.nx l l' ∧ ∀ j v, l'[j]? = some v → w.cell? ⟨(ι b).g, (ι b).base + o + j, none⟩ = some v := by
  unfold H.rd at hc
  split at hc
  · rename_i c e own hb
    split at hc
    · rename_i hle
      cases hc
      have hlen : ((c.drop o).take n).length = n := by simp; omega
      refine ⟨hlen, ?_⟩
      have hcell : ∀ j, j < n → ∃ v', w.cell? ⟨(ι b).g, (ι b).base + (o + j), none⟩ = some v' ∧ VR ι h.nx (c.getD (o + j) Go.undef) v' := by
        intro j hj
        have hlt : o + j < c.length := by omega
        refine r.cell ?_
        simp [H.cell, hb, List.getD, hlt]
      have hex : ∃ f : Nat → Value, ∀ j, j < n → w.cell? ⟨(ι b).g, (ι b).base + (o + j), none⟩ = some (f j) ∧ VR ι h.nx (c.getD (o + j) Go.undef) (f j) := by
        refine ⟨fun j => if hj : j < n then (hcell j hj).choose else Go.undef, fun j hj => ?_⟩
        simp only [hj, dif_pos]
        exact (hcell j hj).choose_spec
      obtain ⟨f, hf⟩ := hex
      refine ⟨(List.range n).map f, ⟨by simp; omega, fun i v v' hv hv' => ?_⟩, fun j v hv => ?_⟩
      · simp only [List.getElem?_map] at hv'
        have hi : i < n := by
          rcases Nat.lt_or_ge i n with h | h
          · exact h
          · rw [List.getElem?_eq_none (by simpa using h)] at hv'; cases hv'
        rw [List.getElem?_range hi] at hv'
        simp at hv'
        subst hv'
        have := (hf i hi).2
        rw [List.getElem?_take_of_lt hi, List.getElem?_drop] at hv
        simpa [List.getD, hv] using this
      · simp only [List.getElem?_map] at hv
        have hi : j < n := by
          rcases Nat.lt_or_ge j n with h | h
          · exact h
          · rw [List.getElem?_eq_none (by simpa using h)] at hv; cases hv
        rw [List.getElem?_range hi] at hv
        simp at hv
        subst hv
        have := (hf j hi).1
        rw [Nat.add_assoc]
        exact this
    · cases hc
  · cases hc

/-- Where the abstract heap has the same blocks, what holds of it holds again. -/
theorem Rel.blkEq {P : Program} {E : Env} {ι : Nat → Emb} {h : H} {w : World} (r : Rel P E ι h w) (h' : H) (hb : h'.blk = h.blk) (hn : h'.nx = h.nx) : Rel P E ι h' w := by
  obtain ⟨a1, a2, a3, a4, a5, a6, a7⟩ := r
  exact ⟨by rw [hb, hn]; exact a1, by rw [hb, hn]; exact a2, by rw [hb]; exact a3, by rw [hn]; exact a4, a5, by rw [hb]; exact a6, a7⟩

end Go.AM
