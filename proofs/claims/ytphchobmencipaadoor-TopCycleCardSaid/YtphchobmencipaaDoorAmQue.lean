/- A queue: a slice that is pushed at its end and popped at its front. -/
import Derived.Test.YtphchobmencipaaDoorAmSim

namespace Go.AM

/-- A slice that was made by pushing, and popped at its front. -/
inductive QqR (lo : Nat) (h : H) (e : TypeId) (s : Nat) : Value → List (List Value) → Prop
  | nil : QqR lo h e s (.slice none 0 0) []
  | at_ {b : Nat} {l : List (List Value)} {pre : List Value} (hlo : lo ≤ b) (hb : b < h.nx) (hr : h.blk b = some (.row (pre ++ l.flatten) e true)) (hx : ∀ x ∈ l, x.length = s) (hm : l.length < 2 ^ 30) :
      QqR lo h e s (.slice (some ⟨b, pre.length, none⟩) l.length (U + l.length)) l

theorem QqR.blkOf {lo : Nat} {h : H} {e : TypeId} {s : Nat} {v : Value} {l : List (List Value)} (a : QqR lo h e s v l) {b : Nat} (hb : AM.blkOf v = some b) : lo ≤ b ∧ b < h.nx := by
  cases a with
  | nil => cases hb
  | at_ hlo hb' hr hx hm => cases hb; exact ⟨hlo, hb'⟩

theorem QqR.keep {lo : Nat} {h h' : H} {e : TypeId} {s : Nat} {v : Value} {l : List (List Value)} (a : QqR lo h e s v l) (hn : h.nx ≤ h'.nx) (hb : ∀ b, AM.blkOf v = some b → h'.blk b = h.blk b) : QqR lo h' e s v l := by
  cases a with
  | nil => exact .nil
  | at_ hlo hb' hr hx hm => exact .at_ hlo (Nat.lt_of_lt_of_le hb' hn) ((hb _ rfl).trans hr) hx hm

theorem QqR.cells {lo : Nat} {h : H} {e : TypeId} {s : Nat} {v : Value} {l : List (List Value)} (a : QqR lo h e s v l) : v.cells = #[v] ∧ scal v = true := by
  cases a <;> exact ⟨rfl, rfl⟩

theorem QqR.slR {lo : Nat} {h : H} {e : TypeId} {s : Nat} {v : Value} {l : List (List Value)} (a : QqR lo h e s v l) : SlR h e s v l := by
  cases a with
  | nil => exact .nil
  | @at_ b l pre hlo hb hr hx hm =>
    have h30 : (2:Nat) ^ 30 < U := by decide
    refine .at_ hb hr (by rw [capK_U]; omega) (by rw [capK_U]; omega) (by rw [List.length_append, flatten_len hx]; omega) fun i x hi => ⟨hx x (List.mem_of_getElem? hi), fun j hj => ?_⟩
    rw [Nat.add_assoc, List.getElem?_append_right (by omega), Nat.add_sub_cancel_left]
    exact flatten_get hx i x hi j hj

theorem QqR.push {P : Program} {lo : Nat} {h : H} {e t t' t2 : TypeId} {s : Nat} {v xv : Value} {l : List (List Value)} {x : List Value} (a : QqR lo h e s v l) (ht : okApp P t e s = true) (ht' : okApp P t' e s = true)
    (hb : ∀ h : H, buildSlice P t2 1 [(0, xv)] h = some (.slice (some ⟨h.nx, 0, none⟩) 1 1, h.new (.row x e true))) (hx : x.length = s) (hsc : x.all scal = true) (hm : l.length + 1 < 2 ^ 30) (hlo : lo ≤ h.nx) :
    ∃ v' h', (∀ {R : Type} (K : Value → H → Option R), (bls P h t2 1 [(0, xv)] fun y h2 => AM.app P h2 t t' v y K) = K v' h') ∧ QqR lo h' e s v' (l ++ [x]) ∧ h.nx ≤ h'.nx ∧
      (∀ b, b < h.nx → AM.blkOf v ≠ some b → h'.blk b = h.blk b) ∧ ∃ b', AM.blkOf v' = some b' ∧ h.nx ≤ b' := by
  obtain ⟨i, z, h1, h2, h3, h4, h5, h6, h7⟩ := okApp_spec ht
  obtain ⟨_, _, h1', _⟩ := okApp_spec ht'
  have x0 := Ext.new h (.row x e true)
  have hsrc : srcCells s (.slice (some ⟨h.nx, 0, none⟩) 1 1) (h.new (.row x e true)) = some x := by
    simp only [srcCells, Nat.one_mul]
    rw [if_neg (by omega)]
    simp only [H.rd, blk_new_self]
    rw [if_pos (by omega)]
    simp [List.take_of_length_le (Nat.le_of_eq hx)]
  have hlen : lenOf (.slice (some ⟨h.nx, 0, none⟩) 1 1) = some 1 := rfl
  have h30 : (2:Nat) ^ 30 < U := by decide
  have fresh : ∀ (g : H) (old : List (List Value)), g.nx = h.nx + 1 → (∀ y ∈ old, y.length = s) → old.length + 1 < 2 ^ 30 →
      QqR lo (g.new (.row (old.flatten ++ x) e true)) e s (.slice (some ⟨h.nx + 1, 0, none⟩) (old.length + 1) (U + (old.length + 1))) (old ++ [x]) := by
    intro g old hg hox hom
    have := QqR.at_ (lo := lo) (h := g.new (.row (old.flatten ++ x) e true)) (e := e) (s := s) (b := h.nx + 1) (l := old ++ [x]) (pre := []) (by omega) (by rw [nx_new]; omega)
      (by rw [blk_new_at _ _ hg.symm]; simp) (by
      intro y hy
      rcases List.mem_append.1 hy with hy | hy
      · exact hox y hy
      · simp at hy; rw [hy]; exact hx) (by simpa using hom)
    rw [List.length_append] at this
    exact this
  cases a with
  | nil =>
    refine ⟨.slice (some ⟨h.nx + 1, 0, none⟩) 1 (U + 1), (h.new (.row x e true)).new (.row x e true), fun K => ?_, ?_, by simp only [nx_new]; omega, fun b hb' _ => ?_, h.nx + 1, rfl, by omega⟩
    · rw [bls_some (hb h)]
      unfold AM.app append
      simp only [h1, h1', h2, h3, hlen, h4, hsrc, Option.bind_some]
      rw [if_pos ⟨h5, h6, h7⟩]
      simp [nx_new]
    · have := fresh (h.new (.row x e true)) [] rfl (by simp) (by simp)
      simpa using this
    · rw [blk_new_ne _ _ (by rw [nx_new]; omega), blk_new_ne _ _ (by omega)]
  | @at_ b l pre hlob hb' hr hxl hm' =>
    have hr1 := (x0.blk _ hb').trans hr
    refine ⟨.slice (some ⟨h.nx + 1, 0, none⟩) (l.length + 1) (U + (l.length + 1)), ((h.new (.row x e true)).kill b).new (.row (l.flatten ++ x) e true), fun K => ?_, fresh _ l rfl hxl hm, by simp only [nx_new, nx_kill]; omega, fun b' hb'' hne => ?_, h.nx + 1, rfl, by omega⟩
    · rw [bls_some (hb h)]
      unfold AM.app append
      simp only [h1, h1', h2, h3, hlen, h4, hsrc, Option.bind_some]
      rw [if_pos ⟨h5, h6, h7⟩]
      simp only [capK_U]
      rw [if_neg (by omega), if_neg (by omega), if_pos hm, if_neg (by omega)]
      simp only [hr1, h4]
      rw [if_pos ⟨trivial, by rw [List.length_append, flatten_len hxl]; omega, hsc⟩]
      have : ((pre ++ l.flatten).drop pre.length).take (l.length * s) = l.flatten := by rw [List.drop_left, List.take_of_length_le (by rw [flatten_len hxl]; exact Nat.le_refl _)]
      rw [this]
      rfl
    · have : b' ≠ b := fun e1 => hne (by rw [e1]; rfl)
      rw [blk_new_ne _ _ (by rw [nx_kill, nx_new]; omega), blk_kill_ne _ _ this, blk_new_ne _ _ (by omega)]

/-- The first element is left out. -/
theorem QqR.tail {P : Program} {lo : Nat} {h : H} {e t : TypeId} {v : Value} {l : List (List Value)} {x : List Value} (a : QqR lo h e 1 v (x :: l)) (hu : P.underlying t = some (.slice e)) (hs : size? P e = some 1) :
    ∃ v', (∀ {R : Type} (K : Value → Option R), sli P h t v (some (.int .i64 1)) none none K = K v') ∧ QqR lo h e 1 v' l ∧ AM.blkOf v' = AM.blkOf v := by
  generalize hL : x :: l = L at a
  cases a with
  | nil => cases hL
  | @at_ b L pre hlo hb hr hx hm =>
    subst hL
    have h30 : (2:Nat) ^ 30 < U := by decide
    have hxs : x.length = 1 := hx x (by simp)
    refine ⟨.slice (some ⟨b, (pre ++ x).length, none⟩) l.length (U + l.length), fun K => ?_, .at_ hlo hb (by rw [hr]; simp) (fun y hy => hx y (by simp [hy])) (by simp at hm; omega), rfl⟩
    unfold sli slice
    simp only [hu, hr, capK_U]
    rw [if_pos ⟨trivial, by simp at hm ⊢; omega, rfl⟩]
    simp only [hs, Option.bind_some, bound]
    rw [if_pos ⟨by omega, by simp only [List.length_cons]; omega⟩]
    simp only [Option.bind_some, Option.isSome_none, Bool.false_eq_true, false_or]
    rw [if_neg (by omega)]
    simp [hxs]

end Go.AM
