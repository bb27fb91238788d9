/- A queue that begins as a literal: a slice that is pushed at its end and popped at its front. -/
import Derived.Test.YthmfjfblndophaaAmSim

namespace Go.AM

/-- A slice that was made by a literal or by pushing, and popped at its front. -/
inductive QlR (lo : Nat) (h : H) (e : TypeId) (s : Nat) : Value → List (List Value) → Prop
  | at_ {b c : Nat} {l : List (List Value)} {pre : List Value} (hlo : lo ≤ b) (hb : b < h.nx) (hr : h.blk b = some (.row (pre ++ l.flatten) e true)) (hx : ∀ x ∈ l, x.length = s) (hm : l.length < 2 ^ 30) (hc : c = U + l.length ∨ c = l.length) :
      QlR lo h e s (.slice (some ⟨b, pre.length, none⟩) l.length c) l

theorem QlR.blkOf {lo : Nat} {h : H} {e : TypeId} {s : Nat} {v : Value} {l : List (List Value)} (a : QlR lo h e s v l) : ∃ b, AM.blkOf v = some b ∧ lo ≤ b ∧ b < h.nx ∧ ∃ cs, h.blk b = some (.row cs e true) := by
  cases a with
  | @at_ b _ _ _ hlo hb' hr hx hm => exact ⟨b, rfl, hlo, hb', _, hr⟩

theorem QlR.keep {lo : Nat} {h h' : H} {e : TypeId} {s : Nat} {v : Value} {l : List (List Value)} (a : QlR lo h e s v l) (hn : h.nx ≤ h'.nx) (hb : ∀ b, AM.blkOf v = some b → h'.blk b = h.blk b) : QlR lo h' e s v l := by
  cases a with
  | at_ hlo hb' hr hx hm hc => exact .at_ hlo (Nat.lt_of_lt_of_le hb' hn) ((hb _ rfl).trans hr) hx hm hc

theorem QlR.slR {lo : Nat} {h : H} {e : TypeId} {s : Nat} {v : Value} {l : List (List Value)} (a : QlR lo h e s v l) : SlR h e s v l := by
  cases a with
  | @at_ b c l pre hlo hb hr hx hm hc =>
    have h30 : (2:Nat) ^ 30 < U := by decide
    have hk : capK c = l.length := by
      rcases hc with rfl | rfl
      · exact capK_U _
      · unfold capK; rw [if_pos (by omega)]
    refine .at_ hb hr (by omega) (by omega) (by rw [List.length_append, flatten_len hx]; omega) fun i x hi => ⟨hx x (List.mem_of_getElem? hi), fun j hj => ?_⟩
    rw [Nat.add_assoc, List.getElem?_append_right (by omega), Nat.add_sub_cancel_left]
    exact flatten_get hx i x hi j hj

theorem QlR.lit {lo : Nat} {h : H} {e : TypeId} {s : Nat} {x : List Value} (hlo : lo ≤ h.nx) (hx : x.length = s) : QlR lo (h.new (.row x e true)) e s (.slice (some ⟨h.nx, 0, none⟩) 1 1) [x] :=
  QlR.at_ (l := [x]) (pre := []) hlo (Nat.lt_succ_self _) (by rw [blk_new_self]; simp) (by simp [hx]) (by simp) (.inr rfl)

theorem QlR.push {P : Program} {lo : Nat} {h : H} {e t t' t2 : TypeId} {s : Nat} {v xv : Value} {l : List (List Value)} {x : List Value} (a : QlR lo h e s v l) (ht : okApp P t e s = true) (ht' : okApp P t' e s = true)
    (hb : ∀ h : H, buildSlice P t2 1 [(0, xv)] h = some (.slice (some ⟨h.nx, 0, none⟩) 1 1, h.new (.row x e true))) (hx : x.length = s) (hsc : x.all scal = true) (hm : l.length + 1 < 2 ^ 30) (hlo : lo ≤ h.nx) :
    ∃ v' h', (∀ {R : Type} (K : Value → H → Option R), (bls P h t2 1 [(0, xv)] fun y h2 => AM.app P h2 t t' v y K) = K v' h') ∧ QlR lo h' e s v' (l ++ [x]) ∧ h.nx ≤ h'.nx ∧
      (∀ b, b < h.nx → AM.blkOf v ≠ some b → h'.blk b = h.blk b) ∧ ∃ b', AM.blkOf v' = some b' ∧ h.nx ≤ b' := by
  obtain ⟨i, z, h1, h2, h3, h4, h5, h6, h7⟩ := okApp_spec ht
  obtain ⟨_, _, h1', _⟩ := okApp_spec ht'
  have x0 := Ext.new h (.row x e true)
  have hsrc : srcCells s (.slice (some ⟨h.nx, 0, none⟩) 1 1) (h.new (.row x e true)) = some x := by
    simp only [srcCells, Nat.one_mul]
    rw [if_neg (by omega)]
    simp only [H.rd, blk_new_self]
    rw [if_pos (by omega)]
    simp [List.take_of_length_le (Nat.le_of_eq hx)]
  have hlen : lenOf (.slice (some ⟨h.nx, 0, none⟩) 1 1) = some 1 := rfl
  have h30 : (2:Nat) ^ 30 < U := by decide
  have fresh : ∀ (g : H) (old : List (List Value)), g.nx = h.nx + 1 → (∀ y ∈ old, y.length = s) → old.length + 1 < 2 ^ 30 →
      QlR lo (g.new (.row (old.flatten ++ x) e true)) e s (.slice (some ⟨h.nx + 1, 0, none⟩) (old.length + 1) (U + (old.length + 1))) (old ++ [x]) := by
    intro g old hg hox hom
    have := QlR.at_ (lo := lo) (h := g.new (.row (old.flatten ++ x) e true)) (e := e) (s := s) (b := h.nx + 1) (c := U + (old ++ [x]).length) (l := old ++ [x]) (pre := []) (by omega) (by rw [nx_new]; omega)
      (by rw [blk_new_at _ _ hg.symm]; simp) (by
      intro y hy
      rcases List.mem_append.1 hy with hy | hy
      · exact hox y hy
      · simp at hy; rw [hy]; exact hx) (by simpa using hom) (.inl rfl)
    rw [List.length_append] at this
    exact this
  cases a with
  | @at_ b c l pre hlob hb' hr hxl hm' hc =>
    have hr1 := (x0.blk _ hb').trans hr
    rcases hc with rfl | rfl
    · refine ⟨.slice (some ⟨h.nx + 1, 0, none⟩) (l.length + 1) (U + (l.length + 1)), ((h.new (.row x e true)).kill b).new (.row (l.flatten ++ x) e true), fun K => ?_, fresh _ l rfl hxl hm, by simp only [nx_new, nx_kill]; omega, fun b' hb'' hne => ?_, h.nx + 1, rfl, by omega⟩
      · rw [bls_some (hb h)]
        unfold AM.app append
        simp only [h1, h1', h2, h3, hlen, h4, hsrc, Option.bind_some]
        rw [if_pos ⟨h5, h6, h7⟩]
        simp only [capK_U]
        rw [if_neg (by omega), if_neg (by omega), if_pos hm, if_neg (by omega)]
        simp only [hr1, h4]
        rw [if_pos ⟨trivial, by rw [List.length_append, flatten_len hxl]; omega, hsc⟩]
        have : ((pre ++ l.flatten).drop pre.length).take (l.length * s) = l.flatten := by rw [List.drop_left, List.take_of_length_le (by rw [flatten_len hxl]; exact Nat.le_refl _)]
        rw [this]
        rfl
      · have : b' ≠ b := fun e1 => hne (by rw [e1]; rfl)
        rw [blk_new_ne _ _ (by rw [nx_kill, nx_new]; omega), blk_kill_ne _ _ this, blk_new_ne _ _ (by omega)]
    · refine ⟨.slice (some ⟨h.nx + 1, 0, none⟩) (l.length + 1) (U + (l.length + 1)), (h.new (.row x e true)).new (.row (l.flatten ++ x) e true), fun K => ?_, fresh _ l rfl hxl hm, by simp only [nx_new]; omega, fun b' hb'' hne => ?_, h.nx + 1, rfl, by omega⟩
      · rw [bls_some (hb h)]
        unfold AM.app append
        simp only [h1, h1', h2, h3, hlen, h4, hsrc, Option.bind_some]
        rw [if_pos ⟨h5, h6, h7⟩]
        have hck : capK l.length = l.length := by unfold capK; rw [if_pos (by omega)]
        simp only [hck]
        rw [if_neg (by omega), if_neg (by omega), if_pos hm, if_pos (by omega)]
        have hrd : (if l.length = 0 then some [] else (h.new (.row x e true)).rd b pre.length (l.length * s)) = some l.flatten := by
          split
          · rename_i h9
            rw [List.eq_nil_of_length_eq_zero h9]
            rfl
          · simp only [H.rd, hr1]
            rw [if_pos (by rw [List.length_append, flatten_len hxl]; omega), List.drop_left, List.take_of_length_le (by rw [flatten_len hxl]; exact Nat.le_refl _)]
        rw [hrd]
        rfl
      · rw [blk_new_ne _ _ (by rw [nx_new]; omega), blk_new_ne _ _ (by omega)]

/-- The first element is left out. -/
theorem QlR.tail {P : Program} {lo : Nat} {h : H} {e t : TypeId} {s : Nat} {v : Value} {l : List (List Value)} {x : List Value} (a : QlR lo h e s v (x :: l)) (hs0 : 0 < s) (hu : P.underlying t = some (.slice e)) (hs : size? P e = some s) :
    ∃ v', (∀ {R : Type} (K : Value → Option R), sli P h t v (some (.int .i64 1)) none none K = K v') ∧ (l ≠ [] → QlR lo h e s v' l) ∧ (l = [] → ∃ b o c, v' = .slice (some ⟨b, o, none⟩) 0 c) ∧ AM.blkOf v' = AM.blkOf v := by
  generalize hL : x :: l = L at a
  cases a with
  | @at_ b c L pre hlo hb hr hx hm hc =>
    subst hL
    have h30 : (2:Nat) ^ 30 < U := by decide
    have hxs : x.length = s := hx x (by simp)
    have hq : ∀ c', (c' = U + l.length ∨ c' = l.length) → QlR lo h e s (.slice (some ⟨b, (pre ++ x).length, none⟩) l.length c') l := fun c' hc' => .at_ hlo hb (by rw [hr]; simp) (fun y hy => hx y (by simp [hy])) (by simp at hm; omega) hc'
    have hlen : (x :: l).length = l.length + 1 := rfl
    rcases hc with rfl | rfl
    · refine ⟨.slice (some ⟨b, (pre ++ x).length, none⟩) l.length (U + l.length), fun K => ?_, fun _ => hq _ (.inl rfl), fun e => ⟨b, _, _, by rw [e]; rfl⟩, rfl⟩
      unfold sli slice
      simp only [hu, hr, capK_U]
      rw [if_pos ⟨trivial, by omega, rfl⟩]
      simp only [hs, Option.bind_some, bound]
      rw [if_pos ⟨by omega, by simp only [List.length_cons]; omega⟩]
      simp only [Option.bind_some, Option.isSome_none, Bool.false_eq_true, false_or]
      rw [if_neg (by omega)]
      simp [hxs]
    · have hck : capK (x :: l).length = (x :: l).length := by unfold capK; rw [if_pos (by omega)]
      by_cases hl : l = []
      · subst hl
        refine ⟨.slice (some ⟨b, pre.length, none⟩) 0 0, fun K => ?_, fun h => absurd rfl h, fun _ => ⟨b, _, _, rfl⟩, rfl⟩
        unfold sli slice
        simp only [hu, hr, hck]
        rw [if_pos ⟨trivial, by omega, rfl⟩]
        simp only [hs, Option.bind_some, bound]
        rw [if_pos ⟨by omega, by simp⟩]
        simp only [Option.bind_some, Option.isSome_none, Bool.false_eq_true, false_or]
        rw [if_pos (by omega)]
        simp
      · refine ⟨.slice (some ⟨b, (pre ++ x).length, none⟩) l.length l.length, fun K => ?_, fun _ => hq _ (.inr rfl), fun e => absurd e hl, rfl⟩
        have : 0 < l.length := List.length_pos_iff.2 hl
        unfold sli slice
        simp only [hu, hr, hck]
        rw [if_pos ⟨trivial, by omega, rfl⟩]
        simp only [hs, Option.bind_some, bound]
        rw [if_pos ⟨by omega, by simp only [List.length_cons]; omega⟩]
        simp only [Option.bind_some, Option.isSome_none, Bool.false_eq_true, false_or]
        rw [if_pos (by omega), if_neg (by simp; omega)]
        simp [hxs]

end Go.AM
