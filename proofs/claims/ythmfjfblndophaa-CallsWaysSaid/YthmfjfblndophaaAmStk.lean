/- A slice that grows and shrinks at its end. -/
import Derived.Test.YthmfjfblndophaaAmLoop
namespace Go.AM

theorem setAt_mid : ∀ (xs pre mid post : List Value), mid.length = xs.length → setAt (pre ++ (mid ++ post)) pre.length xs = pre ++ (xs ++ post) := by
  intro xs
  induction xs with
  | nil => intro pre mid post h; rw [List.eq_nil_of_length_eq_zero h]; rfl
  | cons x xs ih =>
    intro pre mid post h
    cases mid with
    | nil => cases h
    | cons z mid =>
      simp only [setAt]
      have h1 : (pre ++ (z :: mid ++ post)).set pre.length x = (pre ++ [x]) ++ (mid ++ post) := by simp
      have h2 := ih (pre ++ [x]) mid post (by simpa using h)
      rw [h1, show pre.length + 1 = (pre ++ [x]).length by simp, h2]
      simp

/-- A slice that grows and shrinks at its end; behind its end its row may hold what was there. -/
inductive WqR (lo : Nat) (h : H) (e : TypeId) (s : Nat) : Value → List (List Value) → Prop
  | nil : WqR lo h e s (.slice none 0 0) []
  | at_ {b c m : Nat} {l : List (List Value)} {junk : List Value} (hlo : lo ≤ b) (hb : b < h.nx) (hr : h.blk b = some (.row (l.flatten ++ junk) e true)) (hx : ∀ x ∈ l, x.length = s) (hm : l.length + m < 2 ^ 30)
      (hj : junk.length = m * s) (hc : c = U + (l.length + m) ∨ c = l.length + m) : WqR lo h e s (.slice (some ⟨b, 0, none⟩) l.length c) l

theorem WqR.blkOf {lo : Nat} {h : H} {e : TypeId} {s : Nat} {v : Value} {l : List (List Value)} (a : WqR lo h e s v l) {b : Nat} (hb : AM.blkOf v = some b) : lo ≤ b ∧ b < h.nx ∧ ∃ c, h.blk b = some (.row c e true) := by
  cases a with
  | nil => cases hb
  | at_ hlo hb' hr hx hm => cases hb; exact ⟨hlo, hb', _, hr⟩

theorem WqR.keep {lo : Nat} {h h' : H} {e : TypeId} {s : Nat} {v : Value} {l : List (List Value)} (a : WqR lo h e s v l) (hn : h.nx ≤ h'.nx) (hb : ∀ b, AM.blkOf v = some b → h'.blk b = h.blk b) : WqR lo h' e s v l := by
  cases a with
  | nil => exact .nil
  | at_ hlo hb' hr hx hm hj hc => exact .at_ hlo (Nat.lt_of_lt_of_le hb' hn) ((hb _ rfl).trans hr) hx hm hj hc

theorem WqR.cells {lo : Nat} {h : H} {e : TypeId} {s : Nat} {v : Value} {l : List (List Value)} (a : WqR lo h e s v l) : v.cells = #[v] ∧ scal v = true := by
  cases a <;> exact ⟨rfl, rfl⟩

theorem WqR.cap_ {l m c : Nat} (hm : l + m < 2 ^ 30) (hc : c = U + (l + m) ∨ c = l + m) : AM.capK c = l + m := by
  have h30 : (2:Nat) ^ 30 < U := by decide
  rcases hc with rfl | rfl
  · exact capK_U _
  · unfold AM.capK; rw [if_pos (by omega)]

theorem WqR.slR {lo : Nat} {h : H} {e : TypeId} {s : Nat} {v : Value} {l : List (List Value)} (a : WqR lo h e s v l) : SlR h e s v l := by
  cases a with
  | nil => exact .nil
  | @at_ b c m l junk hlo hb hr hx hm hj hc =>
    have h30 : (2:Nat) ^ 30 < U := by decide
    have hk := WqR.cap_ hm hc
    refine .at_ hb hr (by omega) (by omega) (by rw [List.length_append, flatten_len hx]; omega) fun i x hi => ⟨hx x (List.mem_of_getElem? hi), fun j hj' => ?_⟩
    rw [Nat.zero_add]
    have hg := flatten_get hx i x hi j hj'
    have hil : i < l.length := (List.getElem?_eq_some_iff.1 hi).1
    have : i * s + j < l.flatten.length := by
      rw [flatten_len hx]
      have := Nat.mul_le_mul_right s (show i + 1 ≤ l.length from hil)
      rw [Nat.add_mul] at this
      omega
    rw [List.getElem?_append_left this]
    exact hg

/-- One element more. -/
theorem WqR.push {P : Program} {lo : Nat} {h : H} {e t t' t2 : TypeId} {s : Nat} {v xv : Value} {l : List (List Value)} {x : List Value} (a : WqR lo h e s v l) (ht : okApp P t e s = true) (ht' : okApp P t' e s = true)
    (hb : ∀ h : H, buildSlice P t2 1 [(0, xv)] h = some (.slice (some ⟨h.nx, 0, none⟩) 1 1, h.new (.row x e true))) (hx : x.length = s) (hsc : x.all scal = true) (hm : l.length + 1 < 2 ^ 30) (hlo : lo ≤ h.nx) :
    ∃ v' h', (∀ {R : Type} (K : Value → H → Option R), (bls P h t2 1 [(0, xv)] fun y h2 => AM.app P h2 t t' v y K) = K v' h') ∧ WqR lo h' e s v' (l ++ [x]) ∧ h.nx ≤ h'.nx ∧
      (∀ b, b < h.nx → AM.blkOf v ≠ some b → h'.blk b = h.blk b) ∧ ∃ b', AM.blkOf v' = some b' ∧ (h.nx ≤ b' ∨ AM.blkOf v = some b') := by
  obtain ⟨i, z, h1, h2, h3, h4, h5, h6, h7⟩ := okApp_spec ht
  obtain ⟨_, _, h1', _⟩ := okApp_spec ht'
  have x0 := Ext.new h (.row x e true)
  have hsrc : srcCells s (.slice (some ⟨h.nx, 0, none⟩) 1 1) (h.new (.row x e true)) = some x := by
    simp only [srcCells, Nat.one_mul]
    rw [if_neg (by omega)]
    simp only [H.rd, blk_new_self]
    rw [if_pos (by omega)]
    simp [List.take_of_length_le (Nat.le_of_eq hx)]
  have hlen : lenOf (.slice (some ⟨h.nx, 0, none⟩) 1 1) = some 1 := rfl
  have h30 : (2:Nat) ^ 30 < U := by decide
  have fresh : ∀ (g : H) (old : List (List Value)), g.nx = h.nx + 1 → (∀ y ∈ old, y.length = s) → old.length + 1 < 2 ^ 30 →
      WqR lo (g.new (.row (old.flatten ++ x) e true)) e s (.slice (some ⟨h.nx + 1, 0, none⟩) (old.length + 1) (U + (old.length + 1))) (old ++ [x]) := by
    intro g old hg hox hom
    have := WqR.at_ (lo := lo) (h := g.new (.row (old.flatten ++ x) e true)) (e := e) (s := s) (b := h.nx + 1) (c := U + (old.length + 1)) (m := 0) (l := old ++ [x]) (junk := []) (by omega) (by rw [nx_new]; omega)
      (by rw [blk_new_at _ _ hg.symm]; simp) (by
      intro y hy
      rcases List.mem_append.1 hy with hy | hy
      · exact hox y hy
      · simp at hy; rw [hy]; exact hx) (by simpa using hom) (by simp) (.inl (by simp))
    rw [List.length_append] at this
    exact this
  cases a with
  | nil =>
    refine ⟨.slice (some ⟨h.nx + 1, 0, none⟩) 1 (U + 1), (h.new (.row x e true)).new (.row x e true), fun K => ?_, ?_, by simp only [nx_new]; omega, fun b hb' _ => ?_, h.nx + 1, rfl, .inl (by omega)⟩
    · rw [bls_some (hb h)]
      unfold AM.app append
      simp only [h1, h1', h2, h3, hlen, h4, hsrc, Option.bind_some]
      rw [if_pos ⟨h5, h6, h7⟩]
      simp [nx_new]
    · have := fresh (h.new (.row x e true)) [] rfl (by simp) (by simp)
      simpa using this
    · rw [blk_new_ne _ _ (by rw [nx_new]; omega), blk_new_ne _ _ (by omega)]
  | @at_ b c m l junk hlob hb' hr hxl hm' hj hc =>
    have hr1 := (x0.blk _ hb').trans hr
    have hck := WqR.cap_ hm' hc
    by_cases hm0 : m = 0
    · subst hm0
      have hjn : junk = [] := List.eq_nil_of_length_eq_zero (by simpa using hj)
      subst hjn
      rw [List.append_nil] at hr1
      rcases hc with rfl | rfl
      · refine ⟨.slice (some ⟨h.nx + 1, 0, none⟩) (l.length + 1) (U + (l.length + 1)), ((h.new (.row x e true)).kill b).new (.row (l.flatten ++ x) e true), fun K => ?_, fresh _ l rfl hxl hm, by simp only [nx_new, nx_kill]; omega, fun b' hb'' hne => ?_, h.nx + 1, rfl, .inl (by omega)⟩
        · rw [bls_some (hb h)]
          unfold AM.app append
          simp only [h1, h1', h2, h3, hlen, h4, hsrc, Option.bind_some, Nat.add_zero] at hck ⊢
          rw [if_pos ⟨h5, h6, h7⟩]
          simp only [hck]
          rw [if_neg (by omega), if_neg (by omega), if_pos hm, if_neg (by omega)]
          simp only [hr1, h4]
          rw [if_pos ⟨trivial, by rw [flatten_len hxl]; omega, hsc⟩]
          have : (l.flatten.drop 0).take (l.length * s) = l.flatten := by rw [List.drop_zero, List.take_of_length_le (by rw [flatten_len hxl]; exact Nat.le_refl _)]
          rw [this]
          rfl
        · have : b' ≠ b := fun e1 => hne (by rw [e1]; rfl)
          rw [blk_new_ne _ _ (by rw [nx_kill, nx_new]; omega), blk_kill_ne _ _ this, blk_new_ne _ _ (by omega)]
      · refine ⟨.slice (some ⟨h.nx + 1, 0, none⟩) (l.length + 1) (U + (l.length + 1)), (h.new (.row x e true)).new (.row (l.flatten ++ x) e true), fun K => ?_, fresh _ l rfl hxl hm, by simp only [nx_new]; omega, fun b' hb'' _ => ?_, h.nx + 1, rfl, .inl (by omega)⟩
        · rw [bls_some (hb h)]
          unfold AM.app append
          simp only [h1, h1', h2, h3, hlen, h4, hsrc, Option.bind_some, Nat.add_zero] at hck ⊢
          rw [if_pos ⟨h5, h6, h7⟩]
          simp only [hck]
          rw [if_neg (by omega), if_neg (by omega), if_pos hm, if_pos (by omega)]
          have hrd : (if l.length = 0 then some [] else (h.new (.row x e true)).rd b 0 (l.length * s)) = some l.flatten := by
            split
            · rename_i h9
              rw [List.eq_nil_of_length_eq_zero h9]
              rfl
            · simp only [H.rd, hr1]
              rw [if_pos (by rw [flatten_len hxl]; omega), List.drop_zero, List.take_of_length_le (by rw [flatten_len hxl]; exact Nat.le_refl _)]
          rw [hrd]
          rfl
        · rw [blk_new_ne _ _ (by rw [nx_new]; omega), blk_new_ne _ _ (by omega)]
    · -- there is room
      obtain ⟨m', rfl⟩ : ∃ m', m = m' + 1 := ⟨m - 1, by omega⟩
      rw [Nat.add_mul, Nat.one_mul] at hj
      have hsplit : junk = junk.take s ++ junk.drop s := (List.take_append_drop s junk).symm
      have hset : setAt (l.flatten ++ junk) (l.length * s) x = (l ++ [x]).flatten ++ junk.drop s := by
        conv => lhs; rw [hsplit]
        rw [← flatten_len hxl, setAt_mid x l.flatten (junk.take s) (junk.drop s) (by rw [List.length_take]; omega)]
        simp
      refine ⟨.slice (some ⟨b, 0, none⟩) (l.length + 1) c, (h.new (.row x e true)).set b (.row ((l ++ [x]).flatten ++ junk.drop s) e true), fun K => ?_, ?_, by rw [nx_set, nx_new]; omega, fun b' hb'' hne => ?_, b, rfl, .inr rfl⟩
      · rw [bls_some (hb h)]
        unfold AM.app append
        simp only [h1, h1', h2, h3, hlen, h4, hsrc, Option.bind_some]
        rw [if_pos ⟨h5, h6, h7⟩]
        simp only [hck]
        rw [if_neg (by omega), if_pos (by omega)]
        simp only [hr1, h4]
        rw [if_pos ⟨trivial, by rw [List.length_append, flatten_len hxl, Nat.add_mul]; omega, hsc⟩]
        simp only [Nat.zero_add]
        rw [hset]
        rfl
      · have := WqR.at_ (lo := lo) (h := (h.new (.row x e true)).set b (.row ((l ++ [x]).flatten ++ junk.drop s) e true)) (e := e) (s := s) (b := b) (c := c) (m := m') (l := l ++ [x]) (junk := junk.drop s) hlob (by rw [nx_set, nx_new]; omega) (blk_set_self _ _ _) (by
          intro y hy
          rcases List.mem_append.1 hy with hy | hy
          · exact hxl y hy
          · simp at hy; rw [hy]; exact hx) (by simp; omega) (by rw [List.length_drop]; omega) (by simp; omega)
        rw [List.length_append] at this
        exact this
      · have : b' ≠ b := fun e1 => hne (by rw [e1]; rfl)
        rw [blk_set_ne _ _ _ this, blk_new_ne _ _ (by omega)]

/-- The last element is left out. -/
theorem WqR.pop {P : Program} {lo : Nat} {h : H} {e t : TypeId} {s : Nat} {v : Value} {l : List (List Value)} {x : List Value} (a : WqR lo h e s v (l ++ [x])) (hu : P.underlying t = some (.slice e)) (hs : size? P e = some s) :
    ∃ v', (∀ {R : Type} (K : Value → Option R), sli P h t v none (some (.int .i64 l.length)) none K = K v') ∧ WqR lo h e s v' l ∧ AM.blkOf v' = AM.blkOf v := by
  generalize hL : l ++ [x] = L at a
  cases a with
  | nil => simp at hL
  | @at_ b c m L junk hlo hb hr hx hm hj hc =>
    subst hL
    have h30 : (2:Nat) ^ 30 < U := by decide
    have hck := WqR.cap_ hm hc
    rw [List.length_append] at *
    simp only [List.length_cons, List.length_nil, Nat.zero_add] at *
    have hxs : x.length = s := hx x (by simp)
    refine ⟨.slice (some ⟨b, 0, none⟩) l.length c, fun K => ?_, ?_, rfl⟩
    · unfold sli slice
      simp only [hu, hr]
      rw [if_pos ⟨trivial, by omega, rfl⟩]
      simp only [hs, Option.bind_some, bound]
      rw [if_pos ⟨by omega, by omega⟩]
      simp only [Option.bind_some, Option.isSome_none, Bool.false_eq_true, false_or]
      by_cases hcu : c < U
      · rw [if_pos hcu]
        have : AM.capK c = c := by unfold AM.capK; rw [if_pos hcu]
        simp only [this, Int.toNat_natCast, Nat.zero_mul, Nat.add_zero, Nat.sub_zero, ite_self]
        rfl
      · rw [if_neg hcu]
        have : U + AM.capK c = c := by
          have : AM.capK c = c - U := by unfold AM.capK; rw [if_neg hcu]
          omega
        simp only [this, Int.toNat_natCast, Nat.zero_mul, Nat.add_zero, Nat.sub_zero]
        rfl
    · refine .at_ (m := m + 1) (junk := x ++ junk) hlo hb (by rw [hr]; simp) (fun y hy => hx y (by simp [hy])) (by omega) (by rw [List.length_append, Nat.add_mul]; omega) (by omega)

end Go.AM
