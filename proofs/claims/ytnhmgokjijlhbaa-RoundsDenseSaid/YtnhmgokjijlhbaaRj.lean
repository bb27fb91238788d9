/- Rows of slices that grow. -/
import Derived.Test.YtnhmgokjijlhbaaRi
namespace Go.AM
open Go.Proofs

theorem zero22 : zero? Try.prog 22 = some (.slice none 0 0) := by kernel_rfl

theorem mks_nils {n : Nat} (hn : n < 2 ^ 30) {h : H} {R : Type} (K : Value → H → Option R) :
    mks Try.prog h 60 n n K = K (.slice (some ⟨h.nx, 0, none⟩) n n) (h.new (.row (List.replicate n (.slice none 0 0)) 22 true)) := by
  obtain ⟨i, z, h1, h2, h3, h4, h5, h6, h7⟩ := okApp_spec app60
  rw [zero22] at h3
  cases h3
  have hr : (List.range n).map (fun x => (Value.slice none 0 0).cells[x % 1]!) = List.replicate n (.slice none 0 0) := by
    apply List.ext_getElem
    · simp
    · intro j h8 h9
      simp [Nat.mod_one, Value.cells]
  unfold mks makeSlice
  simp only [h1, h2, zero22, h4, Option.bind_some]
  rw [if_pos ⟨by omega, by omega, by omega, h5, by omega, by rw [h7]⟩]
  simp only [Option.bind_some, Int.toNat_natCast, Nat.mul_one]
  rw [← hr]
  rfl

/-- A row of slices that are owned and grow: the row stands at b below lo; all slices from lo on, apart from each other and from the blocks that are bad. -/
structure BefR (lo : Nat) (bad : Nat → Prop) (h : H) (b : Nat) (v : Value) (vs : List Value) (ls : List (List Int)) : Prop where
  val : ∃ c, v = .slice (some ⟨b, 0, none⟩) vs.length c ∧ vs.length ≤ capK c ∧ capK c < U
  low : b < lo
  nx : lo ≤ h.nx
  row : h.blk b = some (.row vs 22 true)
  len : vs.length = ls.length
  el : ∀ (j : Nat) (w : Value) (l : List Int), vs[j]? = some w → ls[j]? = some l → AqR lo h 3 1 w (cellsI l)
  ok : ∀ w ∈ vs, ∀ q, blkOf w = some q → ¬ bad q
  apart : ∀ (i j : Nat) (w w' : Value) (q : Nat), i ≠ j → vs[i]? = some w → vs[j]? = some w' → blkOf w = some q → blkOf w' ≠ some q

theorem BefR.keep {lo : Nat} {bad bad' : Nat → Prop} {h h' : H} {b : Nat} {v : Value} {vs : List Value} {ls : List (List Int)} (a : BefR lo bad h b v vs ls) (hn : h.nx ≤ h'.nx) (hbb : h'.blk b = h.blk b) (hb : ∀ q, lo ≤ q → q < h.nx → ¬ bad q → h'.blk q = h.blk q)
    (hbad : ∀ q, lo ≤ q → q < h.nx → bad' q → bad q) : BefR lo bad' h' b v vs ls := by
  have hin : ∀ w ∈ vs, ∃ l, AqR lo h 3 1 w (cellsI l) := fun w hw => by
    obtain ⟨j, hj⟩ := List.getElem?_of_mem hw
    have hjl := (List.getElem?_eq_some_iff.1 hj).1
    exact ⟨_, a.el j w _ hj (List.getElem?_eq_getElem (by rw [← a.len]; exact hjl))⟩
  refine ⟨a.val, a.low, Nat.le_trans a.nx hn, hbb.trans a.row, a.len, fun j w l hw hl => ?_, fun w hw q hq hc => ?_, a.apart⟩
  · have h1 := a.el j w l hw hl
    exact h1.keep hn fun q hq => hb q (h1.blkOf hq).1 (h1.blkOf hq).2.1 (a.ok w (List.mem_of_getElem? hw) q hq)
  · obtain ⟨l, h1⟩ := hin w hw
    exact a.ok w hw q hq (hbad q (h1.blkOf hq).1 (h1.blkOf hq).2.1 hc)

/-- An element grows by a number. -/
theorem BefR.grow {lo : Nat} {bad : Nat → Prop} {h h' : H} {b : Nat} {v : Value} {vs : List Value} {ls : List (List Int)} (a : BefR lo bad h b v vs ls) {j : Nat} {w w' : Value} {l l' : List Int} (hw : vs[j]? = some w) (hl : ls[j]? = some l)
    (a' : AqR lo h' 3 1 w' (cellsI l')) (hn : h.nx ≤ h'.nx) (hk : ∀ q, q < h.nx → blkOf w ≠ some q → h'.blk q = h.blk q) {q' : Nat} (hq' : blkOf w' = some q') (hnew : h.nx ≤ q') (hbad : ∀ q, h.nx ≤ q → ¬ bad q) :
    BefR lo bad (h'.set b (.row (vs.set j w') 22 true)) b v (vs.set j w') (ls.set j l') := by
  have hj := (List.getElem?_eq_some_iff.1 hw).1
  have hlow := a.low
  have hnx := a.nx
  refine ⟨by simpa using a.val, a.low, Nat.le_trans a.nx hn, blk_set_self _ _ _, by simp [a.len], fun i x m hx hm => ?_, fun x hx q hq => ?_, fun i i' x x' q hne hx hx' hq => ?_⟩
  · have hset : ∀ {y : Value} {n : List Int}, AqR lo h' 3 1 y (cellsI n) → AqR lo (h'.set b (.row (vs.set j w') 22 true)) 3 1 y (cellsI n) := fun {y n} ay =>
      ay.keep (Nat.le_refl _) fun q hq => by rw [blk_set, if_neg (by have := (ay.blkOf hq).1; omega)]
    by_cases hij : i = j
    · subst hij
      rw [List.getElem?_set_self hj] at hx
      rw [List.getElem?_set_self (by rw [← a.len]; exact hj)] at hm
      cases hx; cases hm
      exact hset a'
    · rw [List.getElem?_set_ne (Ne.symm hij)] at hx hm
      have h1 := a.el i x m hx hm
      exact hset (h1.keep hn fun q hq => hk q (h1.blkOf hq).2.1 (fun e => a.apart j i w x q (Ne.symm hij) hw hx e hq))
  · rcases List.mem_or_eq_of_mem_set hx with h1 | h1
    · exact a.ok x h1 q hq
    · subst h1
      rw [hq'] at hq
      cases hq
      exact hbad _ hnew
  · have old : ∀ (i : Nat) (x : Value), i ≠ j → (vs.set j w')[i]? = some x → ∀ q, blkOf x = some q → q < h.nx := fun i x hij hx q hq => by
      rw [List.getElem?_set_ne (Ne.symm hij)] at hx
      have hil := (List.getElem?_eq_some_iff.1 hx).1
      exact ((a.el i x _ hx (List.getElem?_eq_getElem (by rw [← a.len]; exact hil))).blkOf hq).2.1
    by_cases h1 : i = j
    · subst h1
      rw [List.getElem?_set_self hj] at hx
      cases hx
      rw [hq'] at hq
      cases hq
      intro e
      have := old i' x' (Ne.symm hne) hx' _ e
      omega
    · by_cases h2 : i' = j
      · subst h2
        rw [List.getElem?_set_self hj] at hx'
        cases hx'
        rw [hq']
        intro e
        cases e
        have := old i x h1 hx _ hq
        omega
      · rw [List.getElem?_set_ne (Ne.symm h1)] at hx
        rw [List.getElem?_set_ne (Ne.symm h2)] at hx'
        exact a.apart i i' x x' q hne hx hx' hq

end Go.AM
