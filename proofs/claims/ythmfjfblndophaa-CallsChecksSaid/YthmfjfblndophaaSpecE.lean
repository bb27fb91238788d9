/- Clone and list. -/
import Derived.Test.YthmfjfblndophaaSpecD
namespace Go.AM
open Go.Proofs

variable {k : Nat} {rec : Rec}

def cellI (x : Int) : List Value := [iv x]

theorem app25 : okApp Try.prog 25 3 1 = true := by kernel_rfl
theorem under25 : Try.prog.underlying 25 = some (.slice 3) := by kernel_rfl
theorem nil25 : binOp Try.prog .eql 25 (.slice none 0 0) (.slice none 0 0) = some (.bool true) := by kernel_rfl
theorem some25 (a : Addr) (n c : Nat) : binOp Try.prog .eql 25 (.slice (some a) n c) (.slice none 0 0) = some (.bool false) := by kernel_rfl
theorem bls25e (h : H) : buildSlice Try.prog 25 0 [] h = some (.slice (some ⟨h.nx, 0, none⟩) 0 0, h.new (.row [] 3 true)) := by kernel_rfl

theorem f75_spec {v : Value} {l : List (List Value)} {h : H} (hs : SlR h 3 1 v l) (hm : l.length < 2 ^ 30) : ∃ v' h', f75 rec k v h = some (v', h') ∧ Ext h h' ∧ SlR h' 3 1 v' l := by
  unfold f75
  have hs0 := hs
  cases hs with
  | nil =>
    refine ⟨_, h, ?_, .refl _, .nil⟩
    unfold eqv
    rw [nil25]
    rfl
  | @at_ b o c cs own l hb hr hk hc hl hx =>
    unfold eqv
    rw [some25]
    simp only []
    rw [ifB_false, bls_some (bls25e h)]
    have x1 := Ext.new h (.row [] 3 true)
    obtain ⟨v', h', e, x, s⟩ := app_all (b := h.nx) app25 app25 (Nat.lt_succ_self _) (blk_new_self _ _) (hs0.ext x1) hm
    exact ⟨v', h', e _, x1.trans x, s⟩

theorem f28_spec {m : Nat} {v : Value} {l : List (List Value)} {h : H} (hs : SlR h 3 1 v l) : ∃ v' h', f28 (call Try.prog E0 (m + 1)) k v h = some (v', h') ∧ Ext h h' ∧ SlR h' 3 1 v' (l.take 26) := by
  unfold f28
  rw [hs.len]
  have e1 : imin (l.length : Int) 26 = ((min l.length 26 : Nat) : Int) := by
    unfold imin
    split <;> omega
  obtain ⟨v1, s1, e2⟩ := hs.take (i := ((min l.length 26 : Nat) : Int)) under25 sz3 (by omega) (by omega)
  rw [e1, e2]
  have e3 : l.take ((min l.length 26 : Nat) : Int).toNat = l.take 26 := by
    rw [Int.toNat_natCast]
    rcases Nat.le_total l.length 26 with h1 | h1
    · rw [Nat.min_eq_left h1, List.take_of_length_le (Nat.le_refl _), List.take_of_length_le h1]
    · rw [Nat.min_eq_right h1]
  rw [e3] at s1
  obtain ⟨v', h', e4, x, s⟩ := f75_spec (rec := call Try.prog E0 m) (k := m + 1) s1 (by rw [List.length_take]; omega)
  refine ⟨v', h', ?_, x, s⟩
  rw [calls_eq (c75 e4)]

end Go.AM
