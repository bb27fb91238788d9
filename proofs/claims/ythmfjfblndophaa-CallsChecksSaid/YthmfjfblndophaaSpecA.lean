/- What the small functions of calls and of the valid logs answer. -/
import Derived.Test.YthmfjfblndophaaFA
import Derived.Test.YthmfjfblndophaaAwake
import Derived.Test.YthmfjfblndophaaAmSl
namespace Go.AM
open Go.Proofs

/-- A call. -/
structure Cl where
  a : Int
  b : Int
  t : Int

def Cl.cells (c : Cl) : List Value := [iv c.a, iv c.b, iv c.t]
abbrev Cl.val (c : Cl) : Value := .agg c.cells.toArray
def Cl.has (c : Cl) (p : Int) : Bool := c.a == p || c.b == p

variable {rec : Rec} {k : Nat}

attribute [local simp] nx_eq nx_new nx_set blk_new_self blk_set_self asI_int asK_int asB_bool asP_ptr al_eq bx_eq ifB_true ifB_false len_slice onE_exit onE_ret onR_ret Value.cells

theorem f73_eq (c : Cl) (p : Int) (h : H) : f73 rec k c.val p h = some (.bool (c.has p), h.new (.row c.cells 56 true)) := by
  simp [f73, Cl.val, Cl.cells, Cl.has, ld, load, ag3, H.cell, off, eq]
  by_cases h1 : c.a = p <;> simp [h1, ifB]

theorem f74_eq (c : Cl) (p : Int) (h : H) : f74 rec k c.val p h = some (iv (sub .i64 (add .i64 c.a c.b) p), h.new (.row c.cells 56 true)) := by
  simp [f74, Cl.val, Cl.cells, ld, load, ag3, H.cell, off, eq]

theorem f72_eq (n p : Int) (s : Value) (h : H) : f72 rec k (.agg #[iv n, s]) p h = some (.bool (decide (0 ≤ p ∧ p < n)), h.new (.row [iv n, s] 31 true)) := by
  simp [f72, ld, load, ag3, H.cell, off, eq, le, lt]
  by_cases h1 : 0 ≤ p <;> simp [h1]

theorem f42_eq (n p : Int) (s : Value) (h : H) : f42 rec k (.agg #[iv n, s]) p h = some (.bool (decide (0 ≤ p ∧ p < n)), h.new (.row [iv n, s] 24 true)) := by
  simp [f42, ld, load, ag3, H.cell, off, eq, le, lt]
  by_cases h1 : 0 ≤ p <;> simp [h1]

/-- The first element for which a function says yes. -/
theorem f105_spec {v0 v1 : Value} {h : H} {l : List Cl} (hs : SlR h 56 3 v0 (l.map Cl.cells)) (hk : l.length < k) {p : Cl → Bool}
    (hp : ∀ h', Ext h h' → ∀ x ∈ l, ∃ h'', callV rec v1 #[x.val] h' = some (.bool (p x), h'') ∧ Ext h' h'') :
    ∃ r h', f105 rec k v0 v1 h = some (iv r, h') ∧ Ext h h' ∧ (le 0 r = l.any p) := by
  have hlen := hs.lt62
  rw [List.length_map] at hlen
  obtain ⟨e, ws', h', hl, hx, hq⟩ := lpGo_inv (F := f105_l1 rec k v0 v1 l.length)
    (fun d ws h1 => ∃ (x : Value) (i : Nat), ws = [x, iv i] ∧ i + d = l.length ∧ Ext h h1 ∧ ∀ y ∈ l.take i, p y = false)
    (fun e ws h1 => Ext h h1 ∧ ((e = .exit 0 ∧ l.any p = false) ∨ (e = .ret ∧ ∃ i : Nat, gv ws 0 = iv i ∧ l.any p = true)))
    (by
      rintro d ws h1 ⟨x, i, rfl, hd, hx, hno⟩
      unfold f105_l1
      rw [show gv [x, iv i] 1 = iv i from rfl, asI_int, ifB_lt]
      split
      · rename_i hlt
        have hi : i < l.length := by omega
        obtain ⟨b, o, cs, own, hb, hr, q1, q2, q3, q4⟩ := (hs.ext hx).six (i := (i : Int)) (by omega) (x := (l[i]).cells) (by simp [hi])
        rw [asK_int, q4, ld_elem ag56 sz56 hr q1 q2 q3]
        obtain ⟨h2, g1, g2⟩ := hp h1 hx l[i] (List.getElem_mem hi)
        rw [callsV_some (show callV rec v1 [Value.agg (l[i]).cells.toArray].toArray h1 = _ from g1)]
        rw [asB_bool]
        cases hpx : p l[i] with
        | true =>
          rw [ifB_true]
          refine ⟨.ret, _, _, rfl, .inr ⟨by simp, hx.trans g2, .inr ⟨rfl, i, rfl, ?_⟩⟩⟩
          rw [List.any_eq_true]
          exact ⟨_, List.getElem_mem hi, hpx⟩
        | false =>
          rw [ifB_false, asI_int, add64 (by omega) (by omega)]
          refine ⟨.normal, _, _, rfl, .inl ⟨rfl, d - 1, by omega, _, i + 1, rfl, by omega, hx.trans g2, fun y hy => ?_⟩⟩
          rw [List.take_add_one, List.mem_append] at hy
          rcases hy with hy | hy
          · exact hno y hy
          · simp [hi] at hy; rw [hy]; exact hpx
      · rename_i hlt
        refine ⟨.exit 0, _, _, rfl, .inr ⟨by simp, hx, .inl ⟨rfl, ?_⟩⟩⟩
        rw [List.any_eq_false]
        intro y hy
        rw [hno y (by rw [List.take_of_length_le (by omega)]; exact hy)]
        simp)
    l.length k (ws := [iv 0, iv 0]) (h := h) hk ⟨_, 0, rfl, by omega, .refl _, by simp⟩
  unfold f105
  rw [hs.len, List.length_map]
  rcases hq with ⟨rfl, ha⟩ | ⟨rfl, i, hi, ha⟩
  · refine ⟨-1, h', (lp_eq hl).trans ?_, hx, ?_⟩
    · rfl
    · rw [ha]; rfl
  · refine ⟨i, h', (lp_eq hl).trans ?_, hx, ?_⟩
    · rw [onE_ret, onR_ret, hi]
    · rw [ha]; exact le_t (by omega)

end Go.AM
