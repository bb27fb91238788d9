/- CallsChecks, on the abstract machine. -/
import Derived.Test.YthmfjfblndophaaSpecH
namespace Go.AM
open Go.Proofs

variable {k : Nat} {rec : Rec}

theorem validP_sorted {n : Int} {l : List Cl} (h : validP n l = true) {i j : Nat} {c d : Cl} (hij : i < j) (hd : l[i]? = some d) (hc : l[j]? = some c) : d.t ≤ c.t ∧ clash c d = false := by
  rw [← valid_eq] at h
  simp only [validR, Bool.and_eq_true, List.all_eq_true, List.mem_range] at h
  have hj : j < l.length := (List.getElem?_eq_some_iff.1 hc).1
  have := h.2 j hj
  unfold rowR at this
  rw [hc] at this
  simp only [Bool.and_eq_true, Bool.not_eq_true', List.any_eq_false] at this
  obtain ⟨hi, e⟩ := List.getElem?_eq_some_iff.1 hd
  have hm : d ∈ l.take j := List.mem_take_iff_getElem.2 ⟨i, by omega, e⟩
  have h2 := this.2 d hm
  simp only [against, Bool.or_eq_true, not_or, decide_eq_true_eq, Int.not_lt, Bool.not_eq_true] at h2
  exact h2

theorem goP_len {n t : Int} {l : List Cl} (hv : validP n l = true) : ∀ (w : List Int) (p tm seen : Int) (m : Nat), m ≤ l.length → (∀ (j : Nat) (c : Cl), j < m → l[j]? = some c → c.t ≤ tm) → goP l t w p tm seen = true → m + w.length ≤ l.length := by
  intro w
  induction w with
  | nil => intro p tm seen m hm _ _; simpa using hm
  | cons i w ih =>
    intro p tm seen m hm hmt hg
    simp only [goP] at hg
    split at hg
    · cases hg
    split at hg
    · cases hg
    split at hg
    · cases hg
    split at hg
    · cases hg
    rename_i h1 h2 h3 c hc
    split at hg
    · cases hg
    split at hg
    · cases hg
    rename_i h4 h5
    split at hg
    · cases hg
    have hi : m ≤ i.toNat := by
      rcases Nat.lt_or_ge i.toNat m with h | h
      · have := hmt _ _ h hc; omega
      · exact h
    have := ih _ _ _ (i.toNat + 1) (by omega) (fun j d hj hd => by
      rcases Nat.lt_or_ge j i.toNat with h | h
      · exact (validP_sorted hv h hd hc).1
      · obtain rfl : j = i.toNat := by omega
        rw [hc] at hd; cases hd; exact Int.le_refl _) hg
    simp only [List.length_cons]
    omega

theorem goP_take {n t : Int} {l : List Cl} (hv : validP n l = true) (w : List Int) (p seen : Int) : goP l t (w.take 26) p 0 seen = goP l t w p 0 seen := by
  obtain ⟨_, _, h24, _⟩ := validP_ok hv
  by_cases hw : w.length ≤ 26
  · rw [List.take_of_length_le hw]
  · have key : ∀ w' : List Int, 26 ≤ w'.length → goP l t w' p 0 seen = false := by
      intro w' hw'
      cases hg : goP l t w' p 0 seen with
      | false => rfl
      | true =>
        have := goP_len hv w' p 0 seen 0 (Nat.zero_le _) (fun j c hj _ => by omega) hg
        omega
    rw [key _ (by rw [List.length_take]; omega), key _ (by omega)]

theorem validP_take {n : Int} {l : List Cl} : validP n (l.take 26) = validP n l := by
  by_cases hl : l.length ≤ 26
  · rw [List.take_of_length_le hl]
  · have h1 : validP n l = false := by simp [validP, show 24 < (l.length : Int) by omega]
    have h2 : validP n (l.take 26) = false := by
      simp [validP, List.length_take, show 24 < min 26 l.length by omega]
      intro _ _ h
      omega
    rw [h1, h2]

theorem pairP_take {n s t : Int} {l : List Cl} : pairP n (l.take 26) s t = pairP n l s t := by
  unfold pairP; rw [validP_take]

theorem eqvB (a b : Bool) : binOp Try.prog .eql 4 (.bool a) (.bool b) = some (.bool (a == b)) := by kernel_rfl

theorem f4_spec {n s t : Int} {sl v1 : Value} {l : List Cl} {way : List Int} {h : H} {m : Nat} (hs : SlR h 59 3 sl (l.map Cl.cells)) (hw : SlR h 3 1 v1 (way.map cellI)) (hk : way.length < m + 60) (hm : l.length < m + 60) :
    ∃ h', f4 (call Try.prog E0 (m + 80)) k (.agg #[iv n, sl]) s t v1 h = some (.bool true, h') := by
  unfold f4
  rw [bx_eq, nx_eq, show (Value.agg #[iv n, sl]).cells.toList = [iv n, sl] from rfl]
  have x1 : Ext h (h.new (.row [iv n, sl] 24 true)) := .new _ _
  have hb1 : (h.new (.row [iv n, sl] 24 true)).blk h.nx = some (.row [iv n, sl] 24 true) := blk_new_self _ _
  have hn1 : h.nx < (h.new (.row [iv n, sl] 24 true)).nx := Nat.lt_succ_self _
  generalize h.new (.row [iv n, sl] 24 true) = h1 at *
  obtain ⟨sl', h2, e2, y2, s2⟩ := f18_spec (rec := call Try.prog E0 (m + 79)) (k := m + 80) (n := n) (hs.ext x1) (by omega)
  rw [ldA24 hb1 rfl, calls_eq (c18 e2)]
  have x2 := x1.trans y2
  obtain ⟨v4, h3, e3, y3, s3⟩ := f28_spec (k := m + 80) (m := m + 78) (hw.ext x2)
  rw [calls_eq (c28 e3)]
  have x3 := x2.trans y3
  rw [← List.map_take] at s3
  obtain ⟨h4, e4, y4⟩ := f27_spec (k := m + 80) (m := m + 74) (n := n) (s := s) (t := t) (s2.ext y3) s3 (by rw [List.length_take]; omega) (by rw [List.length_take]; omega)
  rw [calls_eq (c27 e4), ext20, asB_bool, ext21, asI_int]
  have x4 := x3.trans y4
  have hb4 := (((y2.trans y3).trans y4).blk _ hn1).trans hb1
  have hn4 := Nat.lt_of_lt_of_le hn1 ((y2.trans y3).trans y4).nx
  obtain ⟨h5, e5, y5⟩ := f21_spec (k := m + 80) (m := m + 78) (n := n) (s := s) (t := t) (hs.ext x4) (by omega)
  rw [ldA24 hb4 rfl, calls_eq (c21 e5), asB_bool, ifB_not, pairP_take]
  have x5 := x4.trans y5
  have hb5 := (y5.blk _ hn4).trans hb4
  cases hp : pairP n l s t with
  | false =>
    simp only [Bool.false_and]
    rw [ifB_false, ifB_not, ifB_false]
    rw [show eq (if false = true then 0 else 2) 2 = true from rfl, ifB_true, calls_eq (awake_call (m + 20) h5), asB_bool]
    exact ⟨_, rfl⟩
  | true =>
    rw [ifB_true]
    obtain ⟨h6, e6, y6⟩ := f29_spec (rec := call Try.prog E0 (m + 79)) (k := m + 80) hp (hs.ext x5) (hw.ext x5) (by omega)
    rw [ldA24 hb5 rfl, calls_eq (c29 e6), asB_bool]
    have hv : validP n l = true := by
      simp only [pairP, Bool.and_eq_true] at hp
      exact hp.1.1.1
    have key : goP (l.take 26) t (way.take 26) s 0 (shl .i64 1 s) = goP l t way s 0 (shl .i64 1 s) := by
      obtain ⟨_, _, h24, _⟩ := validP_ok hv
      rw [List.take_of_length_le (show l.length ≤ 26 by omega), goP_take hv]
    rw [key]
    unfold eqv
    rw [eqvB]
    simp only [Bool.true_and, beq_self_eq_true, if_true]
    rw [ifB_true, show eq 0 0 = true from rfl, ifB_true, calls_eq (awake_call (m + 20) h6), asB_bool]
    exact ⟨_, rfl⟩

end Go.AM
