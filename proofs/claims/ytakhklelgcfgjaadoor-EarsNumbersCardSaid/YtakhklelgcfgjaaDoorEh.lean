/- A town without an edge: the program's, and the document's. -/
import Derived.Test.YtakhklelgcfgjaaDoorEf
namespace Go.AM
open Go.Proofs

variable {R : Type}

attribute [local simp] nx_eq nx_new nx_set blk_new blk_set asI_int asK_int asB_bool asP_ptr al_eq bx_eq len_slice onE_exit onE_ret onR_ret Value.cells d3 d22 d23 d32 d78 w3 cell_new cell_set rd_new rd_set off eq lt le ifB gv out ext20 ext21

/-- An empty literal that is appended to: no row is written. -/
theorem app_lit_wr {P : Program} {h : H} {e t t' : TypeId} {s b : Nat} {y : Value} {ys : List (List Value)} (ht : okApp P t e s = true) (ht' : okApp P t' e s = true) (hy : SlR h e s y ys) (hm : ys.length < 2 ^ 30) :
    AM.app P h t t' (.slice (some ⟨b, 0, none⟩) 0 0) y (fun _ g => some g.wr) = some h.wr := by
  obtain ⟨i, z, h1, h2, h3, h4, h5, h6, h7⟩ := okApp_spec ht
  obtain ⟨_, _, h1', _⟩ := okApp_spec ht'
  have hsrc := hy.srcAll h6
  have hlen := hy.lenOf
  have h30 : (2:Nat) ^ 30 < U := by decide
  have hc0 : capK 0 = 0 := rfl
  unfold AM.app append
  simp only [h1, h1', h2, h3, hlen, h4, hsrc, Option.bind_some, hc0]
  rw [if_pos ⟨h5, h6, h7⟩]
  by_cases h0 : ys.length = 0
  · rw [if_pos h0]; rfl
  · rw [if_neg h0, if_neg (by omega), if_pos (by omega), if_pos (by omega)]
    rfl

theorem cellsN_scal (g : List Nat) : (cellsN g).flatten.all scal = true := by
  rw [List.all_eq_true]
  intro x hx
  obtain ⟨y, hy, hxy⟩ := List.mem_flatten.1 hx
  obtain ⟨n, _, rfl⟩ := List.mem_map.1 hy
  simp at hxy
  subst hxy
  rfl

/-- A copy by a literal and an append: it owns its row. -/
theorem copy_ia {P : Program} {h : H} {t : TypeId} {y : Value} {g : List Nat} (ht : okApp P t 3 1 = true) (hb : ∀ h : H, buildSlice P t 0 [] h = some (.slice (some ⟨h.nx, 0, none⟩) 0 0, h.new (.row [] 3 true))) (hy : SlR h 3 1 y (cellsN g)) (hg : g ≠ []) (hm : g.length < 1000) :
    ∃ v' h' b, (∀ {T : Type} (K : Value → H → Option T), (bls P h t 0 [] fun v1 h1 => AM.app P h1 t t v1 y K) = K v' h') ∧ Ext h h' ∧ h.nx ≤ b ∧ IA h' b v' (g.map Int.ofNat) ∧ h'.wr = h.wr := by
  have x1 := Ext.new h (.row [] 3 true)
  have hlit : AqR h.nx (h.new (.row [] 3 true)) 3 1 (.slice (some ⟨h.nx, 0, none⟩) 0 0) [] := AqR.lit (l := []) (Nat.le_refl _) rfl (by simp) (by simp)
  obtain ⟨v', h', e, a, n, k, _⟩ := hlit.app ht ht (hy.ext x1) (cellsN_scal g) (by simp; omega) (by rw [nx_new]; omega)
  have hw := app_lit_wr (P := P) (b := h.nx) ht ht (hy.ext x1) (by simp; omega)
  rw [e] at hw
  rw [List.nil_append, ← cellsN_eq] at a
  obtain ⟨b, hb1, _, hia⟩ := a.ia (by simpa using hg)
  refine ⟨v', h', b, fun K => ?_, ⟨by rw [nx_new] at n; omega, fun q hq => ?_⟩, hb1, hia, by simpa [H.new] using hw⟩
  · rw [bls_some (hb h)]; exact e K
  · rw [k q (by rw [nx_new]; omega) (fun e => by cases e; omega)]
    exact x1.blk q hq

/-- A graph without an edge. -/
def delE (g : List Nat) (a b : Nat) : List Nat := (g.set a (without (nb g a) (2 ^ b))).set b (without (nb g b) (2 ^ a))

theorem delE_len (g : List Nat) (a b : Nat) : (delE g a b).length = g.length := by simp [delE]

theorem nb_set {g : List Nat} {a x i : Nat} (ha : a < g.length) : nb (g.set a x) i = if i = a then x else nb g i := by
  unfold nb
  rw [List.getD_eq_getElem?_getD, List.getD_eq_getElem?_getD, List.getElem?_set]
  by_cases h : a = i
  · subst h; simp [ha]
  · rw [if_neg h, if_neg (fun e => h e.symm)]

theorem adj_delE {g : List Nat} {a b u v : Nat} (ha : a < g.length) (hb : b < g.length) (hab : a ≠ b) : adj (delE g a b) u v = (adj g u v && !(decide (u = a ∧ v = b) || decide (u = b ∧ v = a))) := by
  unfold adj delE
  rw [nb_set (by simpa using hb), nb_set ha]
  by_cases h1 : u = b
  · subst h1
    rw [if_pos rfl, testBit_without, Nat.testBit_two_pow]
    have : ¬ u = a := fun e => hab e.symm
    simp [this, eq_comm]
  · rw [if_neg h1]
    by_cases h2 : u = a
    · subst h2
      rw [if_pos rfl, testBit_without, Nat.testBit_two_pow]
      simp [h1, eq_comm]
    · rw [if_neg h2]
      simp [h1, h2]

theorem GrB.delE {g : List Nat} (hg : GrB g) (a b : Nat) : GrB (delE g a b) := by
  refine ⟨by rw [delE_len]; exact hg.len, fun x hx => ?_⟩
  rw [delE_len]
  unfold AM.delE at hx
  rcases List.mem_or_eq_of_mem_set hx with h | rfl
  · rcases List.mem_or_eq_of_mem_set h with h | rfl
    · exact hg.lt x h
    · exact without_le _ _ (hg.nb_lt a)
  · exact without_le _ _ (hg.nb_lt b)

theorem del1_calc {g : List Nat} (hg : GrB g) {a b : Nat} (hb : b < g.length) : AM.andNot .i64 (nb g a : Int) (AM.shl .i64 1 (b : Int)) = ((without (nb g a) (2 ^ b) : Nat) : Int) := by
  have h1 := hg.nb_lt a
  have h2 := hg.pow
  have hlen := hg.len
  have hv' : 2 ^ b < 2 ^ 10 := Nat.pow_lt_pow_right (by omega) (by omega)
  rw [shl1_nat (by omega), andNot_nat (by omega) (by omega)]

end Go.AM
