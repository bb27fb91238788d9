/- News. -/
import Derived.Test.YthmfjfblndophaaCd
namespace Go.AM
open Go.Proofs

variable {k : Nat} {R : Type}

attribute [local simp] nx_eq nx_new nx_set blk_new blk_set asI_int asK_int asB_bool asP_ptr al_eq bx_eq len_slice onE_exit onE_ret onR_ret Value.cells d3 d29 d31 d56 d24 d59 d22 w3 cell_new cell_set rd_new rd_set off eq lt le ifB gv out eqF1 eqF2 eqF3 eqF4 eqF5 eqF6 eqF7 eqF8
attribute [local simp] k73 k74 k72 k42

/-- The set of one person. -/
def bit (p : Nat) : Int := shl .i64 1 p

/-- What everybody has at first. -/
def ownP (n : Nat) : List Int := (List.range n).map bit

/-- A call is made. -/
def hearP (news : List Int) (c : Cl) : List Int :=
  let both := AM.or .i64 (news.getD c.a.toNat 0) (news.getD c.b.toNat 0)
  (news.set c.a.toNat both).set c.b.toNat both

/-- Does somebody hear something? -/
def freshP (news : List Int) (c : Cl) : Bool :=
  let both := AM.or .i64 (news.getD c.a.toNat 0) (news.getD c.b.toNat 0)
  !(news.getD c.a.toNat 0 == both) || !(news.getD c.b.toNat 0 == both)

theorem hearP_len (news : List Int) (c : Cl) : (hearP news c).length = news.length := by simp [hearP]

theorem s77 {n : Int} {sl : Value} {h : H} (hn : 0 ≤ n) (hm : n < 1000) : ∃ v h', rn 77 #[.agg #[iv n, sl]] h = some (v, h') ∧ Ext h h' ∧ AqR h.nx h' 3 1 v (cellsI (ownP n.toNat)) := by
  obtain ⟨m, rfl⟩ := Int.eq_ofNat_of_zero_le hn
  have x1 : Ext h (h.new (.row [iv m, sl] 31 true)) := .new _ _
  obtain ⟨ws', h', hl, hx, sv, hap, rfl⟩ := lp_for (F := f77_l1 rn (m + 1) m) (k := m + 1) (l := List.range m) (fun _ _ (_ : Unit) => ())
    (fun i _ ws g => Ext h g ∧ ∃ sv, AqR h.nx g 3 1 sv (cellsI (ownP i)) ∧ ws = [sv, iv i]) 0 (ws := [.slice none 0 0, iv 0]) (h := h.new (.row [iv m, sl] 31 true)) (s0 := ())
    ⟨x1, _, .nil, rfl⟩ (by simp)
    (by
      rintro _ ws g ⟨hx, sv, hap, rfl⟩
      simp [f77_l1])
    (by
      rintro i c _ ws g hc ⟨hx, sv, hap, rfl⟩
      have hi : i < m := by simpa using (List.getElem?_eq_some_iff.1 hc).1
      obtain ⟨v', h9, e9, a9, n9, k9, b9, hb9, hb9'⟩ := hap.push app25 app25 (bls25 (bit i)) rfl rfl (by simp [ownP]; omega) hx.nx
      refine ⟨[v', iv ((i : Int) + 1)], h9, ?_, ⟨by have := hx.nx; omega, fun b hb => ?_⟩, v', ?_, rfl⟩
      · simp only [f77_l1, gv, List.getD_cons_succ, List.getD_cons_zero]
        rw [asI_int, lt_t (by omega), ifB_true, asK_int, nn_ge (by omega)]
        simp only [bit] at e9
        rw [e9, asI_int, add64 (by omega) (by omega)]
        rfl
      · rw [k9 b (by have := hx.nx; omega) (fun e => by have := (hap.blkOf e).1; omega)]
        exact hx.blk b hb
      · rw [show cellsI (ownP (i + 1)) = cellsI (ownP i) ++ [[iv (bit i)]] by simp [ownP, List.range_succ]]
        exact a9)
  rw [List.length_range] at hl hap
  refine ⟨sv, h', x77 (k := m + 1) ?_ ?_, hx, ?_⟩
  · simp [f77, lp_eq hl]
  · obtain ⟨x, y, z, rfl⟩ := hap.isSl; rfl
  · simpa using hap

theorem s78 {h : H} {b : Nat} {v : Value} {news : List Int} {c : Cl} (hv : IA h b v news) (ha : 0 ≤ c.a ∧ c.a < news.length) (hb : 0 ≤ c.b ∧ c.b < news.length) :
    ∃ h', rn 78 #[v, c.val] h = some (.bool (freshP news c), h') ∧ h.nx ≤ h'.nx ∧ IA h' b v (hearP news c) ∧ ∀ i, i < h.nx → i ≠ b → h'.blk i = h.blk i := by
  have x1 := Ext.new h (.row c.cells 56 true)
  have hv1 := hv.ext x1
  have hbn := hv.lt
  have hA : news[c.a.toNat]? = some (news.getD c.a.toNat 0) := by simp [show c.a.toNat < news.length by omega]
  have hB : news[c.b.toNat]? = some (news.getD c.b.toNat 0) := by simp [show c.b.toNat < news.length by omega]
  generalize hAv : news.getD c.a.toNat 0 = A at *
  generalize hBv : news.getD c.b.toNat 0 = B at *
  have gA : ∀ (K : Value → Option (Value × H)), (six v c.a 1 fun b o => ((h.new (.row c.cells 56 true)).cell b o).bind K) = K (iv A) := fun K => hv1.get ha.1 hA K
  have gB : ∀ (K : Value → Option (Value × H)), (six v c.b 1 fun b o => ((h.new (.row c.cells 56 true)).cell b o).bind K) = K (iv B) := fun K => hv1.get hb.1 hB K
  have pA : ∀ (K : Nat → Nat → Option (Value × H)), six v c.a 1 K = K b c.a.toNat := fun K => hv1.put ha.1 (by omega) K
  have pB : ∀ (K : Nat → Nat → Option (Value × H)), six v c.b 1 K = K b c.b.toNat := fun K => hv1.put hb.1 (by omega) K
  have w1 := hv1.wrc (i := c.a.toNat) (by omega) (AM.or .i64 A B)
  have hv2 := hv1.set c.a.toNat (AM.or .i64 A B)
  have w2 := hv2.wrc (i := c.b.toNat) (by rw [List.length_set]; omega) (AM.or .i64 A B)
  have hv3 := hv2.set c.b.toNat (AM.or .i64 A B)
  have hck : fre h.nx (h.nx + 1) (0 + 1) 1 b c.a.toNat 1 = true := by
    simp only [fre, Bool.and_eq_true, decide_eq_true_eq]; omega
  have hcell : ∀ o, h.cell b o = (news.map iv)[o]? := fun o => cell_of hv.row
  have hF : f78 rn 0 v c.val h = some (.bool (freshP news c), (((h.new (.row c.cells 56 true)).set b (.row ((news.set c.a.toNat (AM.or .i64 A B)).map iv) 3 true)).set b (.row (((news.set c.a.toNat (AM.or .i64 A B)).set c.b.toNat (AM.or .i64 A B)).map iv) 3 true))) := by
    simp only [Cl.cells, List.map_set] at *
    simp [f78, pA, pB, hcell, hA, hB, w1, w2, hck, ck, freshP, hAv, hBv, Cl.cells, lt_ne hbn]
    generalize AM.or .i64 A B = C
    by_cases h1 : A = C <;> by_cases h2 : B = C <;> simp [h1, h2]
  have hn3 : h.nx ≤ (((h.new (.row c.cells 56 true)).set b (.row ((news.set c.a.toNat (AM.or .i64 A B)).map iv) 3 true)).set b (.row (((news.set c.a.toNat (AM.or .i64 A B)).set c.b.toNat (AM.or .i64 A B)).map iv) 3 true)).nx := Nat.le_succ _
  obtain ⟨q1, _, q2⟩ := trunc_blk (P := Try.prog) (v := .bool (freshP news c)) hn3
  refine ⟨_, t78 hF, q1, ?_, fun i hi hib => ?_⟩
  · have : hearP news c = (news.set c.a.toNat (AM.or .i64 A B)).set c.b.toNat (AM.or .i64 A B) := by unfold hearP; simp only [hAv, hBv]
    rw [this]
    exact ⟨hv3.val, Nat.lt_of_lt_of_le hbn q1, (q2 b hbn).trans hv3.row⟩
  · rw [q2 i hi, blk_set_ne _ _ _ hib, blk_set_ne _ _ _ hib, blk_new_ne _ _ (by omega)]

end Go.AM
