/- The machine: the queue, and what the machine is in the end. -/
import Derived.Test.YtnhmgokjijlhbaaRm
namespace Go.AM
open Go.Proofs Go.Lives

variable {R : Type}

attribute [local simp] nx_eq nx_new nx_set blk_new blk_set asI_int asK_int asB_bool asP_ptr al_eq bx_eq len_slice onE_exit onE_ret onR_ret Value.cells d3 d22 d31 d60 w60 w3 w22 cell_new cell_set rd_new rd_set off eq lt le ifB gv out eqF1 eqF2 eqF3 eqF4 eqF5 eqF6 eqF7 eqF8 ext20 ext21

/-- The states before the head of the queue are counted down. -/
theorem back_loop {h0 h16 g0 : H} {m D b1 b2 b3 lo : Nat} {v0 av v15 v16 v18 qv0 v31 : Value} {vs : List Value} {bef : Nat → List Nat} {opn0 life0 : Nat → Int} {q M : Nat} {R0 : List Nat} (hm : h0.nx = m)
    (a : MS h16 m D b1 b2 b3 lo v0 av v15 v16 v18 (fun b => blkOf qv0 = some b) vs g0 bef opn0 life0) (hQ0 : QqR lo g0 3 1 qv0 (cellsI (nI (q :: R0)))) (hq : q < D) (hv31 : vs[q]? = some v31)
    (hB : ∀ c ∈ bef q, c < D) (ho : ∀ c, c < D → 0 ≤ opn0 c ∧ opn0 c ≤ 5) (hl : ∀ c, c < D → -1 ≤ life0 c ∧ life0 c ≤ M) (hM : M < 2 ^ 20) (hBl : (bef q).length ≤ 100100) (hR0 : R0.length < 2 ^ 20) :
    ∃ g' qv', lpGo (f54_l6 rn 200010 h0 v16 v31 (bef q).length) 200010 [qv0, iv 0] g0 = some (.exit 10, [qv', iv (bef q).length], g') ∧
      MS h16 m D b1 b2 b3 lo v0 av v15 v16 v18 (fun b => blkOf qv' = some b) vs g' bef ((bef q).foldl (bstep q) (opn0, life0, q :: R0)).1 ((bef q).foldl (bstep q) (opn0, life0, q :: R0)).2.1 ∧
      QqR lo g' 3 1 qv' (cellsI (nI ((bef q).foldl (bstep q) (opn0, life0, q :: R0)).2.2)) := by
  obtain ⟨o1, o2, o3, o4⟩ := a.ord
  obtain ⟨ws', g', hlp, qv', hMS, hQ, rfl, _⟩ := lp_for (σ := (Nat → Int) × (Nat → Int) × List Nat) (F := f54_l6 rn 200010 h0 v16 v31 (bef q).length) (k := 200010) (l := bef q) (fun _ c s => bstep q s c)
    (fun j s ws g => ∃ qv, MS h16 m D b1 b2 b3 lo v0 av v15 v16 v18 (fun b => blkOf qv = some b) vs g bef s.1 s.2.1 ∧ QqR lo g 3 1 qv (cellsI (nI s.2.2)) ∧ ws = [qv, iv j] ∧
      (∀ c, c < D → -(j : Int) ≤ s.1 c ∧ s.1 c ≤ 5) ∧ (∀ c, c < D → -1 ≤ s.2.1 c ∧ s.2.1 c ≤ M + j) ∧ ∃ T, s.2.2 = q :: T ∧ T.length ≤ R0.length + j) 10 (ws := [qv0, iv 0]) (h := g0) (s0 := (opn0, life0, q :: R0))
    ⟨qv0, a, hQ0, rfl, fun c hc => by have := ho c hc; simp only; omega, fun c hc => by have := hl c hc; simp only; omega, R0, rfl, by omega⟩ (by omega)
    (by
      rintro s ws g ⟨qv, _, _, rfl, _⟩
      simp [f54_l6])
    (by
      rintro j c ⟨opn, life, Q⟩ ws g hx ⟨qv, hMS, hQ, rfl, hop, hlf, T, hT, hTl⟩
      simp only at hMS hQ hop hlf hT
      subst hT
      have hj := (List.getElem?_eq_some_iff.1 hx).1
      have hc := hB c (List.mem_of_getElem? hx)
      have hadd : add .i64 (j : Int) 1 = (j : Int) + 1 := add64 (by omega) (by omega)
      have haq := hMS.bf.el q v31 _ hv31 (mapr_get _ hq)
      have e1 : ∀ (K : Value → Option (Ex × List Value × H)), (six v31 (j : Int) 1 fun b o => (g.cell b o).bind K) = K (iv (c : Int)) := fun K => haq.slR.c0 (by omega) (x := [iv (c : Int)]) (by simp [hx]) rfl K
      have e2 := fun (K : Value → Option (Ex × List Value × H)) => hMS.opGet hc K
      have hoc := hop c hc
      have hsub : sub .i64 (opn c) 1 = opn c - 1 := sub64 (by omega) (by omega)
      have e3 := fun (K : H → Option (Ex × List Value × H)) => hMS.opPut hc (opn c - 1) K
      have hM1 := hMS.setOp c (opn c - 1)
      have hQ1 : QqR lo (g.set b2 (.row ((((List.range D).map opn).set c (opn c - 1)).map iv) 3 true)) 3 1 qv (cellsI (nI (q :: T))) := hQ.keep (Nat.le_refl _) fun b hb => blk_set_ne _ _ _ (by have := (hQ.blkOf hb).1; omega)
      generalize g.set b2 (.row ((((List.range D).map opn).set c (opn c - 1)).map iv) 3 true) = g1 at *
      have e4 := fun (K : Value → Option (Ex × List Value × H)) => hM1.opGet hc K
      have hu : upd opn c (opn c - 1) c = opn c - 1 := by simp [upd]
      rw [hu] at e4
      have bnd : ∀ c', c' < D → -((j + 1 : Nat) : Int) ≤ upd opn c (opn c - 1) c' ∧ upd opn c (opn c - 1) c' ≤ 5 := fun c' hc' => by
        have := hop c' hc'
        simp only [upd]
        split <;> omega
      by_cases hz : opn c - 1 = 0
      · have e5 : ∀ (K : Value → Option (Ex × List Value × H)), (g1.cell m 2).bind K = K v18 := fun K => by rw [cell_of hM1.mb]; rfl
        have e6 : ∀ (K : Value → Option (Ex × List Value × H)), (six qv 0 1 fun b o => (g1.cell b o).bind K) = K (iv (q : Int)) := fun K => hQ1.slR.c0 (by omega) (x := [iv (q : Int)]) (by simp) rfl K
        have e7 := fun (K : Value → Option (Ex × List Value × H)) => hM1.lfGet hq K
        have hlq := hlf q hq
        have hadd2 : add .i64 (life q) 1 = life q + 1 := add64 (by omega) (by omega)
        have e8 := fun (K : H → Option (Ex × List Value × H)) => hM1.lfPut hc (life q + 1) K
        have hM2 := hM1.setLf c (life q + 1)
        have hQ2 : QqR lo (g1.set b3 (.row ((((List.range D).map life).set c (life q + 1)).map iv) 3 true)) 3 1 qv (cellsI (nI (q :: T))) := hQ1.keep (Nat.le_refl _) fun b hb => blk_set_ne _ _ _ (by have := (hQ1.blkOf hb).1; omega)
        generalize g1.set b3 (.row ((((List.range D).map life).set c (life q + 1)).map iv) 3 true) = g2 at *
        obtain ⟨qv', g3, e9, a9, n9, k9, b9, hb9, hb9'⟩ := hQ2.push app22 app22 (bls22 (c : Int)) rfl rfl (by simp only [List.length_map, List.length_cons]; omega) hM2.nx
        have hM3 := hM2.keep (bad' := fun b => blkOf qv' = some b) n9 (fun b h1 h2 => k9 b h1 (fun e => h2 ⟨(hQ2.blkOf e).1, e⟩)) (fun q h1 h2 h3 => by rw [hb9] at h3; cases h3; omega)
        have hbs : bstep q (opn, life, q :: T) c = (upd opn c (opn c - 1), upd life c (life q + 1), q :: T ++ [c]) := by simp [bstep, hz]
        refine ⟨[qv', iv ((j : Int) + 1)], g3, ?_, qv', by rw [hbs]; exact hM3, ?_, rfl, by rw [hbs]; exact bnd, fun c' hc' => ?_, T ++ [c], by rw [hbs]; rfl, by simp; omega⟩
        · have ee : ∀ (K : Value → H → Option (Ex × List Value × H)), (bls Try.prog g2 22 1 [(0, iv (c : Int))] fun y h2 => app Try.prog h2 22 22 qv y K) = K qv' g3 := fun K => e9 K
          simp only [hz] at hsub e3 e4
          simp [f54_l6, hj, e1, e2, hsub, e3, e4, hm, e5, e6, e7, hadd2, e8, ee, hadd]
        · rw [hbs]
          have : cellsI (nI (q :: T ++ [c])) = cellsI (nI (q :: T)) ++ [[iv (c : Int)]] := by simp
          rw [this]
          exact a9
        · rw [hbs]
          have := hlf c' hc'
          simp only [upd]
          split <;> omega
      · have hbs : bstep q (opn, life, q :: T) c = (upd opn c (opn c - 1), life, q :: T) := by simp [bstep, hz]
        refine ⟨[qv, iv ((j : Int) + 1)], g1, ?_, qv, by rw [hbs]; exact hM1, by rw [hbs]; exact hQ1, rfl, by rw [hbs]; exact bnd, fun c' hc' => ?_, T, by rw [hbs], by omega⟩
        · simp [f54_l6, hj, e1, e2, hsub, e3, e4, hz, hadd]
        · rw [hbs]
          have := hlf c' hc'
          simp only
          omega)
  have hf : foldI (fun (_ : Nat) c s => bstep q s c) (bef q) 0 (opn0, life0, q :: R0) = (bef q).foldl (bstep q) (opn0, life0, q :: R0) := foldI_l _ _ _ _
  rw [hf] at hMS hQ
  exact ⟨g', qv', hlp, hMS, hQ⟩

theorem life_len {D : Nat} {tos : Nat → List Nat} {P Q : List Nat} {opn life : Nat → Int} (hI : QI D tos P Q opn life) : ∀ c, c < D → -1 ≤ life c ∧ life c ≤ P.length := by
  have key : ∀ (n : Nat) (c : Nat), c < D → c ∈ P ++ Q → life c = n → ∃ L : List Nat, L.length = n ∧ L.Nodup ∧ ∀ x ∈ L, x ∈ P ∧ life x < n := by
    intro n
    induction n with
    | zero => intro c _ _ _; exact ⟨[], rfl, by simp, by simp⟩
    | succ n ih =>
      intro c hc hm hl
      obtain ⟨h1, h2, h3⟩ := hI.ins c hc hm
      obtain ⟨t, ht, h4⟩ := h3.resolve_left (by omega)
      obtain ⟨h5, h6⟩ := h2 t ht
      obtain ⟨L, l1, l2, l3⟩ := ih t (hI.lt t (by simp [h5])) (by simp [h5]) (by omega)
      refine ⟨t :: L, by simp [l1], List.nodup_cons.2 ⟨fun hm => by have := (l3 t hm).2; omega, l2⟩, fun x hx => ?_⟩
      rcases List.mem_cons.1 hx with rfl | hx
      · exact ⟨h5, by omega⟩
      · have := l3 x hx
        exact ⟨this.1, by omega⟩
  intro c hc
  by_cases hm : c ∈ P ++ Q
  · have h0 := (hI.ins c hc hm).1
    obtain ⟨n, hn⟩ := Int.eq_ofNat_of_zero_le h0
    obtain ⟨L, l1, l2, l3⟩ := key n c hc hm hn
    have := l2.length_le_of_subset (l₂ := P) fun x hx => (l3 x hx).1
    omega
  · rw [hI.out c hc hm]; omega

theorem queue_len {D : Nat} {tos : Nat → List Nat} {P Q : List Nat} {opn life : Nat → Int} (hI : QI D tos P Q opn life) : P.length + Q.length ≤ D := by
  have := hI.nodup.length_le_of_subset (l₂ := List.range D) fun x hx => List.mem_range.2 (hI.lt x hx)
  simpa using this

/-- The queue finds the lives. -/
theorem queue_loop {h0 h16 g0 : H} {m D b1 b2 b3 lo : Nat} {v0 av v15 v16 v18 qv0 : Value} {vs : List Value} {bef : Nat → List Nat} {opn0 life0 : Nat → Int} {R0 : List Nat} {tos : Nat → List Nat} (hm : h0.nx = m)
    (a : MS h16 m D b1 b2 b3 lo v0 av v15 v16 v18 (fun b => blkOf qv0 = some b) vs g0 bef opn0 life0) (hQ0 : QqR lo g0 3 1 qv0 (cellsI (nI R0))) (hI0 : QI D tos [] R0 opn0 life0) (hD : D < 20009)
    (htl : ∀ c, c < D → (tos c).length ≤ 5) (htD : ∀ c, c < D → ∀ t ∈ tos c, t < D) (hB : ∀ q, q < D → ∀ c ∈ bef q, c < D) (hBc : ∀ q, q < D → ∀ c, c < D → (bef q).count c = (tos c).count q) (hBl : ∀ q, (bef q).length ≤ 100100) :
    ∃ g' ws' opn life qv, lpGo (f54_l5 rn 200010 h0 v15 v16) 200010 [qv0] g0 = some (.exit 8, ws', g') ∧ MS h16 m D b1 b2 b3 lo v0 av v15 v16 v18 (fun b => blkOf qv = some b) vs g' bef opn life ∧ IsLife D tos life := by
  obtain ⟨e, ws', g', hlp, rfl, opn, life, qv, hMS, hL⟩ := lpGo_inv (F := f54_l5 rn 200010 h0 v15 v16)
    (fun d ws g => ∃ P Q opn life qv, QI D tos P Q opn life ∧ MS h16 m D b1 b2 b3 lo v0 av v15 v16 v18 (fun b => blkOf qv = some b) vs g bef opn life ∧ QqR lo g 3 1 qv (cellsI (nI Q)) ∧ ws = [qv] ∧ d = D - P.length)
    (fun e ws g => e = .exit 8 ∧ ∃ opn life qv, MS h16 m D b1 b2 b3 lo v0 av v15 v16 v18 (fun b => blkOf qv = some b) vs g bef opn life ∧ IsLife D tos life)
    (by
      rintro d ws g ⟨P, Q, opn, life, qv, hI, hMS, hQ, rfl, rfl⟩
      have hlen : ∀ (K : Int → Option (Ex × List Value × H)), len qv K = K (Q.length : Int) := fun K => by rw [hQ.slR.len]; simp
      cases Q with
      | nil =>
        refine ⟨.exit 8, [qv], g, by simp [f54_l5, hlen], .inr ⟨by simp, rfl, opn, life, qv, hMS, hI.done htD⟩⟩
      | cons q Q =>
        have hq : q < D := hI.lt q (by simp)
        have hpq := queue_len hI
        rw [List.length_cons] at hpq
        have hll := life_len hI
        have e1 : ∀ (K : Value → Option (Ex × List Value × H)), (six qv 0 1 fun b o => (g.cell b o).bind K) = K (iv (q : Int)) := fun K => hQ.slR.c0 (by omega) (x := [iv (q : Int)]) (by simp) rfl K
        obtain ⟨w, hw, haq, e2⟩ := hMS.befGet hq
        have e3 : ∀ (K : Int → Option (Ex × List Value × H)), len w K = K ((bef q).length : Int) := fun K => by rw [haq.slR.len]; simp
        obtain ⟨g1, qv1, e4, hM1, hQ1⟩ := back_loop hm hMS hQ hq hw (hB q hq) (fun c hc => by
          rw [hI.cnt c hc]
          have h1 : left tos P c ≤ (tos c).length := List.countP_le_length
          have := htl c hc
          omega) hll (by omega) (hBl q) (by omega)
        obtain ⟨N, opn1, life1, hfold, hI1⟩ := hI.step (hB q hq) (hBc q hq)
        rw [hfold] at hM1 hQ1
        obtain ⟨qv2, e5, hQ2, hb2⟩ := QqR.tail (P := Try.prog) (t := 22) (l := cellsI (nI (Q ++ N))) (x := [iv (q : Int)]) (by simpa using hQ1) under22 sz3
        have e5' : ∀ (K : Value → Option (Ex × List Value × H)), sli Try.prog g1 22 qv1 (some (iv 1)) none none K = K qv2 := fun K => e5 K
        refine ⟨.normal, [qv2], g1, ?_, .inl ⟨rfl, D - (P ++ [q]).length, by simp; omega, P ++ [q], Q ++ N, opn1, life1, qv2, hI1, ?_, hQ2, rfl, rfl⟩⟩
        · simp [f54_l5, hlen, e1, e2, e3, lp_eq e4, e5']
        · rw [hb2]
          exact hM1)
    D 200010 (by omega) ⟨[], R0, opn0, life0, qv0, hI0, a, hQ0, rfl, by simp⟩
  exact ⟨g', ws', opn, life, qv, hlp, hMS, hL⟩

end Go.AM
