/- The state that comes behind a task: the program's and the reference's. -/
import Derived.Test.YtnhmgokjijlhbaaRe
namespace Go.AM
open Go.Proofs

variable {k : Nat} {R : Type}

attribute [local simp] nx_eq nx_new nx_set blk_new blk_set asI_int asK_int asB_bool asP_ptr al_eq bx_eq len_slice onE_exit onE_ret onR_ret Value.cells d3 d22 d31 w3 cell_new cell_set rd_new rd_set off eq lt le ifB gv out eqF1 eqF2 eqF3 eqF4 eqF5 eqF6 eqF7 eqF8 ext20 ext21

/-- The numbers that come. -/
def valN (task : Int) (i : Nat) (p : Int × Int) : Int := if (i : Int) = task then p.1 else p.2 - 1
def valsN (task : Int) : Nat → List (Int × Int) → List Int
  | _, [] => []
  | i, p :: ps => valN task i p :: valsN task (i + 1) ps

/-- The state that comes, if it does not fail. -/
def nextP (l s : List Int) (task : Int) : Option (List Int) := if 0 ∈ valsN task 0 (l.zip s) then none else some (valsN task 0 (l.zip s))

def nextG (task : Int) (i : Nat) (p : Int × Int) (A : List Int) : List Int ⊕ Nat := if valN task i p = 0 then .inr i else .inl (A.set i (valN task i p))

theorem next_it (task : Int) : ∀ (ps : List (Int × Int)) (i : Nat) (pre suf : List Int), pre.length = i → suf.length = ps.length →
    (match itL (nextG task) ps i (pre ++ suf) with
      | .inl A => 0 ∉ valsN task i ps ∧ A = pre ++ valsN task i ps
      | .inr _ => 0 ∈ valsN task i ps) := by
  intro ps
  induction ps with
  | nil =>
    intro i pre suf _ h2
    rw [List.eq_nil_of_length_eq_zero h2]
    simp [itL, valsN]
  | cons p ps ih =>
    intro i pre suf h1 h2
    obtain ⟨a, suf', rfl⟩ : ∃ a suf', suf = a :: suf' := by
      cases suf with
      | nil => simp at h2
      | cons a s => exact ⟨a, s, rfl⟩
    simp only [itL, nextG, valsN]
    by_cases h0 : valN task i p = 0
    · rw [if_pos h0]
      simp [h0]
    · rw [if_neg h0]
      simp only
      have e : (pre ++ a :: suf').set i (valN task i p) = (pre ++ [valN task i p]) ++ suf' := by
        rw [List.set_append_right _ _ (by omega), h1, Nat.sub_self]
        simp
      rw [e]
      have := ih (i + 1) (pre ++ [valN task i p]) suf' (by simp [h1]) (by simpa using h2)
      change (match itL (nextG task) ps (i + 1) (pre ++ [valN task i p] ++ suf') with
        | .inl A => 0 ∉ valN task i p :: valsN task (i + 1) ps ∧ A = pre ++ valN task i p :: valsN task (i + 1) ps
        | .inr _ => 0 ∈ valN task i p :: valsN task (i + 1) ps)
      split <;> rename_i r hr <;> rw [hr] at this
      · obtain ⟨q1, q2⟩ := this
        refine ⟨?_, by rw [q2]; simp⟩
        simp only [List.mem_cons, not_or]
        exact ⟨fun e => h0 e.symm, q1⟩
      · exact List.mem_cons_of_mem _ this

theorem nextG_len {task : Int} {i : Nat} {p : Int × Int} {A B : List Int} (h : nextG task i p A = .inl B) : B.length = A.length := by
  unfold nextG at h
  split at h
  · cases h
  · cases h; simp

/-- What is said of an answer. -/
def NextR (o : Option (List Int)) (v : Value) (q : Bool) (h : H) : Prop :=
  match o with
  | none => v = .slice none 0 0 ∧ q = false
  | some s => SlR h 3 1 v (cellsI s) ∧ q = true ∧ ∃ b, IA h b v s

theorem zero3 : zero? Try.prog 3 = some (iv 0) := by kernel_rfl

theorem s67 {v0 v1 : Value} {l s : List Int} {task : Int} {h : H} (hl : SlR h 3 1 v0 (cellsI l)) (hs : SlR h 3 1 v1 (cellsI s)) (ht : TaskI l) (hst : stOk l s = true) :
    ∃ v q h', rn 67 #[v0, v1, iv task] h = some (.tuple #[v, .bool q], h') ∧ Ext h h' ∧ NextR (nextP l s task) v q h' := by
  obtain ⟨hlen, hp⟩ := stOk_iff.1 hst
  have h5 := ht.len.2
  have hz : (l.zip s).length = l.length := by rw [List.length_zip]; omega
  have hn0 : ∀ {T : Type} (K : Int → Option T), len v0 K = K (l.length : Int) := fun K => by rw [hl.len, List.length_map]
  have hn1 : ∀ {T : Type} (K : Int → Option T), len v1 K = K (l.length : Int) := fun K => by rw [hs.len, List.length_map, hlen]
  have hmk : ∀ (K : Value → H → Option (Value × H)), mks Try.prog h 22 (l.length : Int) (l.length : Int) K = K (.slice (some ⟨h.nx, 0, none⟩) l.length l.length) (h.new (.row ((List.replicate l.length 0).map iv) 3 true)) := fun K => mks_ints app22 zero3 (by omega) K
  have x1 : Ext h (h.new (.row ((List.replicate l.length 0).map iv) 3 true)) := .new _ _
  have ia1 : IA (h.new (.row ((List.replicate l.length 0).map iv) 3 true)) h.nx (.slice (some ⟨h.nx, 0, none⟩) l.length l.length) (List.replicate l.length 0) := ia_new (by omega) (by simp)
  generalize Value.slice (some ⟨h.nx, 0, none⟩) l.length l.length = v2 at *
  generalize h.new (.row ((List.replicate l.length 0).map iv) 3 true) = h1 at *
  obtain ⟨e, ws', h', hlp, hm⟩ := lp_rel (F := f67_l1 rn (l.length + 1) v0 v1 task v2 l.length) (k := l.length + 1) (l := l.zip s) (nextG task)
    (fun i A ws g => Ext h g ∧ IA g h.nx v2 A ∧ A.length = l.length ∧ ws = [.slice none 0 0, .bool false, iv i]) (fun i e ws g => e = .ret ∧ ws = [.slice none 0 0, .bool false, iv i] ∧ Ext h g) 0 (ws := [.slice none 0 0, .bool false, iv 0]) (h := h1) (s0 := List.replicate l.length 0)
    ⟨x1, ia1, by simp, rfl⟩ (by omega)
    (by
      rintro A ws g ⟨_, _, _, rfl⟩
      simp [f67_l1, hz])
    (by
      rintro i ⟨x, y⟩ A ws g hx ⟨xg, ia, hA, rfl⟩
      have hi := (List.getElem?_eq_some_iff.1 hx).1
      obtain ⟨g1, g2⟩ := zip_get hx
      have hpy := hp _ (List.mem_of_getElem? hx)
      have hxx := ht.rng x (List.mem_of_getElem? g1)
      simp only at g1 g2 hpy
      have hadd : add .i64 (i : Int) 1 = (i : Int) + 1 := add64 (by omega) (by omega)
      have hsub : sub .i64 y 1 = y - 1 := sub64 (by omega) (by omega)
      have e2 : ∀ (K : Value → Option (Ex × List Value × H)), (six v1 (i : Int) 1 fun b o => (g.cell b o).bind K) = K (iv y) := fun K => (hs.ext xg).c0 (by omega) (x := [iv y]) (by simp [g2]) rfl K
      have p2 : ∀ (K : H → Option (Ex × List Value × H)), (six v2 (i : Int) 1 fun b o => (wrc 1 g b o (.int .i64 (y - 1))).bind K) = K (g.set h.nx (.row ((A.set i (y - 1)).map iv) 3 true)) := fun K => by rw [ia.put (by omega) (by omega), ia.wrc (i := ((i : Int)).toNat) (by omega)]; rfl
      have ia3 := ia.set i (y - 1)
      have x3 : Ext h (g.set h.nx (.row ((A.set i (y - 1)).map iv) 3 true)) := xg.set (Nat.le_refl _) _
      generalize g.set h.nx (.row ((A.set i (y - 1)).map iv) 3 true) = h3 at *
      have e0 : ∀ (K : Value → Option (Ex × List Value × H)), (six v0 (i : Int) 1 fun b o => (h3.cell b o).bind K) = K (iv x) := fun K => (hl.ext x3).c0 (by omega) (x := [iv x]) (by simp [g1]) rfl K
      have r3 : ∀ (K : Value → Option (Ex × List Value × H)), (six v2 (i : Int) 1 fun b o => (h3.cell b o).bind K) = K (iv (y - 1)) := fun K => ia3.get (i := (i : Int)) (by omega) (by rw [Int.toNat_natCast, List.getElem?_set_self (by omega)]) K
      have p3 : ∀ (K : H → Option (Ex × List Value × H)), (six v2 (i : Int) 1 fun b o => (wrc 1 h3 b o (.int .i64 x)).bind K) = K (h3.set h.nx (.row (((A.set i (y - 1)).set i x).map iv) 3 true)) := fun K => by rw [ia3.put (by omega) (by simp; omega), ia3.wrc (i := ((i : Int)).toNat) (by simp; omega)]; rfl
      have ia4 := ia3.set i x
      have x4 : Ext h (h3.set h.nx (.row (((A.set i (y - 1)).set i x).map iv) 3 true)) := x3.set (Nat.le_refl _) _
      rw [List.set_set] at ia4 x4
      simp only [List.set_set] at p3
      generalize h3.set h.nx (.row ((A.set i x).map iv) 3 true) = h4 at *
      have r4 : ∀ (K : Value → Option (Ex × List Value × H)), (six v2 (i : Int) 1 fun b o => (h4.cell b o).bind K) = K (iv x) := fun K => ia4.get (i := (i : Int)) (by omega) (by rw [Int.toNat_natCast, List.getElem?_set_self (by omega)]) K
      unfold nextG valN
      by_cases ht0 : (i : Int) = task
      · rw [if_pos ht0, if_neg (by simp only; omega)]
        refine ⟨.normal, [.slice none 0 0, .bool false, iv ((i : Int) + 1)], h4, ?_, rfl, x4, ia4, by simp [hA], rfl⟩
        subst ht0
        simp [f67_l1, show i < l.length by omega, e2, hsub, p2, e0, p3, r4, hadd, show ¬ x = 0 by omega]
      · rw [if_neg ht0]
        by_cases hy : y = 1
        · rw [if_pos (by simp only; omega)]
          refine ⟨.ret, [.slice none 0 0, .bool false, iv (i : Int)], h3, ?_, by simp, rfl, rfl, x3⟩
          have hy' : y - 1 = 0 := by omega
          rw [hy'] at hsub
          simp only [hy'] at p2 r3
          simp [f67_l1, show i < l.length by omega, e2, hsub, p2, r3, ht0]
        · rw [if_neg (by simp only; omega)]
          refine ⟨.normal, [.slice none 0 0, .bool false, iv ((i : Int) + 1)], h3, ?_, rfl, x3, ia3, by simp [hA], rfl⟩
          simp [f67_l1, show i < l.length by omega, e2, hsub, p2, r3, ht0, hadd, show ¬ y - 1 = 0 by omega])
  have hit := next_it task (l.zip s) 0 [] (List.replicate l.length 0) rfl (by simp [hz])
  rw [List.nil_append] at hit
  have hv2 : v2 = v2 := rfl
  split at hm <;> rename_i r hr <;> rw [hr] at hit
  · obtain ⟨rfl, xg, ia, _, rfl⟩ := hm
    obtain ⟨q1, q2⟩ := hit
    rw [List.nil_append] at q2
    subst q2
    refine ⟨v2, true, h', x67 (k := l.length + 1) ?_ ia.slR.notR2, xg, ?_⟩
    · simp [f67, hn0, hn1, hmk, lp_eq hlp]
    · unfold nextP
      rw [if_neg q1]
      exact ⟨ia.slR, rfl, _, ia⟩
  · obtain ⟨_, rfl, rfl, xg⟩ := hm
    refine ⟨.slice none 0 0, false, h', x67 (k := l.length + 1) ?_ rfl, xg, ?_⟩
    · simp [f67, hn0, hn1, hmk, lp_eq hlp]
    · unfold nextP
      rw [if_pos hit]
      exact ⟨rfl, rfl⟩

theorem flat1' (l : List Int) : (cellsI l).flatten = l.map iv := by
  induction l with
  | nil => rfl
  | cons x l ih =>
    show ([iv x] :: cellsI l).flatten = _
    rw [List.flatten_cons, ih]
    rfl

/-- The reference's. -/
theorem s64F {v0 v1 : Value} {l s : List Int} {task : Int} {h : H} (hl : SlR h 3 1 v0 (cellsI l)) (hs : SlR h 3 1 v1 (cellsI s)) (ht : TaskI l) (hst : stOk l s = true) :
    ∃ v q h', rn 64 #[v0, v1, iv task] h = some (.tuple #[v, .bool q], h') ∧ Ext h h' ∧ NextR (nextP l s task) v q h' ∧ ∀ b, blkOf v = some b → h.nx ≤ b := by
  obtain ⟨hlen, hp⟩ := stOk_iff.1 hst
  have h5 := ht.len.2
  have hz : (l.zip s).length = l.length := by rw [List.length_zip]; omega
  have hsne : s ≠ [] := by intro e; rw [e] at hlen; have := ht.len.1; simp at hlen; omega
  have x1 := Ext.new h (.row [] 3 true)
  have a1 : AqR h.nx (h.new (.row [] 3 true)) 3 1 (.slice (some ⟨h.nx, 0, none⟩) 0 0) [] := AqR.lit (l := []) (Nat.le_refl _) rfl (by simp) (by simp)
  obtain ⟨v2, h2, e, a, n, f, b'⟩ := a1.app app22 app22 (hs.ext x1) (by rw [List.all_eq_true]; intro x hx; rw [flat1'] at hx; obtain ⟨z, _, rfl⟩ := List.mem_map.1 hx; rfl) (by simp; omega) (Nat.le_succ _)
  rw [List.nil_append] at a
  obtain ⟨b, q1, q2, ia1⟩ := a.ia hsne
  have x2 : Ext h h2 := ⟨Nat.le_trans x1.nx n, fun i hi => by rw [f i (by rw [nx_new]; omega) (by intro e; cases e; omega)]; exact x1.blk i hi⟩
  have hn2 : ∀ {T : Type} (K : Int → Option T), len v2 K = K (l.length : Int) := fun K => by rw [ia1.len, hlen]
  have hbl : ∀ (K : Value → H → Option (Value × H)), bls Try.prog h 22 0 [] K = K (.slice (some ⟨h.nx, 0, none⟩) 0 0) (h.new (.row [] 3 true)) := fun K => bls_some (bls22e h)
  have hap : ∀ (K : Value → H → Option (Value × H)), app Try.prog (h.new (.row [] 3 true)) 22 22 (.slice (some ⟨h.nx, 0, none⟩) 0 0) v1 K = K v2 h2 := fun K => e K
  obtain ⟨e, ws', h', hlp, hm⟩ := lp_rel (F := f64_l1 rn (l.length + 1) v0 task v2 l.length) (k := l.length + 1) (l := l.zip s) (nextG task)
    (fun i A ws g => Ext h g ∧ IA g b v2 A ∧ A.length = l.length ∧ (∀ j, i ≤ j → A[j]? = s[j]?) ∧ ws = [.slice none 0 0, .bool false, iv i]) (fun i e ws g => e = .ret ∧ ws = [.slice none 0 0, .bool false, iv i] ∧ Ext h g) 0 (ws := [.slice none 0 0, .bool false, iv 0]) (h := h2) (s0 := s)
    ⟨x2, ia1, hlen, fun _ _ => rfl, rfl⟩ (by omega)
    (by
      rintro A ws g ⟨_, _, _, _, rfl⟩
      simp [f64_l1, hz])
    (by
      rintro i ⟨x, y⟩ A ws g hx ⟨xg, ia, hA, hAs, rfl⟩
      have hi := (List.getElem?_eq_some_iff.1 hx).1
      obtain ⟨g1, g2⟩ := zip_get hx
      have hpy := hp _ (List.mem_of_getElem? hx)
      have hxx := ht.rng x (List.mem_of_getElem? g1)
      simp only at g1 g2 hpy
      have hadd : add .i64 (i : Int) 1 = (i : Int) + 1 := add64 (by omega) (by omega)
      have hsub : sub .i64 y 1 = y - 1 := sub64 (by omega) (by omega)
      have hbh : h.nx ≤ b := q1
      have keep : ∀ v j, i + 1 ≤ j → (A.set i v)[j]? = s[j]? := fun v j hj => by rw [List.getElem?_set_ne (by omega)]; exact hAs j (by omega)
      have e2 : ∀ (K : Value → Option (Ex × List Value × H)), (six v2 (i : Int) 1 fun b o => (g.cell b o).bind K) = K (iv y) := fun K => ia.get (i := (i : Int)) (by omega) (by rw [Int.toNat_natCast, hAs i (Nat.le_refl _)]; exact g2) K
      have p2 : ∀ (K : H → Option (Ex × List Value × H)), (six v2 (i : Int) 1 fun b o => (wrc 1 g b o (.int .i64 (y - 1))).bind K) = K (g.set b (.row ((A.set i (y - 1)).map iv) 3 true)) := fun K => by rw [ia.put (by omega) (by omega), ia.wrc (i := ((i : Int)).toNat) (by omega)]; rfl
      have ia3 := ia.set i (y - 1)
      have x3 : Ext h (g.set b (.row ((A.set i (y - 1)).map iv) 3 true)) := xg.set hbh _
      generalize g.set b (.row ((A.set i (y - 1)).map iv) 3 true) = h3 at *
      have e0 : ∀ (K : Value → Option (Ex × List Value × H)), (six v0 (i : Int) 1 fun b o => (h3.cell b o).bind K) = K (iv x) := fun K => (hl.ext x3).c0 (by omega) (x := [iv x]) (by simp [g1]) rfl K
      have r3 : ∀ (K : Value → Option (Ex × List Value × H)), (six v2 (i : Int) 1 fun b o => (h3.cell b o).bind K) = K (iv (y - 1)) := fun K => ia3.get (i := (i : Int)) (by omega) (by rw [Int.toNat_natCast, List.getElem?_set_self (by omega)]) K
      have p3 : ∀ (K : H → Option (Ex × List Value × H)), (six v2 (i : Int) 1 fun b o => (wrc 1 h3 b o (.int .i64 x)).bind K) = K (h3.set b (.row (((A.set i (y - 1)).set i x).map iv) 3 true)) := fun K => by rw [ia3.put (by omega) (by simp; omega), ia3.wrc (i := ((i : Int)).toNat) (by simp; omega)]; rfl
      have ia4 := ia3.set i x
      have x4 : Ext h (h3.set b (.row (((A.set i (y - 1)).set i x).map iv) 3 true)) := x3.set hbh _
      rw [List.set_set] at ia4 x4
      simp only [List.set_set] at p3
      generalize h3.set b (.row ((A.set i x).map iv) 3 true) = h4 at *
      have r4 : ∀ (K : Value → Option (Ex × List Value × H)), (six v2 (i : Int) 1 fun b o => (h4.cell b o).bind K) = K (iv x) := fun K => ia4.get (i := (i : Int)) (by omega) (by rw [Int.toNat_natCast, List.getElem?_set_self (by omega)]) K
      unfold nextG valN
      by_cases ht0 : (i : Int) = task
      · rw [if_pos ht0, if_neg (by simp only; omega)]
        refine ⟨.normal, [.slice none 0 0, .bool false, iv ((i : Int) + 1)], h4, ?_, rfl, x4, ia4, by simp [hA], keep _, rfl⟩
        subst ht0
        simp [f64_l1, show i < l.length by omega, e2, hsub, p2, e0, p3, r4, hadd, show ¬ x = 0 by omega]
      · rw [if_neg ht0]
        by_cases hy : y = 1
        · rw [if_pos (by simp only; omega)]
          refine ⟨.ret, [.slice none 0 0, .bool false, iv (i : Int)], h3, ?_, by simp, rfl, rfl, x3⟩
          have hy' : y - 1 = 0 := by omega
          rw [hy'] at hsub
          simp only [hy'] at p2 r3
          simp [f64_l1, show i < l.length by omega, e2, hsub, p2, r3, ht0]
        · rw [if_neg (by simp only; omega)]
          refine ⟨.normal, [.slice none 0 0, .bool false, iv ((i : Int) + 1)], h3, ?_, rfl, x3, ia3, by simp [hA], keep _, rfl⟩
          simp [f64_l1, show i < l.length by omega, e2, hsub, p2, r3, ht0, hadd, show ¬ y - 1 = 0 by omega])
  have hit := next_it task (l.zip s) 0 [] s rfl (by omega)
  rw [List.nil_append] at hit
  split at hm <;> rename_i r hr <;> rw [hr] at hit
  · obtain ⟨rfl, xg, ia, _, _, rfl⟩ := hm
    obtain ⟨q1', q2'⟩ := hit
    rw [List.nil_append] at q2'
    subst q2'
    refine ⟨v2, true, h', x64 (k := l.length + 1) ?_ ia.slR.notR2, xg, ?_, fun b' hb' => by rw [q2] at hb'; cases hb'; exact q1⟩
    · simp [f64, hbl, hap, hn2, lp_eq hlp]
    · unfold nextP
      rw [if_neg q1']
      exact ⟨ia.slR, rfl, _, ia⟩
  · obtain ⟨_, rfl, rfl, xg⟩ := hm
    refine ⟨.slice none 0 0, false, h', x64 (k := l.length + 1) ?_ rfl, xg, ?_, fun b' hb' => by cases hb'⟩
    · simp [f64, hbl, hap, hn2, lp_eq hlp]
    · unfold nextP
      rw [if_pos hit]
      exact ⟨rfl, rfl⟩

theorem s64 {v0 v1 : Value} {l s : List Int} {task : Int} {h : H} (hl : SlR h 3 1 v0 (cellsI l)) (hs : SlR h 3 1 v1 (cellsI s)) (ht : TaskI l) (hst : stOk l s = true) :
    ∃ v q h', rn 64 #[v0, v1, iv task] h = some (.tuple #[v, .bool q], h') ∧ Ext h h' ∧ NextR (nextP l s task) v q h' := by
  obtain ⟨v, q, h', e, x, hN, _⟩ := s64F (task := task) hl hs ht hst
  exact ⟨v, q, h', e, x, hN⟩

end Go.AM
