/- Round; tasks that are asked for less often, or left out. -/
import Derived.Test.YtnhmgokjijlhbaaSa
namespace Go.AM
open Go.Proofs Go.Lives

variable {R : Type}

attribute [local simp] nx_eq nx_new nx_set blk_new blk_set asI_int asK_int asB_bool asP_ptr al_eq bx_eq len_slice onE_exit onE_ret onR_ret Value.cells d3 d22 d31 d60 d69 d70 w70 w60 w3 w22 cell_new cell_set rd_new rd_set off eq lt le ifB gv out eqF1 eqF2 eqF3 eqF4 eqF5 eqF6 eqF7 eqF8 ext20 ext21

theorem s17_bad {v0 : Value} {l : List Int} {h : H} (hl : SlR h 3 1 v0 (cellsI l)) (ht : tasksP l = false) : rn 17 #[v0] h = some (.tuple #[.slice none 0 0, iv 2], h) := by
  have c53 := fun (K : Value → H → Option (Value × H)) => calls_eq (K := K) (xs := [_]) (s53 hl)
  refine x17 (k := 0) (h1 := h) ?_ rfl
  simp [f17, c53, ht]

/-- What Round answers. -/
def RoundR (ln : List Nat) (v : Value) (e : Int) (h : H) : Prop :=
  (0 ≤ lifeF ln (beg ln) ∧ e = 4 ∧ v = .slice none 0 0) ∨ (lifeF ln (beg ln) = -1 ∧ e = 0 ∧ ∃ r, SlR h 3 1 v (cellsI (nI r)) ∧ KeepsR ln r ∧ r.length ≤ prodN ln)

theorem s17 {v0 : Value} {ln : List Nat} {h : H} (hl : SlR h 3 1 v0 (cellsI (nI ln))) (ht : tasksP (nI ln) = true) :
    ∃ v e h', rn 17 #[v0] h = some (.tuple #[v, iv e], h') ∧ Ext h h' ∧ RoundR ln v e h' := by
  have htI := tasks_I ht
  have hok1 : ∀ x ∈ ln, 1 ≤ x := fun x hx => ((taskI_ok htI).1 x hx).1
  have c53 := fun (K : Value → H → Option (Value × H)) => calls_eq (K := K) (xs := [_]) (s53 hl)
  obtain ⟨h2, e54, x2, hM⟩ := s54 hl htI
  have c54 := fun (K : Value → H → Option (Value × H)) => calls_eq (K := K) (xs := [_]) e54
  obtain ⟨v3, h3, e55, x3, hR⟩ := s55 htI hM (hl.ext x2)
  have c55 := fun (K : Value → H → Option (Value × H)) => calls_eq (K := K) (xs := [_]) e55
  have kn : ∀ (K : Bool → Option (Value × H)), eqv Try.prog 22 (.slice none 0 0) (.slice none 0 0) K = K true := fun K => by unfold eqv; rw [nil22]
  have ks : ∀ (b o n c : Nat) (K : Bool → Option (Value × H)), eqv Try.prog 22 (.slice (some ⟨b, o, none⟩) n c) (.slice none 0 0) K = K false := fun b o n c K => by unfold eqv; rw [some22]
  rcases hR with ⟨h1, rfl⟩ | ⟨h1, r, c, hc, hs, hrne, hrl, hrt, hw⟩
  · refine ⟨.slice none 0 0, 4, h3, x17 (k := 0) ?_ rfl, x2.trans x3, .inl ⟨h1, rfl, rfl⟩⟩
    simp [f17, c53, ht, c54, c55, kn]
  · have hs0 := hs
    generalize hL : cellsI (nI r) = L at hs
    cases hs with
    | nil => exact absurd (by simpa using hL) hrne
    | @at_ b o c' cs own l hb hr hk hcc hle hx =>
      subst hL
      refine ⟨_, 0, h3, x17 (k := 0) ?_ hs0.notR2, x2.trans x3, .inr ⟨h1, rfl, r, hs0, cyc_keeps hok1 hrne hrt hw, hrl⟩⟩
      simp [f17, c53, ht, c54, c55, ks]

/-! ### Less often, or left out -/

theorem keeps_more {ln r : List Nat} (hk : KeepsR ln r) {w x : Nat} (hw : ln[w]? = some x) : KeepsR (ln.set w (x + 1)) r := by
  obtain ⟨h1, h2, h3⟩ := hk
  refine ⟨h1, fun y hy => by rw [List.length_set]; exact h2 y hy, fun i n hi => ?_⟩
  by_cases hiw : i = w
  · subst hiw
    rw [List.getElem?_set_self (List.getElem?_eq_some_iff.1 hw).1] at hi
    cases hi
    exact (h3 i x hw).mono (by omega)
  · rw [List.getElem?_set_ne (Ne.symm hiw)] at hi
    exact h3 i n hi

def dropT (w t : Nat) : Nat := if t < w then t else if t = w then 0 else t - 1

theorem keeps_less {ln r : List Nat} (hk : KeepsR ln r) {w : Nat} (hw : w < ln.length) (h2 : 2 ≤ ln.length) : KeepsR (ln.take w ++ ln.drop (w + 1)) (r.map (dropT w)) := by
  obtain ⟨g1, g2, g3⟩ := hk
  have hlen : (ln.take w ++ ln.drop (w + 1)).length = ln.length - 1 := by simp; omega
  refine ⟨by simpa using g1, fun y hy => ?_, fun i n hi d => ?_⟩
  · obtain ⟨t, ht, rfl⟩ := List.mem_map.1 hy
    have := g2 t ht
    unfold dropT
    split
    · omega
    · split <;> omega
  · have hil := (List.getElem?_eq_some_iff.1 hi).1
    have hday : ∀ e, dayT (r.map (dropT w)) e = dropT w (dayT r e) := fun e => by
      have hl : e % r.length < r.length := Nat.mod_lt _ (List.length_pos_iff.2 g1)
      unfold dayT
      rw [List.length_map, List.getElem?_map, List.getElem?_eq_getElem hl]
      rfl
    have htl : (ln.take w).length = w := by simp; omega
    by_cases hiw : i < w
    · rw [List.getElem?_append_left (by omega), List.getElem?_take_of_lt hiw] at hi
      obtain ⟨e, q1, q2, q3⟩ := g3 i n hi d
      exact ⟨e, q1, q2, by rw [hday, q3]; unfold dropT; rw [if_pos hiw]⟩
    · rw [List.getElem?_append_right (by omega), htl, List.getElem?_drop] at hi
      obtain ⟨e, q1, q2, q3⟩ := g3 (i + 1) n (by rw [← hi]; congr 1; omega) d
      exact ⟨e, q1, q2, by rw [hday, q3]; unfold dropT; rw [if_neg (by omega), if_neg (by omega)]; omega⟩

theorem prodN_append : ∀ (a b : List Nat), prodN (a ++ b) = prodN a * prodN b := by
  intro a
  induction a with
  | nil => intro b; simp [prodN]
  | cons x a ih => intro b; simp only [List.cons_append, prodN, ih, Nat.mul_assoc]

theorem tasks_less {ln : List Nat} (ht : tasksP (nI ln) = true) {w : Nat} (hw : w < ln.length) (h2 : 2 ≤ ln.length) : tasksP (nI (ln.take w ++ ln.drop (w + 1))) = true := by
  have htk := ht
  simp only [tasksP, Bool.and_eq_true, decide_eq_true_eq, okN_all, prodP_nI, List.length_map] at ht ⊢
  obtain ⟨⟨h3, h4⟩, h5⟩ := ht
  refine ⟨⟨by simp; omega, fun x hx => ?_⟩, ?_⟩
  · obtain ⟨y, hy, rfl⟩ := List.mem_map.1 hx
    refine h4 y (List.mem_map.2 ⟨y, ?_, rfl⟩)
    rcases List.mem_append.1 hy with h | h
    · exact List.mem_of_mem_take h
    · exact List.mem_of_mem_drop h
  · have hsplit : ln = ln.take w ++ (ln[w] :: ln.drop (w + 1)) := by
      rw [← List.drop_eq_getElem_cons hw, List.take_append_drop]
    have hp : prodN ln = prodN (ln.take w) * (ln[w] * prodN (ln.drop (w + 1))) := by
      conv => lhs; rw [hsplit, prodN_append]
      rfl
    rw [prodN_append]
    have hpos : 1 ≤ ln[w] := by
      have := h4 (ln[w] : Nat) (List.mem_map.2 ⟨_, List.getElem_mem hw, rfl⟩)
      omega
    have h6 : prodN (ln.take w) * prodN (ln.drop (w + 1)) ≤ prodN ln := by
      rw [hp]
      refine Nat.mul_le_mul_left _ ?_
      calc prodN (ln.drop (w + 1)) = 1 * prodN (ln.drop (w + 1)) := by rw [Nat.one_mul]
        _ ≤ _ := Nat.mul_le_mul_right _ hpos
    omega

theorem s3 {v0 : Value} {l : List Int} {which : Int} {h : H} (hl : SlR h 3 1 v0 (cellsI l)) : ∃ h', rn 3 #[v0, iv which] h = some (.bool true, h') := by
  suffices hh : ∃ h', f3 rn 0 v0 which h = some (.bool true, h') by
    obtain ⟨h', e⟩ := hh
    exact ⟨_, t3 e⟩
  obtain ⟨a1, h1, q1, x1, z1⟩ := s18 hl
  have c1 := fun (K : Value → H → Option (Value × H)) => calls_eq (K := K) (xs := [_]) q1
  cases ht : tasksP l with
  | false =>
    have c2 := fun (K : Value → H → Option (Value × H)) => calls_eq (K := K) (xs := [_]) (s17_bad z1 (by rw [tasks_take]; exact ht))
    exact ⟨h1, by simp [f3, c1, c2, k19]⟩
  | true =>
    have htI := tasks_I ht
    obtain ⟨ln, rfl, htk⟩ := tasks_ln ht
    obtain ⟨hok, h5, hl1, hD, hDpos⟩ := taskI_ok htI
    rw [htk] at z1
    obtain ⟨v2, e2, h2, q2, x2, hR⟩ := s17 z1 ht
    have c2 := fun (K : Value → H → Option (Value × H)) => calls_eq (K := K) (xs := [_]) q2
    have x12 := x1.trans x2
    rcases hR with ⟨_, rfl, rfl⟩ | ⟨hneg, rfl, r, _, hkr, _⟩
    · exact ⟨h2, by simp [f3, c1, c2, k19]⟩
    · have n0 : ∀ {T : Type} (K : Int → Option T), len v0 K = K (ln.length : Int) := fun K => by rw [hl.len]; simp
      obtain ⟨w, hw, hwe⟩ := which_nat which (n := ln.length) (by omega) (by omega)
      have hu : wr .u64 (ln.length : Int) = (ln.length : Int) := u64_small (by omega) (by omega)
      have hnz : ∀ (x : Option (Value × H)), nz (wr .u64 (ln.length : Int)) x = x := fun x => nz_ne (by rw [hu]; omega) x
      -- one more
      obtain ⟨p1, g1, r1, y1, w1⟩ := s18A (hl.ext x12)
      rw [htk] at w1
      obtain ⟨b, hb1, hb2, ia⟩ := w1.ia (by intro e; have h9 := congrArg List.length e; rw [List.length_map, List.length_nil] at h9; omega)
      have hlw : ln[w]? = some (ln[w]'hw) := List.getElem?_eq_getElem _
      have hx1 := hok _ (List.getElem_mem hw)
      generalize ln[w]'hw = x at hlw hx1
      have hlw' : (nI ln)[w]? = some (x : Int) := by rw [List.getElem?_map, hlw]; rfl
      have e1 : ∀ (K : Value → Option (Value × H)), (six p1 (w : Int) 1 fun b o => (g1.cell b o).bind K) = K (iv x) := fun K => ia.get (by omega) (by rw [Int.toNat_natCast]; exact hlw') K
      have hadd : add .i64 (x : Int) 1 = ((x + 1 : Nat) : Int) := by rw [add64 (by omega) (by omega)]; simp
      have e3 : ∀ (K : H → Option (Value × H)), (six p1 (w : Int) 1 fun b o => (wrc 1 g1 b o (.int .i64 ((x + 1 : Nat) : Int))).bind K) = K (g1.set b (.row (((nI ln).set w ((x + 1 : Nat) : Int)).map iv) 3 true)) := fun K => by
        rw [ia.put (by omega) (by rw [Int.toNat_natCast]; simpa using hw), ia.wrc (i := ((w : Int)).toNat) (by rw [Int.toNat_natCast]; simpa using hw), Int.toNat_natCast]; rfl
      have ia2 := ia.set w ((x + 1 : Nat) : Int)
      have hset : (nI ln).set w ((x + 1 : Nat) : Int) = nI (ln.set w (x + 1)) := by
        show (List.map _ _).set _ _ = _
        rw [← List.map_set]
      rw [hset] at ia2
      rw [hset] at e3
      have x5 : Ext h2 (g1.set b (.row ((nI (ln.set w (x + 1))).map iv) 3 true)) := ⟨y1.nx, fun q hq => by rw [blk_set_ne _ _ _ (by omega)]; exact y1.blk q hq⟩
      generalize g1.set b (.row ((nI (ln.set w (x + 1))).map iv) 3 true) = g2 at *
      -- what Round says of it
      obtain ⟨v9, e9, h7, q7, x7, hE⟩ : ∃ v9 e9 h7, rn 17 #[p1] g2 = some (.tuple #[v9, iv e9], h7) ∧ Ext g2 h7 ∧ (e9 = 0 ∨ e9 = 2) := by
        cases htm : tasksP (nI (ln.set w (x + 1))) with
        | false => exact ⟨_, _, _, s17_bad ia2.slR htm, .refl _, .inr rfl⟩
        | true =>
          obtain ⟨v, e, h', q, xx, hRm⟩ := s17 ia2.slR htm
          refine ⟨v, e, h', q, xx, .inl ?_⟩
          have hokm : ∀ y ∈ ln.set w (x + 1), 1 ≤ y := fun y hy => ((taskI_ok (tasks_I htm)).1 y hy).1
          have := keeps_life hokm (keeps_more hkr hlw)
          rcases hRm with ⟨h0, _, _⟩ | ⟨_, h0, _⟩
          · omega
          · exact h0
      have d1 := fun (K : Value → H → Option (Value × H)) => calls_eq (K := K) (xs := [_]) r1
      have d2 := fun (K : Value → H → Option (Value × H)) => calls_eq (K := K) (xs := [_]) q7
      have x27 := x5.trans x7
      have x17' := x12.trans x27
      by_cases hlt2 : ln.length < 2
      · refine ⟨h7, ?_⟩
        have hlt2' : (ln.length : Int) < 2 := by omega
        simp only [Int.natCast_add, Int.cast_ofNat_Int] at hadd e3
        rcases hE with rfl | rfl <;> simp [f3, c1, c2, n0, hnz, d1, hwe, e1, hadd, e3, d2, hlt2', k19]
      · have hlt2' : ¬ (ln.length : Int) < 2 := by omega
        -- one left out
        have hl7 := hl.ext x17'
        obtain ⟨v13, s13, k13⟩ := hl7.take (i := (w : Int)) under22 sz3 (by omega) (by simp; omega)
        have k13' : ∀ (K : Value → Option (Value × H)), sli Try.prog h7 22 v0 none (some (iv (w : Nat))) none K = K v13 := fun K => k13 K
        rw [Int.toNat_natCast, ← List.map_take] at s13
        obtain ⟨v14, h9, q9, x9, a14, wr9⟩ := s18W s13
        have htk2 : ((nI ln).take w).take 14 = nI (ln.take w) := by
          rw [List.take_of_length_le (by simp; omega)]
          exact (List.map_take).symm
        rw [htk2] at a14
        obtain ⟨v15, s15, k15⟩ := (hl7.ext x9).drop (P := Try.prog) (t := 22) under22 sz3 (i := w + 1) (by simp; omega)
        have haddw : add .i64 (w : Int) 1 = ((w + 1 : Nat) : Int) := by rw [add64 (by omega) (by omega)]; simp
        have k15' : ∀ (K : Value → Option (Value × H)), sli Try.prog h9 22 v0 (some (iv ((w + 1 : Nat) : Int))) none none K = K v15 := fun K => k15 K
        obtain ⟨v16, h10, k16, a16, n16, f16, _⟩ := a14.app (P := Try.prog) app22 app22 s15 (by
          rw [List.all_eq_true]
          intro x hx
          rw [← List.map_drop, flat1'] at hx
          obtain ⟨z, _, rfl⟩ := List.mem_map.1 hx
          rfl) (by simp; omega) x9.nx
        have k16' : ∀ (K : Value → H → Option (Value × H)), app Try.prog h9 22 22 v14 v15 K = K v16 h10 := fun K => k16 K
        have hless : cellsI (nI (ln.take w)) ++ (cellsI (nI ln)).drop (w + 1) = cellsI (nI (ln.take w ++ ln.drop (w + 1))) := by simp
        rw [hless] at a16
        have htl := tasks_less ht hw (by omega)
        obtain ⟨v17, e17, h11, q17, x17'', hR17⟩ := s17 a16.slR htl
        have hokl : ∀ y ∈ ln.take w ++ ln.drop (w + 1), 1 ≤ y := fun y hy => ((taskI_ok (tasks_I htl)).1 y hy).1
        have he17 : e17 = 0 := by
          have := keeps_life hokl (keeps_less hkr hw (by omega))
          rcases hR17 with ⟨h0, _, _⟩ | ⟨_, h0, _⟩
          · omega
          · exact h0
        subst he17
        have hck : ∀ (x : Option (Value × H)), ck (fres v0 h7.nx (same h9 h7)) x = x := fun x => by
          obtain ⟨q, n, c, hv⟩ := hl7.isSl
          subst hv
          generalize cellsI (nI ln) = L at hl7
          cases hl7 with
          | nil => rfl
          | at_ hb _ _ _ _ _ => simp [ck, fres, hb, same, wr9]
        have d3 := fun (K : Value → H → Option (Value × H)) => calls_eq (K := K) (xs := [_]) q9
        have d4 := fun (K : Value → H → Option (Value × H)) => calls_eq (K := K) (xs := [_]) q17
        refine ⟨h11, ?_⟩
        simp only [Int.natCast_add, Int.cast_ofNat_Int] at hadd e3 haddw k15'
        rcases hE with rfl | rfl <;> simp [f3, c1, c2, n0, hnz, d1, hwe, e1, hadd, e3, d2, hlt2', k13', d3, haddw, k15', hck, k16', d4, k19]

end Go.AM
