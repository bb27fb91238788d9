/- Rounds that keep tasks: the checks, and the statement. -/
import Derived.Test.YtnhmgokjijlhbaaSd
namespace Go.AM
open Go.Proofs Go.Lives

variable {R : Type}

attribute [local simp] nx_eq nx_new nx_set blk_new blk_set asI_int asK_int asB_bool asP_ptr al_eq bx_eq len_slice onE_exit onE_ret onR_ret Value.cells d3 d22 d31 d60 d69 d70 w70 w60 w3 w22 cell_new cell_set rd_new rd_set off eq lt le ifB gv out eqF1 eqF2 eqF3 eqF4 eqF5 eqF6 eqF7 eqF8 ext20 ext21

/-- Does a slice keep tasks? -/
noncomputable def winsB (ln r : List Nat) : Bool := by
  classical
  exact decide (∀ i n, ln[i]? = some n → Win r i n)
noncomputable def keepsB (ln : List Nat) (l : List Int) : Bool := isRoundP ln.length 4000 l && winsB ln (l.map Int.toNat)

theorem winsB_iff {ln r : List Nat} : winsB ln r = true ↔ ∀ i n, ln[i]? = some n → Win r i n := by
  unfold winsB
  simp

theorem toNat_nI (r : List Nat) : (nI r).map Int.toNat = r := by
  show List.map _ (List.map _ r) = r
  rw [List.map_map]
  conv => rhs; rw [← List.map_id r]
  apply List.map_congr_left
  intro x _
  simp

/-- A loop over tasks, each one of which is done in time or not. -/
theorem itL_wins {σ ρ : Type} {ln r : List Nat} {g : Nat → Nat → ρ} {s0 : σ} {ok : Nat → Nat → Bool} (hok : ∀ i n, ln[i]? = some n → (ok i n = true ↔ Win r i n)) :
    (∃ x, itL (fun i n s => if ok i n = true then .inl s else .inr (g i n)) ln 0 s0 = .inr x ∧ winsB ln r = false) ∨ (itL (fun i n s => if ok i n = true then .inl s else .inr (g i n)) ln 0 s0 = (.inl s0 : σ ⊕ ρ) ∧ winsB ln r = true) := by
  rcases itL_all (σ := σ) (ρ := ρ) (ok := ok) (g := g) (s0 := s0) ln 0 with ⟨⟨x, hx⟩, j, n, hj, hf⟩ | ⟨hx, hall⟩
  · refine .inl ⟨x, hx, ?_⟩
    cases hw : winsB ln r with
    | false => rfl
    | true =>
      have := (hok j n hj).2 (winsB_iff.1 hw j n hj)
      rw [Nat.zero_add] at hf
      rw [hf] at this
      cases this
  · refine .inr ⟨hx, winsB_iff.2 fun i n hi => ?_⟩
    have := hall i n hi
    rw [Nat.zero_add] at this
    exact (hok i n hi).1 this

/-- CheckRound. -/
theorem s29_bad {v0 v1 : Value} {l : List Int} {h : H} (hl : SlR h 3 1 v0 (cellsI l)) (ht : tasksP l = false) : rn 29 #[v0, v1] h = some (.tuple #[.bool false, iv 2], h) := by
  have c53 := fun (K : Value → H → Option (Value × H)) => calls_eq (K := K) (xs := [_]) (s53 hl)
  refine p29 (k := 0) (h1 := h) ?_ rfl (.refl _)
  simp [f29, c53, ht]

theorem s29 {v0 v1 : Value} {ln : List Nat} {l : List Int} {h : H} (hl : SlR h 3 1 v0 (cellsI (nI ln))) (ht : tasksP (nI ln) = true) (hr : SlR h 3 1 v1 (cellsI l)) : rn 29 #[v0, v1] h = some (.tuple #[.bool (keepsB ln l), iv 0], h) := by
  have htI := tasks_I ht
  obtain ⟨hok, h5, hl1, hD, hDpos⟩ := taskI_ok htI
  have c53 := fun (K : Value → H → Option (Value × H)) => calls_eq (K := K) (xs := [_]) (s53 hl)
  have c68 := fun (K : Value → H → Option (Value × H)) => calls_eq (K := K) (xs := [_, _, _]) (s68 (n := ln.length) (most := 4000) hr (by omega))
  have hn : ∀ {T : Type} (K : Int → Option T), len v0 K = K (ln.length : Int) := fun K => by rw [hl.len]; simp
  refine p29 (k := 200010) (h1 := h) ?_ rfl (.refl _)
  cases hir : isRoundP ln.length 4000 l with
  | false =>
    have : keepsB ln l = false := by unfold keepsB; rw [hir]; rfl
    rw [hir] at c68
    simp only [Int.cast_ofNat_Int] at c68
    simp [f29, c53, ht, hn, c68, this]
  | true =>
    obtain ⟨r, rfl, hrne, hrl, hrt⟩ := isRound_nI hir
    have hkb : keepsB ln (nI r) = winsB ln r := by unfold keepsB; rw [hir, toNat_nI]; rfl
    rw [hir] at c68
    have hlp := lp_same (ρ := Nat) (F := f29_l1 rn 200010 v0 v1 ln.length) (k := 200010) (l := ln) (h := h) (fun i (_ : Unit) => [.bool false, iv 0, iv i])
      (fun i n s => if (decide ((seqP (dayT r) i (2 * r.length)).1 ≠ 0) && decide ((seqP (dayT r) i (2 * r.length)).1 ≤ n)) = true then .inl s else .inr i) (fun _ _ => True) (fun _ => .ret) (fun i => [.bool false, iv 0, iv i]) 0 (fun _ => [.bool false, iv 0, iv ln.length]) (ws := [.bool false, iv 0, iv 0]) (s0 := ()) rfl trivial (by omega) (by simp)
      (fun _ _ => by simp [f29_l1])
      (by
        intro i n _ hx _
        have hi := (List.getElem?_eq_some_iff.1 hx).1
        refine ⟨fun _ _ => trivial, ?_⟩
        have e1 := fun (K : Value → Option (Ex × List Value × H)) => nI_get hl hx K
        have c69 := fun (K : Value → H → Option (Ex × List Value × H)) => calls_eq (K := K) (xs := [_, _]) (s69 (i := i) hr (by omega))
        have hadd : add .i64 (i : Int) 1 = (i : Int) + 1 := add64 (by omega) (by omega)
        generalize (seqP (dayT r) i (2 * r.length)).1 = g at *
        by_cases hg0 : g = 0
        · simp [f29_l1, hi, e1, c69, hg0, rnd]
        · by_cases hgn : g ≤ n
          · simp [f29_l1, hi, e1, c69, hg0, show ¬ (n : Int) < g by omega, hgn, hadd, rnd]
          · simp [f29_l1, hi, e1, c69, hg0, show (n : Int) < g by omega, hgn, rnd])
    have hiff : ∀ (i n : Nat), ln[i]? = some n → ((decide ((seqP (dayT r) i (2 * r.length)).1 ≠ 0) && decide ((seqP (dayT r) i (2 * r.length)).1 ≤ n)) = true ↔ Win r i n) := fun i n hi => by
      rw [gapP_win hrne (hok n (List.mem_of_getElem? hi)).1]
      simp
    simp only [Int.cast_ofNat_Int] at c68
    rw [hkb]
    rcases itL_wins (σ := Unit) (ρ := Nat) (g := fun i _ => i) (s0 := ()) hiff with ⟨x, h1, h2⟩ | ⟨h1, h2⟩
    · rw [h1] at hlp
      rw [h2]
      simp [f29, c53, ht, hn, c68, lp_eq hlp]
    · rw [h1] at hlp
      rw [h2]
      simp [f29, c53, ht, hn, c68, lp_eq hlp.1]

/-- The document's Keeps. -/
theorem s31 {v0 v1 : Value} {ln : List Nat} {l : List Int} {h : H} (hl : SlR h 3 1 v0 (cellsI (nI ln))) (htI : TaskI (nI ln)) (hr : SlR h 3 1 v1 (cellsI l)) : rn 31 #[v0, v1] h = some (.bool (keepsB ln l), h) := by
  obtain ⟨hok, h5, hl1, hD, hDpos⟩ := taskI_ok htI
  have hn : ∀ {T : Type} (K : Int → Option T), len v0 K = K (ln.length : Int) := fun K => by rw [hl.len]; simp
  have hn1 : ∀ {T : Type} (K : Int → Option T), len v1 K = K (l.length : Int) := fun K => by rw [hr.len]; simp
  refine p31 (k := 200010) (h1 := h) ?_ rfl (.refl _)
  by_cases hlen : 1 ≤ l.length ∧ l.length ≤ 4000
  · have q1 : ¬ (l.length : Int) < 1 := by omega
    have q2 : ¬ (4000 : Int) < (l.length : Int) := by omega
    have hlp := lp_same (ρ := Nat) (F := f31_l1 rn 200010 v0 v1 l.length) (k := 200010) (l := l) (h := h) (fun i (_ : Unit) => [.bool false, iv i])
      (fun i x s => if decide (0 ≤ x ∧ x < (ln.length : Int)) = true then .inl s else .inr i) (fun _ _ => True) (fun _ => .ret) (fun i => [.bool false, iv i]) 0 (fun _ => [.bool false, iv l.length]) (ws := [.bool false, iv 0]) (s0 := ()) rfl trivial (by omega) (by simp)
      (fun _ _ => by simp [f31_l1])
      (by
        intro i x _ hx _
        have hi := (List.getElem?_eq_some_iff.1 hx).1
        refine ⟨fun _ _ => trivial, ?_⟩
        have e1 : ∀ (K : Value → Option (Ex × List Value × H)), (six v1 (i : Int) 1 fun b o => (h.cell b o).bind K) = K (iv x) := fun K => hr.c0 (by omega) (x := [iv x]) (by simp [hx]) rfl K
        have hadd : add .i64 (i : Int) 1 = (i : Int) + 1 := add64 (by omega) (by omega)
        by_cases h0 : x < 0
        · simp [f31_l1, hi, e1, h0, show ¬ 0 ≤ x by omega, rnd]
        · by_cases h2 : x < ln.length
          · simp [f31_l1, hi, e1, h0, hn, show ¬ (ln.length : Int) ≤ x by omega, show 0 ≤ x by omega, h2, hadd, rnd]
          · simp [f31_l1, hi, e1, h0, hn, show (ln.length : Int) ≤ x by omega, h2, rnd])
    rcases itL_all (σ := Unit) (ρ := Nat) (ok := fun _ (x : Int) => decide (0 ≤ x ∧ x < (ln.length : Int))) (g := fun i _ => i) (s0 := ()) l 0 with ⟨⟨x, hx⟩, j, y, hj, hf⟩ | ⟨hx, hall⟩
    · rw [hx] at hlp
      have hkb : keepsB ln l = false := by
        have : (l.all fun x => decide (0 ≤ x ∧ x < (ln.length : Int))) = false := by
          rw [List.all_eq_false]
          exact ⟨y, List.mem_of_getElem? hj, by rw [hf]; simp⟩
        unfold keepsB isRoundP
        rw [this]
        simp
      rw [hkb]
      simp [f31, hn1, q1, q2, lp_eq hlp]
    · rw [hx] at hlp
      have hir : isRoundP ln.length 4000 l = true := by
        unfold isRoundP
        rw [Bool.and_eq_true, decide_eq_true_iff, List.all_eq_true]
        refine ⟨hlen, fun x hx => ?_⟩
        obtain ⟨j, hj⟩ := List.getElem?_of_mem hx
        have := hall j x hj
        exact this
      obtain ⟨r, rfl, hrne, hrl, hrt⟩ := isRound_nI hir
      have hkb : keepsB ln (nI r) = winsB ln r := by unfold keepsB; rw [hir, toNat_nI]; rfl
      have hlp1 := hlp.1
      simp only [List.length_map] at hn1 q1 q2 hlp1
      have hlp2 := lp_same (ρ := Nat) (F := f31_l2 rn 200010 v0 v1 ln.length) (k := 200010) (l := ln) (h := h) (fun i (_ : Unit) => [.bool false, iv i])
        (fun i n s => if decide (gapZ r i ≤ n) = true then .inl s else .inr i) (fun _ _ => True) (fun _ => .ret) (fun i => [.bool false, iv i]) 2 (fun _ => [.bool false, iv ln.length]) (ws := [.bool false, iv 0]) (s0 := ()) rfl trivial (by omega) (by simp)
        (fun _ _ => by simp [f31_l2])
        (by
          intro i n _ hx _
          have hi := (List.getElem?_eq_some_iff.1 hx).1
          refine ⟨fun _ _ => trivial, ?_⟩
          have e1 := fun (K : Value → Option (Ex × List Value × H)) => nI_get hl hx K
          have c70 := fun (K : Value → H → Option (Ex × List Value × H)) => calls_eq (K := K) (xs := [_, _]) (s70 (i := i) hr (by omega))
          have hadd : add .i64 (i : Int) 1 = (i : Int) + 1 := add64 (by omega) (by omega)
          generalize gapZ r i = g at *
          by_cases hgn : g ≤ n
          · simp [f31_l2, hi, e1, c70, show ¬ (n : Int) < g by omega, hgn, hadd, rnd]
          · simp [f31_l2, hi, e1, c70, show (n : Int) < g by omega, hgn, rnd])
      have hiff : ∀ (i n : Nat), ln[i]? = some n → (decide (gapZ r i ≤ n) = true ↔ Win r i n) := fun i n hi => by
        have hn40 := hok n (List.mem_of_getElem? hi)
        rw [gapR_win hrne hn40.1, decide_eq_true_iff]
        unfold gapZ
        cases h9 : (seqR (dayT r) i (2 * r.length)).2.2 with
        | true => simp
        | false => simp; omega
      rw [hkb]
      rcases itL_wins (σ := Unit) (ρ := Nat) (g := fun i _ => i) (s0 := ()) hiff with ⟨x, h1, h2⟩ | ⟨h1, h2⟩
      · rw [h1] at hlp2
        rw [h2]
        simp [f31, hn1, q1, q2, lp_eq hlp1, hn, lp_eq hlp2]
      · rw [h1] at hlp2
        rw [h2]
        simp [f31, hn1, q1, q2, lp_eq hlp1, hn, lp_eq hlp2.1]
  · have hkb : keepsB ln l = false := by
      unfold keepsB isRoundP
      rw [decide_eq_false hlen]
      rfl
    rw [hkb]
    by_cases q1 : (l.length : Int) < 1
    · simp only [f31, hn1, lt_t q1, ifB_true]
    · have q2 : (4000 : Int) < (l.length : Int) := by omega
      simp only [f31, hn1, lt_f q1, ifB_false, lt_t q2, ifB_true]

/-- Longer copies. -/
theorem s30 {v : Value} {l : List Int} {h : H} (hs : SlR h 3 1 v (cellsI l)) : ∃ v' h', rn 30 #[v] h = some (v', h') ∧ Ext h h' ∧ SlR h' 3 1 v' (cellsI (l.take 20100)) := by
  have e1 : imin ((cellsI l).length : Int) 20100 = ((min l.length 20100 : Nat) : Int) := by
    rw [List.length_map]
    unfold imin
    split <;> omega
  obtain ⟨v1, s1, e2⟩ := hs.take (i := ((min l.length 20100 : Nat) : Int)) under22 sz3 (by omega) (by rw [List.length_map]; omega)
  have e3 : (cellsI l).take ((min l.length 20100 : Nat) : Int).toNat = cellsI (l.take 20100) := by
    rw [Int.toNat_natCast, ← List.map_take]
    congr 1
    rcases Nat.le_total l.length 20100 with h1 | h1
    · rw [Nat.min_eq_left h1, List.take_of_length_le (Nat.le_refl _), List.take_of_length_le h1]
    · rw [Nat.min_eq_right h1]
  rw [e3] at s1
  obtain ⟨v', h', e4, x, s, a, n, c, rfl⟩ := s56 s1 (by rw [List.length_map, List.length_take]; omega)
  refine ⟨_, h', x30 (k := 0) ?_ rfl, x, s⟩
  unfold f30
  rw [hs.len, e1, e2, calls_eq e4]

theorem keeps_take (ln : List Nat) (l : List Int) : keepsB ln (l.take 20100) = keepsB ln l := by
  rcases Nat.le_total l.length 20100 with h | h
  · rw [List.take_of_length_le h]
  · unfold keepsB isRoundP
    rw [List.length_take, Nat.min_eq_left h, decide_eq_false (by omega), decide_eq_false (by omega)]
    rfl

theorem s32 {v0 : Value} {ln : List Nat} {h : H} (hl : SlR h 3 1 v0 (cellsI (nI ln))) (htI : TaskI (nI ln)) : rn 32 #[v0] h = some (.bool (decide (lifeF ln (beg ln) < 0)), h) := by
  have hok1 : ∀ x ∈ ln, 1 ≤ x := fun x hx => ((taskI_ok htI).1 x hx).1
  obtain ⟨hb1, hb2⟩ := beg_spec hok1
  have e := s34 (c := beg ln) hl (by rw [hb2]; exact hl) htI hb1
  have c1 := fun (K : Value → H → Option (Value × H)) => calls_eq (K := K) (xs := [_, _]) e
  refine p32 (k := 0) (h1 := h) ?_ rfl (.refl _)
  simp [f32, c1]

theorem keepsB_of {ln r : List Nat} (hk : KeepsR ln r) (hl : r.length ≤ 4000) : keepsB ln (nI r) = true := by
  obtain ⟨h1, h2, h3⟩ := hk
  unfold keepsB isRoundP
  rw [toNat_nI, winsB_iff.2 h3, Bool.and_true, Bool.and_eq_true, decide_eq_true_iff, List.all_eq_true]
  refine ⟨⟨by rw [List.length_map]; exact List.length_pos_iff.2 h1, by simpa using hl⟩, fun x hx => ?_⟩
  obtain ⟨y, hy, rfl⟩ := List.mem_map.1 hx
  have := h2 y hy
  simp
  omega

theorem prod_4000 {ln : List Nat} (ht : tasksP (nI ln) = true) : prodN ln ≤ 4000 := by
  simp only [tasksP, Bool.and_eq_true, decide_eq_true_eq, prodP_nI] at ht
  have := ht.2
  omega

theorem keqv4 (a b : Bool) (K : Bool → Option R) : eqv Try.prog 4 (.bool a) (.bool b) K = K (a == b) := by
  have : binOp Try.prog .eql 4 (.bool a) (.bool b) = some (.bool (a == b)) := by kernel_rfl
  unfold eqv
  rw [this]

theorem s8 {v0 v1 : Value} {l rd : List Int} {h : H} (hl : SlR h 3 1 v0 (cellsI l)) (hr : SlR h 3 1 v1 (cellsI rd)) : ∃ h', rn 8 #[v0, v1] h = some (.bool true, h') := by
  suffices hh : ∃ h', f8 rn 0 v0 v1 h = some (.bool true, h') by
    obtain ⟨h', e⟩ := hh
    exact ⟨_, t8 e⟩
  obtain ⟨a1, h1, q1, x1, z1⟩ := s18 hl
  have c1 := fun (K : Value → H → Option (Value × H)) => calls_eq (K := K) (xs := [_]) q1
  cases ht : tasksP l with
  | false =>
    have ht14 : tasksP (l.take 14) = false := by rw [tasks_take]; exact ht
    have c2 := fun (K : Value → H → Option (Value × H)) => calls_eq (K := K) (xs := [_]) (s17_bad z1 ht14)
    obtain ⟨a2, h3, q3, x3, z3⟩ := s18 (hl.ext x1)
    obtain ⟨a3, h4, q4, x4, z4⟩ := s30 (hr.ext (x1.trans x3))
    have c3 := fun (K : Value → H → Option (Value × H)) => calls_eq (K := K) (xs := [_]) q3
    have c4 := fun (K : Value → H → Option (Value × H)) => calls_eq (K := K) (xs := [_]) q4
    have c5 := fun (K : Value → H → Option (Value × H)) => calls_eq (K := K) (xs := [_, _]) (s29_bad (v1 := a3) (z3.ext x4) ht14)
    have c6 := fun (K : Value → H → Option (Value × H)) => calls_eq (K := K) (xs := [_]) (s21 (hl.ext ((x1.trans x3).trans x4)))
    exact ⟨h4, by simp [f8, c1, c2, c3, c4, c5, c6, ht, k19]⟩
  | true =>
    have htI := tasks_I ht
    obtain ⟨ln, rfl, htk⟩ := tasks_ln ht
    have hlt : ∀ {T : Type} (x y : T), True := fun _ _ => trivial
    rw [htk] at z1
    obtain ⟨v4, e4, h2, q2, x2, hR⟩ := s17 z1 ht
    have c2 := fun (K : Value → H → Option (Value × H)) => calls_eq (K := K) (xs := [_]) q2
    have x12 := x1.trans x2
    obtain ⟨a2, h3, q3, x3, z3⟩ := s18 (hl.ext x12)
    rw [htk] at z3
    obtain ⟨a3, h4, q4, x4, z4⟩ := s30 (hr.ext (x12.trans x3))
    have x14 := (x12.trans x3).trans x4
    have c3 := fun (K : Value → H → Option (Value × H)) => calls_eq (K := K) (xs := [_]) q3
    have c4 := fun (K : Value → H → Option (Value × H)) => calls_eq (K := K) (xs := [_]) q4
    have e29 := s29 (z3.ext x4) ht z4
    rw [keeps_take] at e29
    have c5 := fun (K : Value → H → Option (Value × H)) => calls_eq (K := K) (xs := [_, _]) e29
    have c6 := fun (K : Value → H → Option (Value × H)) => calls_eq (K := K) (xs := [_]) (s21 (hl.ext x14))
    have c7 := fun (K : Value → H → Option (Value × H)) => calls_eq (K := K) (xs := [_, _]) (s31 (hl.ext x14) htI (hr.ext x14))
    have c8 := fun (K : Value → H → Option (Value × H)) => calls_eq (K := K) (xs := [_]) (s32 (hl.ext x14) htI)
    rcases hR with ⟨h0, rfl, rfl⟩ | ⟨hneg, rfl, r, hsr, hkr, hrl⟩
    · have hn0 : ¬ lifeF ln (beg ln) < 0 := by omega
      exact ⟨h4, by simp [f8, c1, c2, c3, c4, c5, c6, ht, c7, keqv4, k19, c8, hn0]⟩
    · have hn0 : lifeF ln (beg ln) < 0 := by omega
      have e31 := s31 (hl.ext x14) htI (hsr.ext (x3.trans x4))
      rw [keepsB_of hkr (by have := prod_4000 ht; omega)] at e31
      have c9 := fun (K : Value → H → Option (Value × H)) => calls_eq (K := K) (xs := [_, _]) e31
      exact ⟨h4, by simp [f8, c1, c2, c3, c4, c5, c6, ht, c7, keqv4, k19, c8, hn0, c9]⟩

end Go.AM
