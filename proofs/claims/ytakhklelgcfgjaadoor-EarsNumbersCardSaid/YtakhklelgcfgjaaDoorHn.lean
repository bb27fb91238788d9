/- EarsNumbers: the whole. -/
import Derived.Test.YtakhklelgcfgjaaDoorHm
namespace Go.AM
open Go.Proofs

variable {R : Type}

attribute [local simp] nx_eq nx_new nx_set blk_new blk_set asI_int asK_int asB_bool asP_ptr al_eq bx_eq len_slice onE_exit onE_ret onR_ret Value.cells cell_new cell_set rd_new rd_set off eq lt le ifB gv out ext20 ext21

theorem setL_bit {i : Nat} : ∀ (m : List Nat) (s : Nat), (m.foldl (fun s x => s ||| 2 ^ x) s).testBit i = true ↔ s.testBit i = true ∨ i ∈ m := by
  intro m
  induction m with
  | nil => intro s; simp
  | cons x m ih =>
    intro s
    rw [List.foldl_cons, ih, or_bit, List.mem_cons, Bool.or_eq_true, decide_eq_true_iff]
    constructor
    · rintro ((h | h) | h)
      · exact .inl h
      · exact .inr (.inl h.symm)
      · exact .inr (.inr h)
    · rintro (h | h | h)
      · exact .inl (.inl h)
      · exact .inl (.inr h.symm)
      · exact .inr h

/-- A list that is no longer than a list of different elements, and has them all, has each once. -/
theorem nodup_of_cover : ∀ (m L : List Nat), L.Nodup → (∀ x ∈ L, x ∈ m) → m.length ≤ L.length → m.Nodup := by
  intro m
  induction m with
  | nil => intro L _ _ _; simp
  | cons x m ih =>
    intro L hL hs hl
    rw [List.nodup_cons]
    by_cases hx : x ∈ m
    · exfalso
      have := len_le (F := fun y => y) (l := L) (l' := m) hL (fun y hy => by
        have := hs y hy
        rw [List.mem_cons] at this
        rcases this with rfl | h
        · exact hx
        · exact h) (fun _ _ _ _ e => e)
      simp at hl
      omega
    · refine ⟨hx, ih (L.erase x) (hL.erase x) (fun y hy => ?_) ?_⟩
      · rw [hL.mem_erase_iff] at hy
        have := hs y hy.2
        rw [List.mem_cons] at this
        rcases this with h | h
        · exact absurd h hy.1
        · exact h
      · have := List.le_length_erase (l := L) (a := x)
        simp at hl
        omega

theorem set_nodup {g : List Nat} {m : List Nat} (hm : ∀ x ∈ m, x < g.length) (hl : m.length = g.length) : setL m = allN g ↔ m.Nodup := by
  constructor
  · intro h
    refine nodup_of_cover m (List.range g.length) List.nodup_range (fun x hx => ?_) (by simp [hl])
    have h1 : (allN g).testBit x = true := by rw [allN_bit]; exact decide_eq_true (List.mem_range.1 hx)
    rw [← h] at h1
    rcases (setL_bit m 0).1 h1 with h2 | h2
    · simp at h2
    · exact h2
  · intro h
    apply Nat.eq_of_testBit_eq
    intro i
    rw [Bool.eq_iff_iff, allN_bit, decide_eq_true_iff]
    unfold setL
    rw [setL_bit]
    constructor
    · rintro (h1 | h1)
      · simp at h1
      · exact hm i h1
    · intro hi
      refine .inr (Classical.byContradiction fun hc => ?_)
      have := len_le (F := fun y => y) (l := i :: m) (l' := List.range g.length) (List.nodup_cons.2 ⟨hc, h⟩) (fun y hy => by
        rw [List.mem_cons] at hy
        rcases hy with rfl | hy
        · exact List.mem_range.2 hi
        · exact List.mem_range.2 (hm y hy)) (fun _ _ _ _ e => e)
      simp at this
      omega

theorem chk_doc {g : List Nat} (l : List Int) : chkP g l = docP g l := by
  unfold chkP docP orderB
  cases hall : l.all (nodeB g) with
  | false => rfl
  | true =>
    obtain ⟨_, hmn⟩ := nat_list hall
    by_cases hl : l.length = g.length
    · have := set_nodup hmn (by rw [List.length_map]; exact hl)
      rw [decide_eq_true hl]
      by_cases hs : setL (l.map Int.toNat) = allN g
      · rw [decide_eq_true hs, decide_eq_true (this.1 hs)]; rfl
      · rw [decide_eq_false hs, decide_eq_false (fun h => hs (this.2 h))]; rfl
    · rw [decide_eq_false hl]; simp

theorem chk_take {g : List Nat} (hg : GrN g) (l : List Int) : chkP g (l.take 16) = docP g l := by
  by_cases hl : l.length ≤ 16
  · rw [List.take_of_length_le hl, chk_doc]
  · have hlen := hg.len
    have h1 : chkP g (l.take 16) = false := by
      unfold chkP
      rw [show decide ((l.take 16).length = g.length) = false by rw [decide_eq_false_iff_not, List.length_take]; omega]
      simp
    have h2 : docP g l = false := by
      unfold docP orderB
      rw [show decide (l.length = g.length) = false by rw [decide_eq_false_iff_not]; omega]
      simp
    rw [h1, h2]

set_option maxHeartbeats 1000000 in
theorem s7s (hawake : ∀ h, rn 20 #[] h = some (.bool true, h)) {h : H} {v w : Value} {s t : Int} {l L : List Int} (hs : SlR h 3 1 v (cellsI l)) (hL : SlR h 3 1 w (cellsI L)) : ∃ h', rn 7 #[v, iv s, iv t, w] h = some (.bool true, h') := by
  have c20 := fun (g : H) (K : Value → H → Option (Value × H)) => calls_eq (K := K) (xs := []) (hawake g)
  obtain ⟨v1, h1, e18, x1, hs1⟩ := s18 hs
  have c18 := fun (K : Value → H → Option (Value × H)) => calls_eq (K := K) (xs := [v]) e18
  by_cases hval : validG l = true
  · obtain ⟨g, rfl, hg⟩ := valid_nat hval
    have hlen := hg.len
    have htk : (g.map Int.ofNat).take 14 = g.map Int.ofNat := List.take_of_length_le (by have := hg.len; simp; omega)
    rw [htk, cellsN_eq] at hs1
    -- what Number answers
    have num : ∃ v4 n2 h2, rn 34 #[v1, iv s, iv t] h1 = some (.tuple #[v4, iv n2], h2) ∧ Exw h1 h2 ∧
        ((askB g s t = false ∧ v4 = .slice none 0 0 ∧ n2 = 2) ∨ (∃ a b : Nat, s = (a : Int) ∧ t = (b : Int) ∧ a < g.length ∧ b < g.length ∧ adj g a b = true ∧
          ((doubleP g = false ∧ v4 = .slice none 0 0 ∧ n2 = 5) ∨ (doubleP g = true ∧ n2 = 0 ∧ ∃ r, Gr g b (2 ^ a) r ∧ SlR h2 3 1 v4 (cellsN (a :: r)))))) := by
      cases hask : askB g s t with
      | false => exact ⟨_, _, _, s34_ask hg hval hs1 hask, .refl _, .inl ⟨rfl, rfl, rfl⟩⟩
      | true =>
        unfold askB at hask
        rw [Bool.and_eq_true, Bool.and_eq_true] at hask
        obtain ⟨⟨q1, q2⟩, q3⟩ := hask
        obtain ⟨a, rfl, ha⟩ := nodeB_nat q1
        obtain ⟨b, rfl, hb⟩ := nodeB_nat q2
        rw [Int.toNat_natCast, Int.toNat_natCast] at q3
        cases hd : doubleP g with
        | false => exact ⟨_, _, _, s34_single hg hval hs1 ha hb q3 hd, .refl _, .inr ⟨a, b, rfl, rfl, ha, hb, q3, .inl ⟨rfl, rfl, rfl⟩⟩⟩
        | true =>
          obtain ⟨v', h', r, e1, x1, hr, hsr⟩ := s34 hg hval hs1 ha hb q3 hd
          exact ⟨v', 0, h', e1, x1, .inr ⟨a, b, rfl, rfl, ha, hb, q3, .inr ⟨rfl, rfl, r, hr, hsr⟩⟩⟩
    obtain ⟨v4, n2, h2, e34, x2, hcase⟩ := num
    have c34 := fun (K : Value → H → Option (Value × H)) => calls_eq (K := K) (xs := [v1, iv s, iv t]) e34
    obtain ⟨v6, h3, e18b, x3, hs6⟩ := s18 (hs.ext (x1.tr x2).toExt)
    rw [htk, cellsN_eq] at hs6
    have c18b := fun (K : Value → H → Option (Value × H)) => calls_eq (K := K) (xs := [v]) e18b
    have x123 := (x1.tr x2).tr x3
    obtain ⟨v7, h4, e36, x4, hs7⟩ := s36 (hL.ext x123.toExt)
    have c36 := fun (K : Value → H → Option (Value × H)) => calls_eq (K := K) (xs := [w]) e36
    have x14 := x123.tr x4
    have c35 := fun (K : Value → H → Option (Value × H)) => calls_eq (K := K) (xs := [v6, v7]) (s35 hg hval (hs6.ext x4.toExt) hs7 (by rw [List.length_take]; omega))
    have hsv := hs.ext x14.toExt
    have c19 := fun (K : Value → H → Option (Value × H)) => calls_eq (K := K) (xs := [v]) (s19 hsv)
    have c38 := fun (z : Int) (K : Value → H → Option (Value × H)) => calls_eq (K := K) (xs := [v, iv z]) (s38 (z := z) hsv)
    rw [cellsN_eq] at hsv
    have c37 := fun (K : Value → H → Option (Value × H)) => calls_eq (K := K) (xs := [v, w]) (s37 hg hsv (hL.ext x14.toExt))
    have c39 := fun (K : Value → H → Option (Value × H)) => calls_eq (K := K) (xs := [v]) (s39 hg hsv)
    rw [chk_take hg] at c35
    have hnode : ∀ z : Int, (decide (0 ≤ z) && decide (z < ((g.map Int.ofNat).length : Int))) = nodeB g z := fun z => by rw [List.length_map]; rfl
    have start : ∀ r, (ifB (!nodeB g s) (
            len v4 fun n5 =>
            ifB (AM.eq n5 0) (
              some ((.bool (AM.eq n2 2)), h4)) (
              some ((.bool false), h4))) (
            ifB (!nodeB g t) (
              len v4 fun n6 =>
              ifB (AM.eq n6 0) (
                some ((.bool (AM.eq n2 2)), h4)) (
                some ((.bool false), h4))) (
              six v s 1 fun b0 b1 =>
              ld Tryd.prog h4 3 b0 b1 fun v17 =>
              asI .i64 v17 fun n7 =>
              nn t (
                ifB (AM.eq (AM.and .i64 (AM.shr .i64 n7 t) 1) 0) (
                  len v4 fun n8 =>
                  ifB (AM.eq n8 0) (
                    some ((.bool (AM.eq n2 2)), h4)) (
                    some ((.bool false), h4))) (
                  ifB (!doubleP g) (
                    len v4 fun n9 =>
                    ifB (AM.eq n9 0) (
                      some ((.bool (AM.eq n2 5)), h4)) (
                      some ((.bool false), h4))) (
                    calls rn h4 41 [v, (.int .i64 s), (.int .i64 t)] fun v19 h13 =>
                    calls rn h13 40 [v4, v19] fun v20 h14 =>
                    asB v20 fun q9 =>
                    ifB q9 (
                      some ((.bool (AM.eq n2 0)), h14)) (
                      some ((.bool false), h14)))))))) = r → f7 rn 0 v s t w h = r := by
      intro r hr
      unfold f7
      rw [c18, c34, ext20, ext21, asI_int, c18b, c36, c35, ext20, asB_bool, ext21, asI_int, c19, asB_bool, hval, show (!true) = false from rfl, ifB_false, c37, asB_bool, keqv4, beq_self_eq_true, show (!true) = false from rfl, ifB_false,
        show (!AM.eq (0 : Int) 0) = false from rfl, ifB_false, c20, asB_bool, show (!true) = false from rfl, ifB_false, c38, asB_bool, hnode, c38, asB_bool, hnode]
      simp only [c39, asB_bool]
      exact hr
    rcases hcase with ⟨hask, rfl, rfl⟩ | ⟨a, b, rfl, rfl, ha, hb, hab, hd⟩
    · refine ⟨_, t7 (k := 0) (v := .bool true) (h1 := h4) (start _ ?_)⟩
      unfold askB at hask
      cases hns : nodeB g s with
      | false => rfl
      | true =>
        rw [show (!true) = false from rfl, ifB_false]
        cases hnt : nodeB g t with
        | false => rfl
        | true =>
          obtain ⟨a, rfl, ha⟩ := nodeB_nat hns
          obtain ⟨b, rfl, hb⟩ := nodeB_nat hnt
          rw [hns, hnt, Bool.and_self, Bool.true_and, Int.toNat_natCast, Int.toNat_natCast] at hask
          have e2 : ∀ (K : Value → Option (Value × H)), (six v (a : Int) 1 fun b o => ld Tryd.prog h4 3 b o K) = K (iv (nb g a : Nat)) := fun K => by
            simp only [d3]; exact getN hsv ha K
          rw [show (!true) = false from rfl, ifB_false, e2, asI_int, nn_ge (show (0 : Int) ≤ (b : Int) by omega), adj_bit hg.toGrB (by omega), hask]
          rfl
    · have e2 : ∀ (K : Value → Option (Value × H)), (six v (a : Int) 1 fun b o => ld Tryd.prog h4 3 b o K) = K (iv (nb g a : Nat)) := fun K => by
        simp only [d3]; exact getN hsv ha K
      have nd : ∀ {a : Nat}, a < g.length → nodeB g (a : Int) = true := fun {a} h => by
        unfold nodeB; rw [decide_eq_true (by omega), decide_eq_true (by omega)]; rfl
      have go : ∀ r, (ifB (!doubleP g) (
                    len v4 fun n9 =>
                    ifB (AM.eq n9 0) (
                      some ((.bool (AM.eq n2 5)), h4)) (
                      some ((.bool false), h4))) (
                    calls rn h4 41 [v, (.int .i64 (a : Int)), (.int .i64 (b : Int))] fun v19 h13 =>
                    calls rn h13 40 [v4, v19] fun v20 h14 =>
                    asB v20 fun q9 =>
                    ifB q9 (
                      some ((.bool (AM.eq n2 0)), h14)) (
                      some ((.bool false), h14)))) = r → f7 rn 0 v a b w h = r := by
        intro r hr
        refine start r ?_
        rw [nd ha, show (!true) = false from rfl, ifB_false, nd hb, show (!true) = false from rfl, ifB_false, e2, asI_int, nn_ge (show (0 : Int) ≤ (b : Int) by omega), adj_bit hg.toGrB (by omega), hab, show AM.eq (if true = true then (1 : Int) else 0) 0 = false from rfl, ifB_false]
        exact hr
      rcases hd with ⟨hd, rfl, rfl⟩ | ⟨hd, rfl, r, hr, hsr⟩
      · refine ⟨_, t7 (k := 0) (v := .bool true) (h1 := h4) (go _ ?_)⟩
        rw [hd]
        rfl
      · have hab' : a ≠ b := by rintro rfl; rw [hg.irr] at hab; cases hab
        obtain ⟨v19, h5, r', e41, x5, hr', hsr'⟩ := s41 hg hsv ha hb hab' hd
        have := hr.det hr'
        subst this
        have e40 := s40 (hsr.ext ((x3.tr x4).tr x5).toExt) hsr'
        refine ⟨_, t7 (k := 0) (v := .bool true) (h1 := h5) (go _ ?_)⟩
        rw [hd, show (!true) = false from rfl, ifB_false, calls_eq (xs := [v, iv a, iv b]) e41, calls_eq (xs := [v4, v19]) e40, asB_bool, decide_eq_true rfl, ifB_true]
        rfl
  · have hv' : validG l = false := by simpa using hval
    have hv14 : validG (l.take 14) = false := by rw [validG_take]; exact hv'
    have c34 := fun (K : Value → H → Option (Value × H)) => calls_eq (K := K) (xs := [v1, iv s, iv t]) (s34_bad (s := s) (t := t) hv14 hs1)
    obtain ⟨v6, h3, e18b, x3, hs6⟩ := s18 (hs.ext x1.toExt)
    have c18b := fun (K : Value → H → Option (Value × H)) => calls_eq (K := K) (xs := [v]) e18b
    obtain ⟨v7, h4, e36, x4, hs7⟩ := s36 (hL.ext (x1.tr x3).toExt)
    have c36 := fun (K : Value → H → Option (Value × H)) => calls_eq (K := K) (xs := [w]) e36
    have c35 := fun (K : Value → H → Option (Value × H)) => calls_eq (K := K) (xs := [v6, v7]) (s35_bad (v1 := v7) hv14 (hs6.ext x4.toExt))
    have c19 := fun (K : Value → H → Option (Value × H)) => calls_eq (K := K) (xs := [v]) (s19 (hs.ext ((x1.tr x3).tr x4).toExt))
    refine ⟨_, t7 (k := 0) (v := .bool true) (h1 := h4) ?_⟩
    unfold f7
    rw [c18, c34, ext20, ext21, asI_int, c18b, c36, c35, ext20, asB_bool, ext21, asI_int, c19, asB_bool, hv']
    simp [c20]

theorem s7 (hawake : ∀ h, rn 20 #[] h = some (.bool true, h)) {h : H} {v w : Value} {z z1 : Int} {l L : List Int} (hs : SlR h 3 1 v (cellsI l)) (hL : SlR h 3 1 w (cellsI L)) : ∃ h', rn 7 #[v, iv z, iv z1, w] h = some (.bool true, h') :=
  s7s hawake hs hL

end Go.AM
