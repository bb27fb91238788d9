/- The document's search for a timetable. -/
import Derived.Test.YtnhmgokjijlhbaaTf
namespace Go.AM
open Go.Proofs

variable {R : Type}

attribute [local simp] nx_eq nx_new nx_set blk_new blk_set asI_int asK_int asB_bool asP_ptr al_eq bx_eq len_slice onE_exit onE_ret onR_ret Value.cells d3 d4 d22 d27 d45 d47 d50 d52 d67 d88 d89 w22 w27 cell_new cell_set rd_new rd_set off eq lt le ifB gv out eqF1 eqF2 eqF3 eqF4 eqF5 eqF6 eqF7 eqF8 ext20 ext21

/-- A slice without room behind it, and one element more. -/
theorem SlR.cut {P : Program} {h : H} {e t t' : TypeId} {s : Nat} {v : Value} {l : List (List Value)} (a : SlR h e s v l) (hu : P.underlying t = some (.slice e)) (hs : size? P e = some s) (ht : okApp P t e s = true) (ht' : okApp P t' e s = true) :
    ∃ v1, (∀ {T : Type} (K : Value → Option T), sli P h t v none (some (.int .i64 l.length)) (some (.int .i64 l.length)) K = K v1) ∧
      ∀ (h9 : H) (y : Value) (x : List Value), Ext h h9 → SlR h9 e s y [x] → l.length + 1 < 2 ^ 30 → ∃ v2, (∀ {T : Type} (K : Value → H → Option T), AM.app P h9 t t' v1 y K = K v2 (h9.new (.row (l.flatten ++ x) e true))) ∧
        SlR (h9.new (.row (l.flatten ++ x) e true)) e s v2 (l ++ [x]) := by
  obtain ⟨i, z, h1, h2, h3, h4, h5, h6, h7⟩ := okApp_spec ht
  obtain ⟨_, _, h1', _⟩ := okApp_spec ht'
  have h30 : (2:Nat) ^ 30 < U := by decide
  have hxl : ∀ x ∈ l, x.length = s := by
    intro x hx'
    cases a with
    | nil => cases hx'
    | at_ _ _ _ _ _ hx =>
      obtain ⟨i, hi, rfl⟩ := List.getElem_of_mem hx'
      exact (hx i _ (List.getElem?_eq_getElem hi)).1
  have fin : ∀ (h9 : H) (y : Value) (x : List Value), SlR h9 e s y [x] → l.length + 1 < 2 ^ 30 → SlR (h9.new (.row (l.flatten ++ x) e true)) e s (.slice (some ⟨h9.nx, 0, none⟩) (l.length + 1) (U + (l.length + 1))) (l ++ [x]) := by
    intro h9 y x hy hm
    have hx : x.length = s := by
      cases hy with
      | at_ _ _ _ _ _ hx => exact (hx 0 x rfl).1
    have := AqR.at_ (lo := 0) (h := h9.new (.row (l.flatten ++ x) e true)) (e := e) (s := s) (b := h9.nx) (c := U + (l.length + 1)) (l := l ++ [x]) (Nat.zero_le _) (Nat.lt_succ_self _) (by rw [blk_new_self]; simp) (by
      intro y hy
      rcases List.mem_append.1 hy with hy | hy
      · exact hxl y hy
      · simp at hy; rw [hy]; exact hx) (by simpa using hm) (.inl (by simp))
    have := this.slR
    rw [List.length_append] at this
    exact this
  have e1 : ∀ m n : Nat, m ≤ n → bound (some (.int .i64 (m : Int))) n n = some m := by
    intro m n hmn
    simp only [bound]
    rw [if_pos ⟨by omega, by omega⟩]
    simp
  have src1 : ∀ (h9 : H) (y : Value) (x : List Value), SlR h9 e s y [x] → srcCells s y h9 = some x ∧ AM.lenOf y = some 1 := fun h9 y x hy => ⟨hy.src h6, by simpa using hy.lenOf⟩
  cases a with
  | nil =>
    refine ⟨.slice none 0 0, fun K => ?_, fun h9 y x _ hy hm => ⟨_, fun K => ?_, fin h9 y x hy hm⟩⟩
    · simp only [List.length_nil, Int.natCast_zero]
      have : bound (some (.int .i64 (0 : Int))) 0 0 = some 0 := rfl
      simp [sli, slice, hu, hs, this, bound]
    · obtain ⟨s1, s2⟩ := src1 h9 y x hy
      unfold AM.app append
      simp only [h1, h1', h2, h3, s2, h4, s1, Option.bind_some]
      rw [if_pos ⟨h5, h6, h7⟩, if_neg (by omega), if_pos (by omega)]
      rfl
  | @at_ b o c cs own l hb hr hk hc hl hx =>
    have a : SlR h e s (.slice (some ⟨b, o, none⟩) l.length c) l := .at_ hb hr hk hc hl hx
    refine ⟨.slice (some ⟨b, o, none⟩) l.length l.length, fun K => ?_, fun h9 y x x9 hy hm => ⟨.slice (some ⟨h9.nx, 0, none⟩) (l.length + 1) (U + (l.length + 1)), fun K => ?_, fin h9 y x hy hm⟩⟩
    · simp only [sli, slice, hu, hr, hs]
      rw [if_pos ⟨trivial, hc, rfl⟩]
      have b1 : bound (some (.int .i64 (l.length : Int))) (AM.capK c) (AM.capK c) = some l.length := e1 _ _ hk
      have b2 : bound (some (.int .i64 (l.length : Int))) l.length l.length = some l.length := e1 _ _ (Nat.le_refl _)
      have b3 : bound none l.length 0 = some 0 := rfl
      simp only [Option.bind_some, b1, b2, b3, Option.isSome_some, true_or, if_true, Nat.zero_mul, Nat.add_zero, Nat.sub_zero, ite_self]
    · obtain ⟨s1, s2⟩ := src1 h9 y x hy
      have hrd := (a.ext x9).srcAll h6
      simp only [srcCells] at hrd
      have hck : AM.capK l.length = l.length := by unfold AM.capK; rw [if_pos (by omega)]
      unfold AM.app append
      simp only [h1, h1', h2, h3, s2, h4, s1, Option.bind_some]
      rw [if_pos ⟨h5, h6, h7⟩]
      simp only [hck]
      rw [if_neg (by omega), if_neg (by omega), if_pos (by omega), if_pos (by omega)]
      have : (if l.length = 0 then some [] else h9.rd b o (l.length * s)) = some l.flatten := by
        rw [← hrd]
        by_cases h0 : l.length = 0
        · rw [if_pos h0, if_pos (by rw [h0, Nat.zero_mul])]
        · rw [if_neg h0, if_neg (by have := Nat.mul_ne_zero h0 (show s ≠ 0 by omega); exact this)]
      rw [this]
      rfl

/-- Has a span been kept, whose last event is the newest? -/
def okT (p : Int) (b : List Int) (c : Sp) : Bool :=
  !(decide (c.a < b.length) && decide (c.b < b.length) && (decide (c.a = (b.length : Int) - 1) || decide (c.b = (b.length : Int) - 1))) || keepP p c (atI b c.a) (atI b c.b)

/-- The document's search. -/
def timedP (p : Int) (l : List Sp) : Nat → List Int → Option (List Int)
  | 0, b => if l.all (okT p b) = true then some b else none
  | d + 1, b => if l.all (okT p b) = true then (if b = [] then timedP p l d [0] else (List.range p.toNat).findSome? fun (x : Nat) => timedP p l d (b ++ [(x : Int)])) else none

theorem nil22e {h : H} {v : Value} {r : List Int} (hs : SlR h 3 1 v (cellsI r)) (hr : r ≠ []) (K : Bool → Option R) : eqv Try.prog 22 v (.slice none 0 0) K = K false := by
  generalize hL : cellsI r = L at hs
  cases hs with
  | nil => exact absurd (by simpa using hL) hr
  | at_ => unfold eqv; rw [some22]

theorem timedP_len {p : Int} {l : List Sp} : ∀ (d : Nat) (b r : List Int), timedP p l d b = some r → r.length = b.length + d := by
  intro d
  induction d with
  | zero =>
    intro b r h
    simp only [timedP] at h
    split at h
    · cases h; rfl
    · cases h
  | succ d ih =>
    intro b r h
    simp only [timedP] at h
    split at h
    · split at h
      · rename_i hb
        have := ih _ _ h
        subst hb
        simp at this ⊢
        omega
      · obtain ⟨x, hx, h2⟩ := List.exists_of_findSome?_eq_some h
        have := ih _ _ h2
        simp at this
        omega
    · cases h

theorem getS {h : H} {v : Value} {b : List Int} (a : SlR h 3 1 v (cellsI b)) {i : Int} (h0 : 0 ≤ i) (h1 : i < b.length) (K : Value → Option R) : (six v i 1 fun x o => (h.cell x o).bind K) = K (iv (atI b i)) := by
  have hg : b[i.toNat]? = some (atI b i) := by
    unfold atI
    rw [List.getElem?_eq_getElem (by omega)]
    rfl
  exact a.c0 h0 (x := [iv (atI b i)]) (by simp [hg]) rfl K

theorem at_rng {p : Int} {b : List Int} (hr : ∀ x ∈ b, 0 ≤ x ∧ x < p) {i : Int} (h0 : 0 ≤ i) (h1 : i < b.length) : 0 ≤ atI b i ∧ atI b i < p := by
  have hg : b[i.toNat]? = some (atI b i) := by
    unfold atI
    rw [List.getElem?_eq_getElem (by omega)]
    rfl
  exact hr _ (List.mem_of_getElem? hg)

theorem sp_of {p e : Int} {l : List Sp} (hv : tabOk p e l = true) {c : Sp} (hc : c ∈ l) : 0 ≤ c.a ∧ c.a < e ∧ 0 ≤ c.b ∧ c.b < e ∧ c.a ≠ c.b ∧ 0 ≤ c.lo ∧ c.lo ≤ 11 ∧ c.lo ≤ c.hi ∧ c.hi ≤ 22 := by
  simp only [tabOk, Bool.and_eq_true, List.all_eq_true] at hv
  have := hv.2 _ hc
  simp only [spOk, Bool.and_eq_true, decide_eq_true_iff] at this
  omega

set_option maxHeartbeats 1000000 in
theorem t_loop {p e : Int} {sl v : Value} {l : List Sp} {b : List Int} {h g : H} (hv : tabOk p e l = true) (hs : SlR g 89 4 sl (l.map Sp.cells)) (hb : SlR g 3 1 v (cellsI b)) (hr : ∀ x ∈ b, 0 ≤ x ∧ x < p) (hbl : b.length ≤ 6)
    (hn : h.nx < g.nx) (hbg : g.blk h.nx = some (.row [iv p, iv e, sl] 47 true)) :
    ∃ ee ws' g', lpGo (f83_l1 rn 200010 v h b.length sl l.length) 200010 [.slice none 0 0, iv 0] g = some (ee, ws', g') ∧ Ext g g' ∧
      ((l.all (okT p b) = true ∧ ee = .exit 0 ∧ ws' = [.slice none 0 0, iv l.length]) ∨ (l.all (okT p b) = false ∧ ee = .ret ∧ ∃ a, ws' = [.slice none 0 0, a])) := by
  obtain ⟨hp1, hp12⟩ := tab_p hv
  have hl12 : l.length ≤ 12 := by simp [tabOk] at hv; omega
  obtain ⟨g', xg, hl⟩ := lp_list (σ := Unit) (ρ := Nat) (F := f83_l1 rn 200010 v h b.length sl l.length) (k := 200010) (l := l) (h1 := g) (fun i (_ : Unit) => [.slice none 0 0, iv i])
    (fun i c s => if okT p b c = true then .inl s else .inr i) (fun _ _ => True) (fun _ => .ret) (fun i => [.slice none 0 0, iv i]) 0 (fun _ => [.slice none 0 0, iv l.length]) (ws := [.slice none 0 0, iv 0]) (s0 := ()) rfl trivial (by omega) (by simp)
    (fun _ h2 _ _ => by simp [f83_l1])
    (by
      intro i c _ g1 hc _ x1
      have hi := (List.getElem?_eq_some_iff.1 hc).1
      have hadd : add .i64 (i : Int) 1 = (i : Int) + 1 := add64 (by omega) (by omega)
      have hsub : sub .i64 (b.length : Int) 1 = (b.length : Int) - 1 := sub64 (by omega) (by omega)
      have x2 := (Ext.refl g1).fresh 89 [iv 0, iv 0, iv 0, iv 0] c.cells
      have hcb := blk_fresh g1 89 [iv 0, iv 0, iv 0, iv 0] c.cells
      refine ⟨fun _ _ => trivial, g1.fresh 89 [iv 0, iv 0, iv 0, iv 0] c.cells, x2, ?_⟩
      have hb7 := hb.ext (x1.trans x2)
      have hbg7 := ((x1.trans x2).blk _ hn).trans hbg
      unfold f83_l1
      rw [show AM.gv [.slice none 0 0, iv i] 1 = iv i from rfl, asI_int, lt_t (by omega), ifB_true, asK_int, (hs.ext x1).ldA ag89 sz89 (by omega) (x := c.cells) (by simp [hc]),
        al_st (zs := [iv 0, iv 0, iv 0, iv 0]) (xs := c.cells) sz89 rfl rfl]
      generalize g1.fresh 89 [iv 0, iv 0, iv 0, iv 0] c.cells = h7 at *
      simp only [Sp.cells] at hcb
      have hok := sp_of hv (List.mem_of_getElem? hc)
      by_cases ha : c.a < b.length
      · by_cases hb' : c.b < b.length
        · have ea := fun (K : Value → Option (Ex × List Value × H)) => getS hb7 (i := c.a) (by omega) ha K
          have eb := fun (K : Value → Option (Ex × List Value × H)) => getS hb7 (i := c.b) (by omega) hb' K
          have hra := at_rng hr (i := c.a) (by omega) ha
          have hrb := at_rng hr (i := c.b) (by omega) hb'
          have c84 := fun (K : Value → H → Option (Ex × List Value × H)) => calls_eq (K := K) (xs := [.agg #[iv p, iv e, sl], .agg #[iv c.a, iv c.b, iv c.lo, iv c.hi], iv (atI b c.a), iv (atI b c.b)]) (s84 (e := e) (sl := sl) (c := c) (h := h7) ⟨hp1, hp12⟩ (by omega) hra hrb)
          by_cases h1 : c.a = (b.length : Int) - 1
          · have hk : okT p b c = keepP p c (atI b c.a) (atI b c.b) := by simp [okT, h1]; omega
            have ha2 : (b.length : Int) - 1 < b.length := by omega
            rw [h1] at ea c84 hk
            cases hkk : okT p b c with
            | true =>
              rw [hk] at hkk
              simp [cell_of hcb, rd_of hcb, rd_of hbg7, hb', ha2, h1, hsub, ea, eb, c84, hkk, rnd, hadd]
            | false =>
              rw [hk] at hkk
              simp [cell_of hcb, rd_of hcb, rd_of hbg7, hb', ha2, h1, hsub, ea, eb, c84, hkk, rnd]
          · by_cases h2 : c.b = (b.length : Int) - 1
            · have hk : okT p b c = keepP p c (atI b c.a) (atI b c.b) := by simp [okT, h2, ha]; omega
              have hb2 : (b.length : Int) - 1 < b.length := by omega
              rw [h2] at eb c84 hk
              cases hkk : okT p b c with
              | true =>
                rw [hk] at hkk
                simp [cell_of hcb, rd_of hcb, rd_of hbg7, hb2, ha, h1, h2, hsub, ea, eb, c84, hkk, rnd, hadd]
              | false =>
                rw [hk] at hkk
                simp [cell_of hcb, rd_of hcb, rd_of hbg7, hb2, ha, h1, h2, hsub, ea, eb, c84, hkk, rnd]
            · have hk : okT p b c = true := by simp [okT, h1, h2]
              simp [cell_of hcb, ha, hb', h1, h2, hsub, hk, rnd, hadd]
        · have hk : okT p b c = true := by simp [okT, hb']
          simp [cell_of hcb, ha, hb', hk, rnd, hadd]
      · have hk : okT p b c = true := by simp [okT, ha]
        simp [cell_of hcb, ha, hk, rnd, hadd])
  rcases itL_all (ok := fun _ c => okT p b c) (g := fun i _ => i) (s0 := ()) l 0 with ⟨⟨r, h1⟩, j, x, hx, h2⟩ | ⟨h1, h2⟩
  · rw [h1] at hl
    exact ⟨_, _, g', hl, xg, .inr ⟨by rw [List.all_eq_false]; exact ⟨x, List.mem_of_getElem? hx, by simpa using h2⟩, rfl, _, rfl⟩⟩
  · rw [h1] at hl
    refine ⟨_, _, g', hl.1, xg, .inl ⟨?_, rfl, rfl⟩⟩
    rw [List.all_eq_true]
    intro x hx
    obtain ⟨j, hj, rfl⟩ := List.getElem_of_mem hx
    exact h2 j _ (List.getElem?_eq_getElem hj)

/-- One step of the search. -/
theorem t_step {p e : Int} {sl v : Value} {l : List Sp} {b : List Int} {h g : H} (x : Int) (hx : 0 ≤ x ∧ x < p) (hs : SlR g 89 4 sl (l.map Sp.cells)) (hb : SlR g 3 1 v (cellsI b)) (hbl : b.length ≤ 6)
    (hn : h.nx < g.nx) (hbg : g.blk h.nx = some (.row [iv p, iv e, sl] 47 true)) {d : Nat}
    (ih : ∀ (v : Value) (h : H), SlR h 89 4 sl (l.map Sp.cells) → SlR h 3 1 v (cellsI (b ++ [x])) → ∃ v' h', rn 83 #[.agg #[iv p, iv e, sl], v] h = some (v', h') ∧ Ext h h' ∧ ((timedP p l d (b ++ [x]) = none ∧ v' = .slice none 0 0) ∨ ∃ r, timedP p l d (b ++ [x]) = some r ∧ SlR h' 3 1 v' (cellsI r))) :
    ∃ v' g', Ext g g' ∧ ((timedP p l d (b ++ [x]) = none ∧ f83_l2 rn 200010 v h b.length p [.slice none 0 0, iv x] g = (if b = [] then some (.exit 2, [.slice none 0 0, iv x], g') else some (.normal, [.slice none 0 0, iv (add .i64 x 1)], g'))) ∨
      ∃ r, timedP p l d (b ++ [x]) = some r ∧ SlR g' 3 1 v' (cellsI r) ∧ f83_l2 rn 200010 v h b.length p [.slice none 0 0, iv x] g = some (.ret, [v', iv x], g')) := by
  obtain ⟨v1, e1, ecut⟩ := hb.cut under22 sz3 app22 app22
  have x9 := Ext.new g (.row [iv x] 3 true)
  have hy : SlR (g.new (.row [iv x] 3 true)) 3 1 (.slice (some ⟨g.nx, 0, none⟩) 1 1) [[iv x]] := by
    have := AqR.lit (lo := 0) (h := g) (e := 3) (s := 1) (n := 1) (l := [[iv x]]) (Nat.zero_le _) rfl (by simp) (by simp)
    exact this.slR
  obtain ⟨v2, e2, hs2⟩ := ecut _ _ _ x9 hy (by simp; omega)
  have x10 := Ext.new (g.new (.row [iv x] 3 true)) (.row ((cellsI b).flatten ++ [iv x]) 3 true)
  have hc2 : cellsI b ++ [[iv x]] = cellsI (b ++ [x]) := by simp
  rw [hc2] at hs2
  obtain ⟨v', g', e83, x', hres⟩ := ih v2 _ (hs.ext (x9.trans x10)) hs2
  have xx := (x9.trans x10).trans x'
  have c83 := fun (K : Value → H → Option (Ex × List Value × H)) => calls_eq (K := K) (xs := [.agg #[iv p, iv e, sl], v2]) e83
  have hrd : (g.rd h.nx 0 3) = some [iv p, iv e, sl] := by rw [rd_of hbg]; rfl
  have hck : ∀ (z : Option (Ex × List Value × H)), ck (freq h.nx g.nx (same (g.new (.row [iv x] 3 true)) g)) z = z := fun z => by
    simp [freq, hn, same, H.new, AM.ck]
  have hck2 : ∀ (z : Option (Ex × List Value × H)), ck (freq h.nx (g.new (.row [iv x] 3 true)).nx (same ((g.new (.row [iv x] 3 true)).new (.row ((cellsI b).flatten ++ [iv x]) 3 true)) (g.new (.row [iv x] 3 true)))) z = z := fun z => by
    have : h.nx < g.nx + 1 := by omega
    simp [freq, nx_new, this, same, H.new, AM.ck]
  have hck3 : ∀ (z : Option (Ex × List Value × H)), ck (fres v g.nx (same (g.new (.row [iv x] 3 true)) g)) z = z := fun z => by
    generalize hL : cellsI b = L at hb
    cases hb with
    | nil => rfl
    | at_ hb' => simp [fres, hb', same, H.new, AM.ck]
  have hlen : (cellsI b).length = b.length := by simp
  rw [hlen] at e1
  have hF : f83_l2 rn 200010 v h b.length p [.slice none 0 0, iv x] g = (eqv Try.prog 22 v' (.slice none 0 0) fun q2 => ifB (!q2) (AM.out .ret [v', iv x] g') (ifB (AM.eq b.length 0) (AM.out (.exit 2) [.slice none 0 0, iv x] g') (AM.out .normal [.slice none 0 0, iv (add .i64 x 1)] g'))) := by
    unfold f83_l2
    rw [show AM.gv [.slice none 0 0, iv x] 1 = iv x from rfl, asI_int, lt_t (by omega), ifB_true, nx_eq, d47, hrd]
    simp only [Option.bind_some]
    rw [e1, bls_some (bls22 x g), nx_eq, hck3, hck, e2, nx_eq, hck2]
    refine (c83 _).trans ?_
    rfl
  rcases hres with ⟨hno, rfl⟩ | ⟨r, hyes, hsr⟩
  · refine ⟨.slice none 0 0, g', xx, .inl ⟨hno, ?_⟩⟩
    rw [hF]
    unfold eqv
    rw [nil22]
    by_cases hb0 : b = []
    · subst hb0; simp
    · have : ¬ (b.length : Int) = 0 := by have := List.length_pos_iff.2 hb0; omega
      simp [hb0]
  · refine ⟨v', g', xx, .inr ⟨r, hyes, hsr, ?_⟩⟩
    have hr : r ≠ [] := by
      have := timedP_len _ _ _ hyes
      intro e
      rw [e, List.length_append] at this
      simp only [List.length_nil, List.length_cons] at this
      omega
    rw [hF, nil22e hsr hr]
    simp

set_option maxHeartbeats 1000000 in
theorem s83 {p e : Int} {sl : Value} {l : List Sp} (hv : tabOk p e l = true) : ∀ (d : Nat) (b : List Int) (v : Value) (h : H), (b.length + d : Int) = e → SlR h 89 4 sl (l.map Sp.cells) → SlR h 3 1 v (cellsI b) → (∀ x ∈ b, 0 ≤ x ∧ x < p) →
    ∃ v' h', rn 83 #[.agg #[iv p, iv e, sl], v] h = some (v', h') ∧ Ext h h' ∧ ((timedP p l d b = none ∧ v' = .slice none 0 0) ∨ ∃ r, timedP p l d b = some r ∧ SlR h' 3 1 v' (cellsI r)) := by
  obtain ⟨hp1, hp12⟩ := tab_p hv
  have he6 : 1 ≤ e ∧ e ≤ 6 := by simp only [tabOk, Bool.and_eq_true, decide_eq_true_iff] at hv; omega
  intro d
  induction d with
  | zero =>
    intro b v h hd hs hb hr
    have x1 := Ext.new h (.row [iv p, iv e, sl] 47 true)
    have hb1 : (h.new (.row [iv p, iv e, sl] 47 true)).blk h.nx = some (.row [iv p, iv e, sl] 47 true) := blk_new_self _ _
    have hn1 : h.nx < (h.new (.row [iv p, iv e, sl] 47 true)).nx := Nat.lt_succ_self _
    have kbx : ∀ (K : H → Option (Value × H)), bx h 47 (.agg #[iv p, iv e, sl]) K = K (h.new (.row [iv p, iv e, sl] 47 true)) := fun K => rfl
    have hs1 := hs.ext x1
    have hb1' := hb.ext x1
    generalize h.new (.row [iv p, iv e, sl] 47 true) = h1 at *
    have hbn : ∀ {T : Type} (K : Int → Option T), len v K = K (b.length : Int) := fun K => by rw [hb.len]; simp
    have hsn : ∀ {T : Type} (K : Int → Option T), len sl K = K (l.length : Int) := fun K => by rw [hs.len]; simp
    obtain ⟨ee, ws', g', hlp, xg, hres⟩ := t_loop hv hs1 hb1' hr (by omega) hn1 hb1
    have hbg := (xg.blk _ hn1).trans hb1
    have hbe : (b.length : Int) = e := by omega
    rcases hres with ⟨hall, rfl, rfl⟩ | ⟨hall, rfl, a, rfl⟩
    · refine ⟨v, g', x83 (k := 200010) ?_ hb.notR, x1.trans xg, .inr ⟨b, by simp [timedP, hall], hb1'.ext xg⟩⟩
      unfold f83
      rw [kbx]
      simp only [hbn, nx_eq, d45, cell_of hb1, AM.off, List.getElem?_cons_succ, List.getElem?_cons_zero, Option.bind_some, hsn]
      refine (lp_eq hlp).trans ?_
      simp [cell_of hbg, hbe]
    · refine ⟨.slice none 0 0, g', x83 (k := 200010) ?_ rfl, x1.trans xg, .inl ⟨by simp [timedP, hall], rfl⟩⟩
      unfold f83
      rw [kbx]
      simp only [hbn, nx_eq, d45, cell_of hb1, AM.off, List.getElem?_cons_succ, List.getElem?_cons_zero, Option.bind_some, hsn]
      refine (lp_eq hlp).trans ?_
      simp
  | succ d ih =>
    intro b v h hd hs hb hr
    have x1 := Ext.new h (.row [iv p, iv e, sl] 47 true)
    have hb1 : (h.new (.row [iv p, iv e, sl] 47 true)).blk h.nx = some (.row [iv p, iv e, sl] 47 true) := blk_new_self _ _
    have hn1 : h.nx < (h.new (.row [iv p, iv e, sl] 47 true)).nx := Nat.lt_succ_self _
    have kbx : ∀ (K : H → Option (Value × H)), bx h 47 (.agg #[iv p, iv e, sl]) K = K (h.new (.row [iv p, iv e, sl] 47 true)) := fun K => rfl
    have hs1 := hs.ext x1
    have hb1' := hb.ext x1
    generalize h.new (.row [iv p, iv e, sl] 47 true) = h1 at *
    have hbn : ∀ {T : Type} (K : Int → Option T), len v K = K (b.length : Int) := fun K => by rw [hb.len]; simp
    have hsn : ∀ {T : Type} (K : Int → Option T), len sl K = K (l.length : Int) := fun K => by rw [hs.len]; simp
    obtain ⟨ee, ws', g', hlp, xg, hres⟩ := t_loop hv hs1 hb1' hr (by omega) hn1 hb1
    have hbg := (xg.blk _ hn1).trans hb1
    have hbe : ¬ (b.length : Int) = e := by omega
    rcases hres with ⟨hall, rfl, rfl⟩ | ⟨hall, rfl, a, rfl⟩
    · have ih' : ∀ x : Int, 0 ≤ x ∧ x < p → ∀ (v : Value) (h : H), SlR h 89 4 sl (l.map Sp.cells) → SlR h 3 1 v (cellsI (b ++ [x])) → ∃ v' h', rn 83 #[.agg #[iv p, iv e, sl], v] h = some (v', h') ∧ Ext h h' ∧ ((timedP p l d (b ++ [x]) = none ∧ v' = .slice none 0 0) ∨ ∃ r, timedP p l d (b ++ [x]) = some r ∧ SlR h' 3 1 v' (cellsI r)) :=
        fun x hx v h hs hb => ih (b ++ [x]) v h (by simp; omega) hs hb (fun y hy => by
          rcases List.mem_append.1 hy with h | h
          · exact hr y h
          · simp at h; omega)
      have hng : h.nx < g'.nx := by have := xg.nx; omega
      have hstart : ∀ (ee : Ex) (ws3 : List Value) (g2 : H), lpGo (f83_l2 rn 200010 v h b.length p) 200010 [.slice none 0 0, iv 0] g' = some (ee, ws3, g2) →
          f83 rn 200010 (.agg #[iv p, iv e, sl]) v h = onE ee 2 (some ((.slice none 0 0), g2)) (onR ee (some (AM.gv ws3 0, g2))) := by
        intro ee ws3 g2 hl
        unfold f83
        rw [kbx]
        simp only [hbn, nx_eq, d45, cell_of hb1, AM.off, List.getElem?_cons_succ, List.getElem?_cons_zero, Option.bind_some, hsn]
        refine (lp_eq hlp).trans ?_
        rw [onE_exit, if_pos rfl]
        simp only [d3, cell_of hbg, List.getElem?_cons_succ, List.getElem?_cons_zero, Option.bind_some, asI_int, AM.eq, nx_eq, Nat.zero_add]
        rw [show ((b.length : Int) == e) = false by simpa using hbe, ifB_false]
        exact (lp_eq hl).trans rfl
      by_cases hb0 : b = []
      · obtain ⟨v', g2, x2, hres⟩ := t_step (h := h) 0 (by omega) (hs1.ext xg) (hb1'.ext xg) (by omega) hng hbg (ih' 0 (by omega))
        have htd : timedP p l (d + 1) b = timedP p l d (b ++ [0]) := by
          subst hb0
          simp only [timedP]
          rw [if_pos hall, if_pos trivial]
          rfl
        rw [htd]
        rcases hres with ⟨hno, hF⟩ | ⟨r, hyes, hsr, hF⟩
        · rw [if_pos hb0] at hF
          refine ⟨.slice none 0 0, g2, x83 (k := 200010) ?_ rfl, (x1.trans xg).trans x2, .inl ⟨hno, rfl⟩⟩
          rw [hstart _ _ _ (lpGo_exit hF)]
          simp
        · refine ⟨v', g2, x83 (k := 200010) ?_ hsr.notR, (x1.trans xg).trans x2, .inr ⟨r, hyes, hsr⟩⟩
          rw [hstart _ _ _ (lpGo_ret hF)]
          simp
      · have htd : timedP p l (d + 1) b = (List.range p.toNat).findSome? fun (x : Nat) => timedP p l d (b ++ [(x : Int)]) := by
          simp only [timedP]
          rw [if_pos hall, if_neg hb0]
        obtain ⟨ee, ws3, g2, hl2, hres⟩ := lp_rel (σ := Unit) (ρ := List Int) (F := f83_l2 rn 200010 v h b.length p) (k := 200010) (l := List.range p.toNat)
          (fun _ (x : Nat) _ => stO (timedP p l d (b ++ [(x : Int)])))
          (fun i _ ws g2 => Ext g' g2 ∧ ws = [.slice none 0 0, iv i])
          (fun r ee ws g2 => ee = .ret ∧ Ext g' g2 ∧ ∃ v' a, ws = [v', a] ∧ SlR g2 3 1 v' (cellsI r)) 2 (ws := [.slice none 0 0, iv 0]) (h := g') (s0 := ())
          ⟨.refl _, rfl⟩ (by simp; omega)
          (by
            rintro _ ws g2 ⟨_, rfl⟩
            rw [List.length_range, show ((p.toNat : Nat) : Int) = p by omega]
            simp [f83_l2])
          (by
            rintro i x _ ws g2 hx ⟨x2, rfl⟩
            have hi := (List.getElem?_eq_some_iff.1 hx).1
            rw [List.length_range] at hi
            rw [List.getElem?_range hi] at hx
            cases hx
            have hadd : add .i64 (i : Int) 1 = (i : Int) + 1 := add64 (by omega) (by omega)
            obtain ⟨v', g3, x3, hres⟩ := t_step (h := h) (i : Int) (by omega) ((hs1.ext xg).ext x2) ((hb1'.ext xg).ext x2) (by omega) (by have := x2.nx; omega) ((x2.blk _ hng).trans hbg) (ih' i (by omega))
            rcases hres with ⟨hno, hF⟩ | ⟨r, hyes, hsr, hF⟩
            · rw [if_neg hb0, hadd] at hF
              rw [hno]
              simp only [stO]
              exact ⟨_, _, g3, hF, rfl, x2.trans x3, rfl⟩
            · rw [hyes]
              simp only [stO]
              exact ⟨_, _, g3, hF, by simp, rfl, x2.trans x3, v', _, rfl, hsr⟩)
        rw [itL_find, ← htd] at hres
        cases ht : timedP p l (d + 1) b with
        | none =>
          rw [ht] at hres
          simp only [stO] at hres
          obtain ⟨rfl, x2, rfl⟩ := hres
          refine ⟨.slice none 0 0, g2, x83 (k := 200010) ?_ rfl, (x1.trans xg).trans x2, .inl ⟨rfl, rfl⟩⟩
          rw [hstart _ _ _ hl2]
          simp
        | some r =>
          rw [ht] at hres
          simp only [stO] at hres
          obtain ⟨_, rfl, x2, v', a, rfl, hsr⟩ := hres
          refine ⟨v', g2, x83 (k := 200010) ?_ hsr.notR, (x1.trans xg).trans x2, .inr ⟨r, rfl, hsr⟩⟩
          rw [hstart _ _ _ hl2]
          simp
    · refine ⟨.slice none 0 0, g', x83 (k := 200010) ?_ rfl, x1.trans xg, .inl ⟨by simp [timedP, hall], rfl⟩⟩
      unfold f83
      rw [kbx]
      simp only [hbn, nx_eq, d45, cell_of hb1, AM.off, List.getElem?_cons_succ, List.getElem?_cons_zero, Option.bind_some, hsn]
      refine (lp_eq hlp).trans ?_
      simp

end Go.AM
