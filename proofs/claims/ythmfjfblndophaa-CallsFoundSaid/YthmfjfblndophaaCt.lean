/- Check: a way in time; and it is one of all ways. -/
import Derived.Test.YthmfjfblndophaaCs
namespace Go.AM
open Go.Proofs

variable {R : Type}

attribute [local simp] nx_eq nx_new nx_set blk_new blk_set asI_int asK_int asB_bool asP_ptr al_eq bx_eq len_slice onE_exit onE_ret onR_ret Value.cells d3 d29 d31 d56 d24 d59 d22 d25 w3 cell_new cell_set rd_new rd_set off eq lt le ifB gv out eqF1 eqF2 eqF3 eqF4 eqF5 eqF6 eqF7 eqF8 ext20 ext21 k42 k72 k73 k74

/-- One step along a way: where, when, whom it met; none: it is no way. -/
def stepP (l : List Cl) (t : Int) (s : Int × Int × Int) (i : Int) : Option (Int × Int × Int) :=
  if i < 0 ∨ (l.length : Int) ≤ i ∨ s.1 = t then none
  else match l[i.toNat]? with
    | none => none
    | some c => if goes c s.1 s.2.1 s.2.2 = true then some (c.oth s.1, c.t, withP s.2.2 (c.oth s.1)) else none

/-- Is a slice a way on from somewhere? -/
def goW (l : List Cl) (t : Int) : List Int → Int × Int × Int → Bool
  | [], s => decide (s.1 = t)
  | i :: w, s => match stepP l t s i with
    | none => false
    | some s' => goW l t w s'

def checkP (l : List Cl) (s t : Int) (w : List Int) : Bool := goW l t w (s, 0, shl .i64 1 s)

theorem goW_itL (l : List Cl) (t : Int) : ∀ (w : List Int) (i : Nat) (s : Int × Int × Int), goW l t w s = match itL (ρ := Unit) (fun _ x s => match stepP l t s x with | some s' => .inl s' | none => .inr ()) w i s with
    | .inl s' => decide (s'.1 = t)
    | .inr _ => false := by
  intro w
  induction w with
  | nil => intro i s; rfl
  | cons x w ih =>
    intro i s
    simp only [goW, itL]
    cases stepP l t s x with
    | none => rfl
    | some s' => exact ih (i + 1) s'

theorem s27 {n s t : Int} {sl v1 : Value} {l : List Cl} {way : List Int} {h : H} (hs : SlR h 56 3 sl (l.map Cl.cells)) (hw : SlR h 3 1 v1 (cellsI way)) :
    rn 27 #[.agg #[iv n, sl], iv s, iv t, v1] h = some (.tuple #[.bool (pairP n l s t && checkP l s t way), iv (if pairP n l s t = true then 0 else 2)], h) := by
  have hlen := hw.lt62
  rw [List.length_map] at hlen
  have x1 : Ext h (h.new (.row [iv n, sl] 31 true)) := .new _ _
  have b1 : (h.new (.row [iv n, sl] 31 true)).blk h.nx = some (.row [iv n, sl] 31 true) := blk_new_self _ _
  have n1 : h.nx < (h.new (.row [iv n, sl] 31 true)).nx := Nat.lt_succ_self _
  have hs1 := hs.ext x1
  have hw1 := hw.ext x1
  have key : ∃ h1, Ext h h1 ∧ f27 rn (way.length + 1) (.agg #[iv n, sl]) s t v1 h = some (.tuple #[.bool (pairP n l s t && checkP l s t way), iv (if pairP n l s t = true then 0 else 2)], h1) := by
    by_cases hp : pairP n l s t = true
    · obtain ⟨⟨⟨hv, hsn⟩, htn⟩, hst⟩ : ((validP n l = true ∧ (0 ≤ s ∧ s < n)) ∧ (0 ≤ t ∧ t < n)) ∧ s ≠ t := by simpa [pairP] using hp
      obtain ⟨hn1, hn7, hl24, hok⟩ := validP_ok hv
      obtain ⟨e, ws', h', hl, hq⟩ := lp_rel (σ := Int × Int × Int) (ρ := Unit) (F := f27_l1 rn (way.length + 1) t v1 h way.length) (k := way.length + 1) (l := way) (fun _ x s => match stepP l t s x with | some s' => .inl s' | none => .inr ())
        (fun i st ws g => Ext (h.new (.row [iv n, sl] 31 true)) g ∧ (0 ≤ st.1 ∧ st.1 < n) ∧ ∃ x y, ws = [x, y, iv st.1, iv st.2.1, iv st.2.2, iv i])
        (fun _ e ws g => Ext (h.new (.row [iv n, sl] 31 true)) g ∧ e = .ret ∧ gv ws 0 = .bool false ∧ gv ws 1 = iv 0) 0 (ws := [.bool false, iv 0, iv s, iv 0, iv (shl .i64 1 s), iv 0]) (h := h.new (.row [iv n, sl] 31 true)) (s0 := (s, 0, shl .i64 1 s))
        ⟨.refl _, hsn, _, _, rfl⟩ (by omega)
        (by
          rintro st ws g ⟨_, _, x, y, rfl⟩
          simp [f27_l1])
        (by
          rintro i j ⟨p, tm, seen⟩ ws g hj ⟨hx, hp, x, y, rfl⟩
          simp only at hp
          have hi := (List.getElem?_eq_some_iff.1 hj).1
          have e1 : ∀ (K : Value → Option (Ex × List Value × H)), (six v1 (i : Int) 1 fun b o => (g.cell b o).bind K) = K (iv j) := fun K => (hw1.ext hx).c0 (by omega) (x := [iv j]) (by simp [hj]) rfl K
          have hbx : g.blk h.nx = some (.row [iv n, sl] 31 true) := (hx.blk _ n1).trans b1
          have hadd : add .i64 (i : Int) 1 = (i : Int) + 1 := add64 (by omega) (by omega)
          by_cases hbad : j < 0 ∨ (l.length : Int) ≤ j ∨ p = t
          · have hst0 : stepP l t (p, tm, seen) j = none := by unfold stepP; rw [if_pos hbad]
            refine ⟨.ret, [.bool false, iv 0, iv p, iv tm, iv seen, iv i], g, ?_, ?_⟩
            · simp [f27_l1, hi, e1, cell_of hbx, hs.len]
              grind
            · rw [hst0]
              exact ⟨by simp, hx, rfl, rfl, rfl⟩
          · simp only [not_or, Int.not_lt, Int.not_le] at hbad
            obtain ⟨hb1, hb2, hb3⟩ := hbad
            have hc : l[j.toNat]? = some (l[j.toNat]'(by omega)) := List.getElem?_eq_getElem (by omega)
            generalize l[j.toNat]'(by omega) = c at *
            have hcok := hok _ _ hc
            have y7 := (Ext.refl g).fresh 56 [iv 0, iv 0, iv 0] c.cells
            have hcb := blk_fresh g 56 [iv 0, iv 0, iv 0] c.cells
            have n7 : (g.fresh 56 [iv 0, iv 0, iv 0] c.cells).nx = g.nx + 1 := rfl
            have e2 : ∀ (K : Value → Option (Ex × List Value × H)), (six sl j 3 fun b o => (g.rd b o 3).bind fun l => K (.agg l.toArray)) = K c.val := fun K => (hs1.ext hx).cA hb1 (x := c.cells) (by simp [hc]) K
            have hst1 : stepP l t (p, tm, seen) j = if goes c p tm seen = true then some (c.oth p, c.t, withP seen (c.oth p)) else none := by
              unfold stepP
              rw [if_neg (by simp only [not_or, Int.not_lt, Int.not_le]; exact ⟨hb1, hb2, hb3⟩), hc]
            have hF : f27_l1 rn (way.length + 1) t v1 h way.length [x, y, iv p, iv tm, iv seen, iv i] g = if goes c p tm seen = true then some (.normal, [x, y, iv (c.oth p), iv c.t, iv (withP seen (c.oth p)), iv ((i : Int) + 1)], g.fresh 56 [iv 0, iv 0, iv 0] c.cells)
                else some (.ret, [.bool false, iv 0, iv p, iv tm, iv seen, iv i], g.fresh 56 [iv 0, iv 0, iv 0] c.cells) := by
              unfold f27_l1
              rw [show gv [x, y, iv p, iv tm, iv seen, iv i] 5 = iv i from rfl, show gv [x, y, iv p, iv tm, iv seen, iv i] 2 = iv p from rfl, show gv [x, y, iv p, iv tm, iv seen, iv i] 3 = iv tm from rfl,
                show gv [x, y, iv p, iv tm, iv seen, iv i] 4 = iv seen from rfl, show gv [x, y, iv p, iv tm, iv seen, iv i] 0 = x from rfl, show gv [x, y, iv p, iv tm, iv seen, iv i] 1 = y from rfl]
              rw [asI_int, lt_t (by omega), ifB_true, asK_int, (hw1.ext hx).ld0 ag3 (by omega) (x := [iv j]) (by simp [hj]) (y := iv j) rfl, asI_int, lt_f (by omega), ifB_false, nx_eq, d29, cell_of hbx, show [iv n, sl][off 0 1]? = some sl from rfl, Option.bind_some, hs.len, List.length_map,
                le_f (by omega), ifB_false, asI_int, eq_f hb3, ifB_false, d29, cell_of hbx, show [iv n, sl][off 0 1]? = some sl from rfl, Option.bind_some, (hs1.ext hx).ldA ag56 sz56 hb1 (x := c.cells) (by simp [hc]), al_st (zs := [iv 0, iv 0, iv 0]) (xs := c.cells) sz56 rfl rfl]
              generalize g.fresh 56 [iv 0, iv 0, iv 0] c.cells = h7 at *
              simp only [Cl.cells] at hcb
              have hck : freq g.nx h7.nx (same h7 h7) = true := by simp [freq, same]; omega
              by_cases g_h : c.has p = true
              · have hoth := oth_ok hcok g_h
                have hcalc := oth_calc (by omega) hcok g_h
                simp [cell_of hcb, rd_of hcb, g_h, hcalc, nn_ge hoth.1, hck, ck, hadd, goes, inP, withP]
                grind
              · simp [rd_of hcb, g_h, goes]
            rw [hF, hst1]
            by_cases hg : goes c p tm seen = true
            · rw [if_pos hg, if_pos hg]
              have hoth := oth_ok hcok (by simp only [goes, Bool.and_eq_true] at hg; exact hg.1.2)
              exact ⟨_, _, _, rfl, rfl, hx.trans y7, ⟨hoth.1, hoth.2.1⟩, x, y, rfl⟩
            · rw [if_neg hg, if_neg hg]
              exact ⟨_, _, _, rfl, by simp, hx.trans y7, rfl, rfl, rfl⟩)
      have hgo := goW_itL l t way 0 (s, 0, shl .i64 1 s)
      have hd1 : decide (0 ≤ s ∧ s < n) = true := decide_eq_true hsn
      have hd2 : decide (0 ≤ t ∧ t < n) = true := decide_eq_true htn
      cases hit : itL (ρ := Unit) (fun _ x s => match stepP l t s x with | some s' => .inl s' | none => .inr ()) way 0 (s, 0, shl .i64 1 s) with
      | inl st =>
        rw [hit] at hq hgo
        obtain ⟨rfl, hx, hp', x, y, rfl⟩ := hq
        refine ⟨h', x1.trans hx, ?_⟩
        simp [f27, k71 hs1, hv, hsn, htn, hst, nn_ge hsn.1, hw.len, lp_eq hl, hp, checkP, hgo]
        exact Bool.eq_iff_iff.2 (by simp)
      | inr r =>
        rw [hit] at hq hgo
        obtain ⟨_, hx, rfl, hg0, hg1⟩ := hq
        simp only [gv] at hg0 hg1
        refine ⟨h', x1.trans hx, ?_⟩
        simp [f27, k71 hs1, hv, hsn, htn, hst, nn_ge hsn.1, hw.len, lp_eq hl, hp, checkP, hgo]
        rw [List.getD_eq_getElem?_getD] at hg0 hg1
        exact ⟨hg0, hg1⟩
    · refine ⟨_, x1, ?_⟩
      have hp0 : pairP n l s t = false := by simpa using hp
      rw [hp0]
      simp only [pairP, Bool.and_eq_false_iff] at hp0
      cases hv : validP n l with
      | false => simp [f27, k71 hs1, hv]
      | true =>
        simp [f27, k71 hs1, hv]
        grind
  obtain ⟨h1, e1, e2⟩ := key
  exact p27 e2 rfl e1

end Go.AM
