/- Foremost, Fewest and Fastest; the ways as the document tells them. -/
import Derived.Test.YthmfjfblndophaaCp
namespace Go.AM
open Go.Proofs

variable {R : Type}

attribute [local simp] nx_eq nx_new nx_set blk_new blk_set asI_int asK_int asB_bool asP_ptr al_eq bx_eq len_slice onE_exit onE_ret onR_ret Value.cells d3 d29 d31 d56 d24 d59 d22 d25 d121 d89 d61 w3 w25 w121 cell_new cell_set rd_new rd_set off eq lt le ifB gv out eqF1 eqF2 eqF3 eqF4 eqF5 eqF6 eqF7 eqF8 ext20 ext21 k42 k72 k73 k74

/-- The time of a call. -/
def timeP (l : List Cl) (i : Int) : Int := ((l[i.toNat]?).map (·.t)).getD 0
def arrP (l : List Cl) (w : List Int) : Int := timeP l (w.getLastD 0)
def leaveP (l : List Cl) (w : List Int) : Int := timeP l (w.headD 0)
def ofK (l : List Cl) : Nat → List Int → Int
  | 0, w => arrP l w
  | 1, w => w.length
  | _, w => sub .i64 (arrP l w) (leaveP l w)

theorem okW_last {l : List Cl} {w : List Int} (h : okW l w) : ∃ x c, w[w.length - 1]? = some x ∧ 0 ≤ x ∧ l[x.toNat]? = some c ∧ arrP l w = c.t ∧ 0 < w.length := by
  obtain ⟨h0, _, h1⟩ := h
  have hp : 0 < w.length := List.length_pos_iff.2 h0
  have hx : w[w.length - 1]? = some w[w.length - 1] := List.getElem?_eq_getElem (by omega)
  obtain ⟨a, b⟩ := h1 _ (List.getElem_mem (show w.length - 1 < w.length by omega))
  refine ⟨_, l[(w[w.length - 1]).toNat]'(by omega), hx, a, List.getElem?_eq_getElem _, ?_, hp⟩
  unfold arrP timeP
  rw [List.getLastD_eq_getLast?, List.getLast?_eq_getElem?, hx, Option.getD_some, List.getElem?_eq_getElem (by omega)]
  rfl

theorem okW_head {l : List Cl} {w : List Int} (h : okW l w) : ∃ x c, w[0]? = some x ∧ 0 ≤ x ∧ l[x.toNat]? = some c ∧ leaveP l w = c.t := by
  obtain ⟨h0, _, h1⟩ := h
  cases w with
  | nil => exact absurd rfl h0
  | cons x w =>
    obtain ⟨a, b⟩ := h1 x (by simp)
    refine ⟨x, l[x.toNat]'(by omega), rfl, a, List.getElem?_eq_getElem _, ?_⟩
    unfold leaveP timeP
    simp [show x.toNat < l.length by omega]

theorem s66 {n : Int} {sl wv : Value} {l : List Cl} {w : List Int} {g : H} (hs : SlR g 56 3 sl (l.map Cl.cells)) (hw : SlR g 3 1 wv (cellsI w)) (hok : okW l w) : rn 66 #[.agg #[iv n, sl], wv] g = some (iv (arrP l w), g) := by
  obtain ⟨x, c, h1, h2, h3, h4, h5⟩ := okW_last hok
  have hl := hok.2.1
  have x1 : Ext g (g.new (.row [iv n, sl] 31 true)) := .new _ _
  have b1 : (g.new (.row [iv n, sl] 31 true)).blk g.nx = some (.row [iv n, sl] 31 true) := blk_new_self _ _
  have hw1 := hw.ext x1
  have hs1 := hs.ext x1
  refine p66 (k := 0) (h1 := g.new (.row [iv n, sl] 31 true)) ?_ rfl x1
  rw [h4]
  generalize hG : g.new (.row [iv n, sl] 31 true) = g1 at *
  have e1 : ∀ (K : Value → Option (Value × H)), (six wv (sub .i64 (w.length : Int) 1) 1 fun b o => (g1.cell b o).bind K) = K (iv x) := fun K => by
    rw [sub64 (by omega) (by omega)]
    exact hw1.c0 (by omega) (x := [iv x]) (by rw [show ((w.length : Int) - 1).toNat = w.length - 1 by omega]; simp [h1]) rfl K
  have e2 : ∀ (K : Value → Option (Value × H)), (six sl x 3 fun b o => (g1.cell b (o + 2)).bind K) = K (iv c.t) := fun K => hs1.cF h2 (x := c.cells) (by simp [h3]) rfl K
  simp [f66, hG, cell_of b1, hw1.len, e1, e2]

theorem s69 {n : Int} {sl wv : Value} {l : List Cl} {w : List Int} {g : H} (hs : SlR g 56 3 sl (l.map Cl.cells)) (hw : SlR g 3 1 wv (cellsI w)) (hok : okW l w) : rn 69 #[.agg #[iv n, sl], wv] g = some (iv (leaveP l w), g) := by
  obtain ⟨x, c, h1, h2, h3, h4⟩ := okW_head hok
  have x1 : Ext g (g.new (.row [iv n, sl] 31 true)) := .new _ _
  have b1 : (g.new (.row [iv n, sl] 31 true)).blk g.nx = some (.row [iv n, sl] 31 true) := blk_new_self _ _
  have hw1 := hw.ext x1
  have hs1 := hs.ext x1
  refine p69 (k := 0) (h1 := g.new (.row [iv n, sl] 31 true)) ?_ rfl x1
  rw [h4]
  generalize hG : g.new (.row [iv n, sl] 31 true) = g1 at *
  have e1 : ∀ (K : Value → Option (Value × H)), (six wv 0 1 fun b o => (g1.cell b o).bind K) = K (iv x) := fun K => hw1.c0 (by omega) (x := [iv x]) (by simp [h1]) rfl K
  have e2 : ∀ (K : Value → Option (Value × H)), (six sl x 3 fun b o => (g1.cell b (o + 2)).bind K) = K (iv c.t) := fun K => hs1.cF h2 (x := c.cells) (by simp [h3]) rfl K
  simp [f69, hG, cell_of b1, e1, e2]

theorem s67 {wv : Value} {w : List Int} {g : H} (hw : SlR g 3 1 wv (cellsI w)) : rn 67 #[wv] g = some (iv w.length, g) := by
  refine p67 (k := 0) (h1 := g) ?_ rfl (.refl _)
  simp [f67, hw.len]

theorem s68 {n : Int} {sl wv : Value} {l : List Cl} {w : List Int} {g : H} {b : Nat} (hb : g.blk b = some (.row [iv n, sl] 31 true)) (hbn : b < g.nx) (hs : SlR g 56 3 sl (l.map Cl.cells)) (hw : SlR g 3 1 wv (cellsI w)) (hok : okW l w) :
    rn 68 #[wv, pt b 0] g = some (iv (sub .i64 (arrP l w) (leaveP l w)), g) := by
  refine p68 (k := 0) (h1 := g) ?_ rfl (.refl _)
  have c1 : ∀ (K : Value → H → Option (Value × H)), calls rn g 66 [.agg #[iv n, sl], wv] K = K (iv (arrP l w)) g := fun K => calls_eq (xs := [_, _]) (s66 hs hw hok)
  have c2 : ∀ (K : Value → H → Option (Value × H)), calls rn g 69 [.agg #[iv n, sl], wv] K = K (iv (leaveP l w)) g := fun K => calls_eq (xs := [_, _]) (s69 hs hw hok)
  simp [f68, rd_of hb, c1, c2, ck, freq, same, hbn]

/-- Foremost, Fewest, Fastest: 17, 19, 20. -/
theorem s17_bad {n s t : Int} {sl : Value} {l : List Cl} {h : H} (hs : SlR h 56 3 sl (l.map Cl.cells)) (hp : pairP n l s t = false) : ∃ h', rn 17 #[.agg #[iv n, sl], iv s, iv t] h = some (.tuple #[.slice none 0 0, iv 2], h') ∧ Ext h h' := by
  have x1 : Ext h (h.new (.row [iv n, sl] 31 true)) := .new _ _
  obtain ⟨h', e, x⟩ := s65_bad (ofv := .func (.func 66) #[.agg #[iv n, sl]] #[]) (hs.ext x1) rfl hp
  have hc := fun (K : Value → H → Option (Value × H)) => calls_eq (K := K) (xs := [_, _, _, _]) e
  exact ⟨h', x17 (k := 0) (by simp [f17, hc]) rfl, x1.trans x⟩
theorem s19_bad {n s t : Int} {sl : Value} {l : List Cl} {h : H} (hs : SlR h 56 3 sl (l.map Cl.cells)) (hp : pairP n l s t = false) : ∃ h', rn 19 #[.agg #[iv n, sl], iv s, iv t] h = some (.tuple #[.slice none 0 0, iv 2], h') ∧ Ext h h' := by
  have x1 : Ext h (h.new (.row [iv n, sl] 31 true)) := .new _ _
  obtain ⟨h', e, x⟩ := s65_bad (ofv := .func (.func 67) #[] #[]) (hs.ext x1) rfl hp
  have hc := fun (K : Value → H → Option (Value × H)) => calls_eq (K := K) (xs := [_, _, _, _]) e
  exact ⟨h', x19 (k := 0) (by simp [f19, hc]) rfl, x1.trans x⟩
theorem s20_bad {n s t : Int} {sl : Value} {l : List Cl} {h : H} (hs : SlR h 56 3 sl (l.map Cl.cells)) (hp : pairP n l s t = false) : ∃ h', rn 20 #[.agg #[iv n, sl], iv s, iv t] h = some (.tuple #[.slice none 0 0, iv 2], h') ∧ Ext h h' := by
  have x1 : Ext h (h.new (.row [iv n, sl] 31 true)) := .new _ _
  obtain ⟨h', e, x⟩ := s65_bad (ofv := .func (.func 68) #[] #[pt h.nx 0]) (hs.ext x1) rfl hp
  have hc := fun (K : Value → H → Option (Value × H)) => calls_eq (K := K) (xs := [_, _, _, _]) e
  exact ⟨h', x20 (k := 0) (by simp [f20, hc]) rfl, x1.trans x⟩

theorem BestR.plain {o : Option (List Int)} {v w : Value} {e : Int} {h : H} (b : BestR o v e h) : plainO (.tuple #[v, w]) = false := by
  cases o with
  | none => obtain ⟨rfl, _⟩ := b; rfl
  | some w' => exact b.1.notR2

theorem s17 {n s t : Int} {sl : Value} {l : List Cl} {h : H} (hs : SlR h 56 3 sl (l.map Cl.cells)) (hp : pairP n l s t = true) :
    ∃ v e h', rn 17 #[.agg #[iv n, sl], iv s, iv t] h = some (.tuple #[v, iv e], h') ∧ Ext h h' ∧ BestR (bestP (ofK l 0) l s t) v e h' := by
  have x1 : Ext h (h.new (.row [iv n, sl] 31 true)) := .new _ _
  obtain ⟨v, e, h', e1, x, b⟩ := s65 (ofv := .func (.func 66) #[.agg #[iv n, sl]] #[]) (ofP := ofK l 0) (hs.ext x1) hp rfl (fun g wv w xg hw hok => s66 (hs.ext (x1.trans xg)) hw hok)
  have hc := fun (K : Value → H → Option (Value × H)) => calls_eq (K := K) (xs := [_, _, _, _]) e1
  exact ⟨v, e, h', x17 (k := 0) (by simp [f17, hc]) b.plain, x1.trans x, b⟩
theorem s19 {n s t : Int} {sl : Value} {l : List Cl} {h : H} (hs : SlR h 56 3 sl (l.map Cl.cells)) (hp : pairP n l s t = true) :
    ∃ v e h', rn 19 #[.agg #[iv n, sl], iv s, iv t] h = some (.tuple #[v, iv e], h') ∧ Ext h h' ∧ BestR (bestP (ofK l 1) l s t) v e h' := by
  have x1 : Ext h (h.new (.row [iv n, sl] 31 true)) := .new _ _
  obtain ⟨v, e, h', e1, x, b⟩ := s65 (ofv := .func (.func 67) #[] #[]) (ofP := ofK l 1) (hs.ext x1) hp rfl (fun g wv w xg hw hok => s67 hw)
  have hc := fun (K : Value → H → Option (Value × H)) => calls_eq (K := K) (xs := [_, _, _, _]) e1
  exact ⟨v, e, h', x19 (k := 0) (by simp [f19, hc]) b.plain, x1.trans x, b⟩
theorem s20 {n s t : Int} {sl : Value} {l : List Cl} {h : H} (hs : SlR h 56 3 sl (l.map Cl.cells)) (hp : pairP n l s t = true) :
    ∃ v e h', rn 20 #[.agg #[iv n, sl], iv s, iv t] h = some (.tuple #[v, iv e], h') ∧ Ext h h' ∧ BestR (bestP (ofK l 2) l s t) v e h' := by
  have x1 : Ext h (h.new (.row [iv n, sl] 31 true)) := .new _ _
  obtain ⟨v, e, h', e1, x, b⟩ := s65 (ofv := .func (.func 68) #[] #[pt h.nx 0]) (ofP := ofK l 2) (hs.ext x1) hp rfl (fun g wv w xg hw hok => s68 ((xg.blk _ (Nat.lt_succ_self _)).trans (blk_new_self _ _)) (Nat.lt_of_lt_of_le (Nat.lt_succ_self _) xg.nx) (hs.ext (x1.trans xg)) hw hok)
  have hc := fun (K : Value → H → Option (Value × H)) => calls_eq (K := K) (xs := [_, _, _, _]) e1
  exact ⟨v, e, h', x20 (k := 0) (by simp [f20, hc]) b.plain, x1.trans x, b⟩

end Go.AM
