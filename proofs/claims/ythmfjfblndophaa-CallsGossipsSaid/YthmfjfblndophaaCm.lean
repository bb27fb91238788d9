/- Gossip, on the abstract machine. -/
import Derived.Test.YthmfjfblndophaaCl
namespace Go.AM
open Go.Proofs

variable {k : Nat} {R : Type}

attribute [local simp] nx_eq nx_new nx_set blk_new blk_set asI_int asK_int asB_bool asP_ptr al_eq bx_eq len_slice onE_exit onE_ret onR_ret Value.cells d3 d29 d31 d56 d24 d59 d22 d25 w3 cell_new cell_set rd_new rd_set off eq lt le ifB gv out eqF1 eqF2 eqF3 eqF4 eqF5 eqF6 eqF7 eqF8 ext20 ext21 k42 kbld31 kbld56 k22

/-- One call more, at the next time. -/
def addC (L : List Cl) (a b : Int) : List Cl := L ++ [⟨a, b, (L.length : Int) + 1⟩]

/-- What gossip holds while it is made. -/
structure GS (h0 : H) (lo : Nat) (g : H) (tb lb : Nat) (n : Int) (L : List Cl) : Prop where
  fr : Fr lo h0 g
  tbl : lo ≤ tb ∧ tb < g.nx
  lbl : lo ≤ lb ∧ lb < g.nx
  ne : tb ≠ lb
  tb_ : g.blk tb = some (.row [iv L.length] 3 true)
  sl : ∃ sv, g.blk lb = some (.row [iv n, sv] 31 true) ∧ AqR lo g 56 3 sv (L.map Cl.cells)

theorem s100 {h0 g : H} {lo tb lb : Nat} {n a b : Int} {L : List Cl} (gs : GS h0 lo g tb lb n L) (hL : L.length < 1000) (hlo : lo ≤ g.nx) :
    ∃ g', rn 100 #[iv a, iv b, pt tb 0, pt lb 0] g = some (undef, g') ∧ GS h0 lo g' tb lb n (addC L a b) ∧ g.nx ≤ g'.nx ∧ (∀ q, q < g.nx → q ≠ tb → q ≠ lb → (∀ c, g.blk q ≠ some (.row c 56 true)) → g'.blk q = g.blk q) := by
  obtain ⟨fr, tbl, lbl, ne, htb, sv, hlb, hap⟩ := gs
  have ht : wrc 1 g tb 0 (iv ((L.length : Int) + 1)) = some (g.set tb (.row [iv ((L.length : Int) + 1)] 3 true)) := by
    rw [wrc_one htb rfl rfl (by simp)]; rfl
  have a1 : AqR lo (g.set tb (.row [iv ((L.length : Int) + 1)] 3 true)) 56 3 sv (L.map Cl.cells) := hap.keep (Nat.le_refl _) fun q hq => blk_set_ne _ _ _ (by
    intro e; subst e
    have := (hap.blkOf hq).2.2
    rw [htb] at this
    simp at this)
  obtain ⟨v', h9, e9, a9, n9, k9, b9, hb9, hb9'⟩ := a1.push app29 app29 (bls29 ⟨a, b, (L.length : Int) + 1⟩) rfl rfl (by simp; omega) hlo
  have svt : blkOf sv ≠ some tb := fun e => by have := (hap.blkOf e).2.2; rw [htb] at this; simp at this
  have svl : blkOf sv ≠ some lb := fun e => by have := (hap.blkOf e).2.2; rw [hlb] at this; simp at this
  have hlb9 : h9.blk lb = some (.row [iv n, sv] 31 true) := (k9 lb lbl.2 svl).trans ((blk_set_ne _ _ _ (Ne.symm ne)).trans hlb)
  have htb9 : h9.blk tb = some (.row [iv ((L.length : Int) + 1)] 3 true) := (k9 tb tbl.2 svt).trans (blk_set_self _ _ _)
  have hw : wrc 1 h9 lb 1 v' = some (h9.set lb (.row [iv n, v'] 31 true)) := by rw [wrc_one hlb9 a9.cells.1 a9.cells.2 (by simp)]; rfl
  have n9' : g.nx ≤ h9.nx := n9
  refine ⟨h9.set lb (.row [iv n, v'] 31 true), x100 (k := 0) ?_ rfl, ⟨⟨?_, fun q hq => ?_⟩, ⟨tbl.1, ?_⟩, ⟨lbl.1, ?_⟩, ne, ?_, v', blk_set_self _ _ _, ?_⟩, n9', fun q hq h1 h2 h3 => ?_⟩
  · have hcl : ∀ o, g.cell tb o = [iv (L.length : Int)][o]? := fun o => cell_of htb
    have hcs : ∀ o, g.cell lb o = [iv n, sv][o]? := fun o => cell_of hlb
    have hadd : add .i64 (L.length : Int) 1 = (L.length : Int) + 1 := add64 (by omega) (by omega)
    simp [f100, hcl, hcs, hadd, ht, Ne.symm ne, ne, e9, w29, hw]
  · have := fr.nx; rw [nx_set]; omega
  · rw [blk_set_ne _ _ _ (by omega), k9 q (by rw [nx_set]; omega) (fun e => by have := (hap.blkOf e).1; omega), blk_set_ne _ _ _ (by omega)]
    exact fr.blk q hq
  · rw [nx_set]; omega
  · rw [nx_set]; omega
  · rw [blk_set_ne _ _ _ ne]
    simpa [addC] using htb9
  · have : (addC L a b).map Cl.cells = L.map Cl.cells ++ [[iv a, iv b, iv ((L.length : Int) + 1)]] := by simp [addC, Cl.cells]
    rw [this]
    exact a9.keep (by rw [nx_set]; exact Nat.le_refl _) fun q hq => blk_set_ne _ _ _ (by rw [hb9] at hq; cases hq; rw [nx_set] at hb9'; omega)
  · rw [blk_set_ne _ _ _ h2, k9 q hq (fun e => h3 _ (hap.blkOf e).2.2), blk_set_ne _ _ _ h1]

/-- Calls in a row, from the first person. -/
def chainP (m : Nat) : List Cl := (List.range m).foldl (fun L (i : Nat) => addC L ((i : Int) + 1 - 1) ((i : Int) + 1)) []
def starP (L : List Cl) (m : Nat) : List Cl := (List.range m).foldl (fun L (i : Nat) => addC L 0 ((i : Int) + 4)) L

def gossipP (n : Nat) : List Cl :=
  if n < 4 then (if n = 3 then addC (chainP (n - 1)) 0 1 else chainP (n - 1))
  else starP (addC (addC (addC (addC (starP [] (n - 4)) 0 1) 2 3) 0 2) 1 3) (n - 4)

theorem addC_len (L : List Cl) (a b : Int) : (addC L a b).length = L.length + 1 := by simp [addC]
theorem chain_len (m : Nat) : (chainP m).length = m := by
  induction m with
  | zero => rfl
  | succ m ih => unfold chainP at *; rw [List.range_succ, List.foldl_append]; simp only [List.foldl_cons, List.foldl_nil]; rw [addC_len, ih]
theorem star_len (L : List Cl) (m : Nat) : (starP L m).length = L.length + m := by
  induction m with
  | zero => rfl
  | succ m ih => unfold starP at *; rw [List.range_succ, List.foldl_append]; simp only [List.foldl_cons, List.foldl_nil]; rw [addC_len, ih]; omega

theorem s76 {n : Nat} (hn1 : 1 ≤ n) (hn : n ≤ 7) (h : H) : ∃ sv h', rn 76 #[iv n] h = some (.agg #[iv n, sv], h') ∧ Ext h h' ∧ AqR h.nx h' 56 3 sv ((gossipP n).map Cl.cells) := by
  let z31 : List Value := [.int .i64 0, .slice none 0 0]
  let h1 := h.new (.row z31 31 true)
  let h3 := h1.fresh 31 z31 [.int .i64 n, .slice none 0 0]
  let h5 := h3.fresh 3 [iv 0] [iv 0]
  have n5 : h5.nx = h.nx + 3 := rfl
  have x5 : Ext h h5 := (((Ext.refl h).new' _).fresh _ _ _).fresh _ _ _
  have g0 : h5.blk h.nx = some (.row z31 31 true) := by simp [h5, h3, h1, H.fresh]
  have g1 : h5.blk (h.nx + 1) = some (.row [.int .i64 n, .slice none 0 0] 31 true) := by simp [h5, h3, h1, H.fresh]
  have g2 : h5.blk (h.nx + 2) = some (.row [iv 0] 3 true) := by simp [h5, h3, h1, H.fresh]
  have gs5 : GS h h.nx h5 (h.nx + 2) (h.nx + 1) n [] := ⟨⟨x5.nx, x5.blk⟩, ⟨by omega, by omega⟩, ⟨by omega, by omega⟩, by omega, g2, _, g1, .nil⟩
  -- what is known all along
  let Inv : List Cl → H → Prop := fun L g => GS h h.nx g (h.nx + 2) (h.nx + 1) n L ∧ g.blk h.nx = some (.row z31 31 true) ∧ h.nx + 3 ≤ g.nx
  have i5 : Inv [] h5 := ⟨gs5, g0, by omega⟩
  have call : ∀ (L : List Cl) (g : H) (a b : Int), Inv L g → L.length < 1000 → ∃ g', rn 100 #[iv a, iv b, pt (h.nx + 2) 0, pt (h.nx + 1) 0] g = some (undef, g') ∧ Inv (addC L a b) g' := by
    intro L g a b ⟨gs, gz, gn⟩ hL
    obtain ⟨g', e, gs', hn', f'⟩ := s100 (a := a) (b := b) gs hL (by omega)
    exact ⟨g', e, gs', (f' h.nx (by omega) (by omega) (by omega) (by intro c e; rw [gz] at e; simp at e)).trans gz, by omega⟩
  have fin : ∀ (L : List Cl) (g : H), Inv L g → ∃ sv h', Ext h h' ∧ AqR h.nx h' 56 3 sv (L.map Cl.cells) ∧ ((g.rd (h.nx + 1) 0 2).bind fun l => (wrc 2 g h.nx 0 (.agg l.toArray)).bind fun h10 => (h10.rd h.nx 0 2).bind fun l => some (Value.agg l.toArray, h10)) = some (.agg #[iv n, sv], h') := by
    intro L g ⟨gs, gz, gn⟩
    obtain ⟨fr, tbl, lbl, ne, htb, sv, hlb, hap⟩ := gs
    have hst : wrc 2 g h.nx 0 (.agg #[iv n, sv]) = some (g.set h.nx (.row [iv n, sv] 31 true)) := by
      simp only [wrc, gz]
      rw [if_pos ⟨rfl, by simp [z31], by simp [Value.cells, hap.cells.2]; rfl⟩]
      rfl
    refine ⟨sv, g.set h.nx (.row [iv n, sv] 31 true), ⟨by rw [nx_set]; exact fr.nx, fun q hq => by rw [blk_set_ne _ _ _ (by omega)]; exact fr.blk q hq⟩, hap.keep (Nat.le_refl _) fun q hq => blk_set_ne _ _ _ (by intro e; subst e; have := (hap.blkOf hq).2.2; rw [gz] at this; simp at this), ?_⟩
    rw [rd_all (n := 2) hlb rfl, Option.bind_some]
    rw [show ([iv (n : Int), sv].toArray) = #[iv (n : Int), sv] from rfl, hst, Option.bind_some, rd_all (n := 2) (blk_set_self _ _ _) rfl]
    rfl
  have hF : ∃ sv h' k, f76 rn k n h = some (.agg #[iv n, sv], h') ∧ Ext h h' ∧ AqR h.nx h' 56 3 sv ((gossipP n).map Cl.cells) := by
    have loop : ∀ (F : List Value → H → Option (Ex × List Value × H)) (oj : Nat) (st : Int) (m : Nat) (ab : Nat → List Cl → List Cl) (L0 : List Cl) (g0 : H), m ≤ 10 → L0.length ≤ 20 → Inv L0 g0 → (∀ i L, (ab i L).length = L.length + 1) →
        (∀ (i : Nat) (L : List Cl) (g : H), i < m → Inv L g → L.length < 1000 → ∃ g', F [iv (st + i)] g = some (.normal, [iv (st + i + 1)], g') ∧ Inv (ab i L) g') → (∀ g, F [iv (st + m)] g = some (.exit oj, [iv (st + m)], g)) →
        ∃ ws' h', lpGo F 100 [iv st] g0 = some (.exit oj, ws', h') ∧ Inv ((List.range m).foldl (fun L i => ab i L) L0) h' := by
      intro F oj st m ab L0 g0 hm hL0 hi0 hlen hstep hfin
      obtain ⟨ws', h', e, hi, _⟩ := lp_for (F := F) (k := 100) (l := List.range m) (fun _ x => ab x) (fun i L ws g => Inv L g ∧ L.length = L0.length + i ∧ ws = [iv (st + i)]) oj (ws := [iv st]) (h := g0) (s0 := L0)
        ⟨hi0, rfl, by simp⟩ (by simp; omega)
        (by
          rintro L ws g ⟨hi, hl, rfl⟩
          rw [List.length_range]
          exact hfin g)
        (by
          rintro i c L ws g hc ⟨hi, hl, rfl⟩
          have him : i < m := by simpa using (List.getElem?_eq_some_iff.1 hc).1
          obtain rfl : c = i := by
            rw [List.getElem?_range him] at hc
            exact (Option.some.inj hc).symm
          obtain ⟨g', e, hi'⟩ := hstep c L g him hi (by omega)
          exact ⟨_, g', e, hi', by rw [hlen]; omega, by rw [show st + ((c + 1 : Nat) : Int) = st + c + 1 by omega]⟩)
      rw [foldI_foldl] at hi
      exact ⟨ws', h', e, hi⟩
    have hh1 : h1.nx = h.nx + 1 := rfl
    have hh3 : h3.nx = h.nx + 2 := rfl
    have kc : ∀ {L : List Cl} {g : H} {a b : Int} {g' : H}, rn 100 #[iv a, iv b, pt (h.nx + 2) 0, pt (h.nx + 1) 0] g = some (undef, g') → ∀ {R : Type} (K : Value → H → Option R), calls rn g 100 [.int .i64 a, .int .i64 b, pt (h.nx + 2) 0, pt (h.nx + 1) 0] K = K undef g' := fun e _ K => calls_eq e
    by_cases h4 : n < 4
    · obtain ⟨ws1, g1, e1, i1⟩ := loop (f76_l1 rn 100 n h1 h3) 0 1 (n - 1) (fun i L => addC L ((i : Int) + 1 - 1) ((i : Int) + 1)) [] h5 (by omega) (by simp) i5 (fun _ _ => addC_len _ _ _)
        (fun i L g him hi hL => by
          obtain ⟨g', e, hi'⟩ := call L g ((i : Int) + 1 - 1) ((i : Int) + 1) hi hL
          refine ⟨g', ?_, hi'⟩
          have hs : sub .i64 (1 + (i : Int)) 1 = (i : Int) + 1 - 1 := by rw [sub64 (by omega) (by omega)]; omega
          have ha : add .i64 (1 + (i : Int)) 1 = 1 + (i : Int) + 1 := add64 (by omega) (by omega)
          rw [show (i : Int) + 1 = 1 + (i : Int) by omega] at e hs
          simp only [f76_l1, gv, List.getD_cons_zero, asI_int, lt_t (show 1 + (i : Int) < n by omega), ifB, if_true, hs, nx_eq, hh1, hh3, kc (L := L) e, ha, out])
        (fun g => by simp [f76_l1, show ¬ (1 + ((n - 1 : Nat) : Int) < n) by omega])
      rw [show (List.range (n - 1)).foldl (fun L (i : Nat) => addC L ((i : Int) + 1 - 1) ((i : Int) + 1)) [] = chainP (n - 1) from rfl] at i1
      have head : f76 rn 100 n h = (if n = 3 then (calls rn g1 100 [.int .i64 0, .int .i64 1, pt (h.nx + 2) 0, pt (h.nx + 1) 0] fun v2 h9 => (h9.rd (h.nx + 1) 0 2).bind fun l => (wrc 2 h9 h.nx 0 (.agg l.toArray)).bind fun h10 => (h10.rd h.nx 0 2).bind fun l => some (Value.agg l.toArray, h10)) else
          ((g1.rd (h.nx + 1) 0 2).bind fun l => (wrc 2 g1 h.nx 0 (.agg l.toArray)).bind fun h10 => (h10.rd h.nx 0 2).bind fun l => some (Value.agg l.toArray, h10))) := by
        unfold f76
        rw [al_eq, kbld31, al_st (zs := z31) (xs := [.int .i64 n, .slice none 0 0]) sz31 rfl rfl, al_st1 (v := iv 0) sz3 rfl rfl]
        rw [lt_t (show (n : Int) < 4 by omega), ifB_true, show H.fresh (H.fresh (h.new (.row [.int .i64 0, .slice none 0 0] 31 true)) 31 z31 [.int .i64 n, .slice none 0 0]) 3 [iv 0] [iv 0] = h5 from rfl]
        refine (lp_eq e1).trans ?_
        rw [onE_exit, if_pos rfl]
        simp only [nx_eq, hh1, hh3, d31, w31, ifB]
        by_cases h3' : n = 3
        · rw [if_pos h3', eq_t (by omega), if_pos rfl]; rfl
        · rw [if_neg h3', eq_f (by omega)]; simp only [Bool.false_eq_true, if_false]; rfl
      by_cases h3' : n = 3
      · obtain ⟨g2, e2, i2⟩ := call _ g1 0 1 i1 (by rw [chain_len]; omega)
        obtain ⟨sv, h', x, a, e3⟩ := fin _ _ i2
        refine ⟨sv, h', 100, ?_, x, by simpa [gossipP, h4, h3'] using a⟩
        rw [head, if_pos h3', kc (L := []) e2]
        exact e3
      · obtain ⟨sv, h', x, a, e3⟩ := fin _ _ i1
        refine ⟨sv, h', 100, ?_, x, by simpa [gossipP, h4, h3'] using a⟩
        rw [head, if_neg h3']
        exact e3
    · have star : ∀ (F : List Value → H → Option (Ex × List Value × H)) (oj : Nat) (L0 : List Cl) (g0 : H), L0.length ≤ 20 → Inv L0 g0 →
          (∀ ws g, F ws g = asI .i64 (gv ws 0) fun n4 => ifB (lt n4 n) (calls rn g 100 [(.int .i64 0), gv ws 0, (pt (nx h3) 0), (pt (nx h1) 0)] fun v7 h13 => asI .i64 (gv ws 0) fun n5 => out .normal [(.int .i64 (add .i64 n5 1))] h13) (out (.exit oj) [gv ws 0] g)) →
          ∃ ws' h', lpGo F 100 [iv 4] g0 = some (.exit oj, ws', h') ∧ Inv (starP L0 (n - 4)) h' := by
        intro F oj L0 g0 hL hi hF
        obtain ⟨ws1, g1, e1, i1⟩ := loop F oj 4 (n - 4) (fun i L => addC L 0 ((i : Int) + 4)) L0 g0 (by omega) hL hi (fun _ _ => addC_len _ _ _)
          (fun i L g him hi hL => by
            obtain ⟨g', e, hi'⟩ := call L g 0 ((i : Int) + 4) hi hL
            refine ⟨g', ?_, hi'⟩
            rw [show (i : Int) + 4 = 4 + (i : Int) by omega] at e
            have ha : add .i64 (4 + (i : Int)) 1 = 4 + (i : Int) + 1 := add64 (by omega) (by omega)
            rw [hF]
            simp only [gv, List.getD_cons_zero, asI_int, lt_t (show 4 + (i : Int) < n by omega), ifB, if_true, nx_eq, hh1, hh3, kc (L := L) e, ha, out])
          (fun g => by rw [hF]; simp [show ¬ (4 + ((n - 4 : Nat) : Int) < n) by omega])
        exact ⟨ws1, g1, e1, i1⟩
      obtain ⟨ws1, g1, e1, i1⟩ := star (f76_l2 rn 100 n h1 h3) 2 [] h5 (by simp) i5 (fun _ _ => rfl)
      have l1 : (starP [] (n - 4)).length = n - 4 := by rw [star_len]; simp
      obtain ⟨g2, e2, i2⟩ := call _ g1 0 1 i1 (by omega)
      obtain ⟨g3, e3, i3⟩ := call _ g2 2 3 i2 (by rw [addC_len]; omega)
      obtain ⟨g4, e4, i4⟩ := call _ g3 0 2 i3 (by rw [addC_len, addC_len]; omega)
      obtain ⟨g5, e5, i5'⟩ := call _ g4 1 3 i4 (by rw [addC_len, addC_len, addC_len]; omega)
      obtain ⟨ws6, g6, e6, i6⟩ := star (f76_l3 rn 100 n h1 h3) 4 _ g5 (by rw [addC_len, addC_len, addC_len, addC_len]; omega) i5' (fun _ _ => rfl)
      obtain ⟨sv, h', x, a, e7⟩ := fin _ _ i6
      refine ⟨sv, h', 100, ?_, x, by simpa [gossipP, h4] using a⟩
      unfold f76
      rw [al_eq, kbld31, al_st (zs := z31) (xs := [.int .i64 n, .slice none 0 0]) sz31 rfl rfl, al_st1 (v := iv 0) sz3 rfl rfl]
      rw [lt_f (show ¬ (n : Int) < 4 by omega), ifB_false, show H.fresh (H.fresh (h.new (.row [.int .i64 0, .slice none 0 0] 31 true)) 31 z31 [.int .i64 n, .slice none 0 0]) 3 [iv 0] [iv 0] = h5 from rfl]
      refine (lp_eq e1).trans ?_
      rw [onE_exit, if_pos rfl]
      refine (kc (L := []) e2 _).trans ?_
      refine (kc (L := []) e3 _).trans ?_
      refine (kc (L := []) e4 _).trans ?_
      refine (kc (L := []) e5 _).trans ?_
      refine (lp_eq e6).trans ?_
      rw [onE_exit, if_pos rfl]
      simp only [d31, w31]
      exact e7
  obtain ⟨sv, h', k, e, x, a⟩ := hF
  exact ⟨sv, h', x76 e rfl, x, a⟩

end Go.AM
