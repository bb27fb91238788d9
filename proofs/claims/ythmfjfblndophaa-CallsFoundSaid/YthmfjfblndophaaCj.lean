/- News, Spread and gossip, as the document tells them. -/
import Derived.Test.YthmfjfblndophaaCi
import Derived.Test.YthmfjfblndophaaAmSim
namespace Go.AM
open Go.Proofs

variable {k : Nat} {R : Type}

attribute [local simp] nx_eq nx_new nx_set blk_new blk_set asI_int asK_int asB_bool asP_ptr al_eq bx_eq len_slice onE_exit onE_ret onR_ret Value.cells d3 d29 d31 d56 d24 d59 d22 d25 w3 cell_new cell_set rd_new rd_set off eq lt le ifB gv out eqF1 eqF2 eqF3 eqF4 eqF5 eqF6 eqF7 eqF8

theorem heard_last (n : Nat) (l : List Cl) : (heardP n l).2 = newsP n l := by
  unfold heardP newsP
  have : ∀ (l' : List Cl) (i : Nat) (s : List (List Int) × List Int), (foldI (heardG l) l' i s).2 = l'.foldl hearP s.2 := by
    intro l'
    induction l' with
    | nil => intro i s; rfl
    | cons c l' ih => intro i s; rw [foldI, ih]; rfl
  exact this l 0 _

theorem heard_len (n : Nat) (l : List Cl) : (heardP n l).1.length ≤ l.length := by
  unfold heardP
  have : ∀ (l' : List Cl) (i : Nat) (s : List (List Int) × List Int), (foldI (heardG l) l' i s).1.length ≤ s.1.length + l'.length := by
    intro l'
    induction l' with
    | nil => intro i s; exact Nat.le_refl _
    | cons c l' ih =>
      intro i s
      refine Nat.le_trans (ih (i + 1) _) ?_
      simp only [heardG, List.length_cons]
      split <;> simp <;> omega
  have := this l 0 ([], ownP n)
  simpa using this

theorem heard_lens (n : Nat) (l : List Cl) : ∀ L ∈ (heardP n l).1 ++ [(heardP n l).2], L.length = n := by
  unfold heardP
  have : ∀ (l' : List Cl) (i : Nat) (s : List (List Int) × List Int), (∀ L ∈ s.1 ++ [s.2], L.length = n) → ∀ L ∈ (foldI (heardG l) l' i s).1 ++ [(foldI (heardG l) l' i s).2], L.length = n := by
    intro l'
    induction l' with
    | nil => intro i s h; exact h
    | cons c l' ih =>
      intro i s h
      refine ih (i + 1) _ ?_
      have h2 : (hearP s.2 c).length = n := by rw [hearP_len]; exact h _ (by simp)
      intro L hL
      simp only [heardG] at hL
      split at hL
      · simp only [List.append_assoc, List.mem_append, List.mem_cons, List.not_mem_nil, or_false] at hL
        rcases hL with hL | hL | hL
        · exact h L (by simp [hL])
        · exact h L (by simp [hL])
        · rw [hL]; exact h2
      · simp only [List.mem_append, List.mem_cons, List.not_mem_nil, or_false] at hL
        rcases hL with hL | hL
        · exact h L (by simp [hL])
        · rw [hL]; exact h2
  exact this l 0 ([], ownP n) (by simp [ownP])

theorem s40 {n : Int} {sl : Value} {l : List Cl} {h : H} (hs : SlR h 59 3 sl (l.map Cl.cells)) (hv : validP n l = true) :
    ∃ v h', rn 40 #[.agg #[iv n, sl]] h = some (v, h') ∧ Ext h h' ∧ SlR h' 3 1 v (cellsI (newsP n.toNat l)) := by
  have x1 : Ext h (h.new (.row [iv n, sl] 24 true)) := .new _ _
  obtain ⟨v, h', pv, vl, e, x, hs1, hs2, hs3⟩ := s79 (n := n) (hs.ext x1) hv
  have hpv := hs2.1
  have hle := heard_len n.toNat l
  have hl24 := (validP_ok hv).2.2.1
  rw [heard_last] at hs3
  refine ⟨vl, h', x40 (k := 0) ?_ hs3.notR, x1.trans x, hs3⟩
  have c1 := fun (K : Value → H → Option (Value × H)) => calls_eq (K := K) (xs := [_]) e
  have c2 : ∀ (K : Value → Option (Value × H)), (six v (sub .i64 ((pv.length : Int) + 1) 1) 1 fun b o => (h'.cell b o).bind K) = K vl := fun K => by
    rw [sub64 (by omega) (by omega)]
    exact hs1.c0 (by omega) (x := [vl]) (by rw [show (((pv.length : Int) + 1) - 1).toNat = pv.length by omega]; simp) rfl K
  simp [f40, c1, hs1.len, c2]

/-- Do all know all? -/
def allP (n : Nat) (L : List Int) : Bool := L.all fun x => decide (x = sub .i64 (shl .i64 1 n) 1)

theorem s36 {n : Int} {sl : Value} {l : List Cl} {h : H} (hs : SlR h 59 3 sl (l.map Cl.cells)) (hv : validP n l = true) : rn 36 #[.agg #[iv n, sl]] h = some (.bool (allP n.toNat (newsP n.toNat l)), h) := by
  obtain ⟨hn1, hn7, hl24, hok⟩ := validP_ok hv
  obtain ⟨m, rfl⟩ := Int.eq_ofNat_of_zero_le (show 0 ≤ n by omega)
  have x1 : Ext h (h.new (.row [iv m, sl] 24 true)) := .new _ _
  obtain ⟨v, h', e, x, hs1⟩ := s40 (n := (m : Int)) (hs.ext x1) hv
  rw [Int.toNat_natCast] at *
  have hb : h'.blk h.nx = some (.row [iv m, sl] 24 true) := (x.blk _ (Nat.lt_succ_self _)).trans (blk_new_self _ _)
  have hlen : (newsP m l).length = m := newsP_len m l
  generalize newsP m l = L at *
  have hl := lp_same (F := f36_l1 rn (L.length + 1) h v L.length) (k := L.length + 1) (l := L) (h := h') (fun i (_ : Unit) => [.bool false, iv i])
    (fun i x s => if decide (x = sub .i64 (shl .i64 1 m) 1) = true then .inl s else .inr i) (fun _ _ => True) (fun _ => .ret) (fun i => [.bool false, iv i]) 0 (fun _ => [.bool false, iv L.length]) (ws := [.bool false, iv 0]) (s0 := ()) rfl trivial (by omega) (by simp)
    (fun _ _ => by simp [f36_l1])
    (by
      intro i x _ hx _
      have hi := (List.getElem?_eq_some_iff.1 hx).1
      refine ⟨fun _ _ => trivial, ?_⟩
      have g1 : ∀ (K : Value → Option (Ex × List Value × H)), (six v (i : Int) 1 fun b o => (h'.cell b o).bind K) = K (iv x) := fun K => hs1.c0 (by omega) (x := [iv x]) (by simp [hx]) rfl K
      simp [f36_l1, show i < L.length by omega, g1, cell_of hb, nn_ge, rnd]
      rw [add64 (by omega) (by omega)]
      grind)
  refine p36 (k := L.length + 1) (h1 := h') ?_ rfl (x1.trans x)
  have c1 := fun (K : Value → H → Option (Value × H)) => calls_eq (K := K) (xs := [_]) e
  rcases itL_all (ok := fun _ x => decide (x = sub .i64 (shl .i64 1 m) 1)) (g := fun i _ => i) (s0 := ()) L 0 with ⟨⟨r, h1⟩, j, x, hx, h2⟩ | ⟨h1, h2⟩
  · rw [h1] at hl
    simp [f36, c1, hs1.len, lp_eq hl, allP]
    exact ⟨x, List.mem_of_getElem? hx, by simpa using h2⟩
  · rw [h1] at hl
    simp [f36, c1, hs1.len, lp_eq hl.1, allP]
    intro x hx
    obtain ⟨j, hj, rfl⟩ := List.getElem_of_mem hx
    simpa using h2 j _ (List.getElem?_eq_getElem hj)

/-- Who has the news of a person. -/
def transG (s : Int) (p : Nat) (x : Int) (set : Int) : Int := AM.or .i64 set (shl .i64 (AM.and .i64 (shr .i64 x s) 1) p)
def transP (s : Int) (L : List Int) : Int := foldI (transG s) L 0 0

theorem s43 {n s : Int} {sl : Value} {l : List Cl} {h : H} (hs : SlR h 59 3 sl (l.map Cl.cells)) (hv : validP n l = true) (hp : 0 ≤ s) :
    ∃ v h', rn 43 #[.agg #[iv n, sl], iv s] h = some (v, h') ∧ Ext h h' ∧ SlR h' 3 1 v (cellsI (((heardP n.toNat l).1 ++ [(heardP n.toNat l).2]).map (transP s))) := by
  obtain ⟨hn1, hn7, hl24, hok⟩ := validP_ok hv
  have x1 : Ext h (h.new (.row [iv n, sl] 24 true)) := .new _ _
  obtain ⟨v2, h2, pv, vl, e, x2, hs1, hs2, hs3⟩ := s79 (n := n) (hs.ext x1) hv
  have hss := hs2.snoc hs3
  have hle := heard_len n.toNat l
  have hlens : (pv ++ [vl]).length ≤ 25 := by have := hs2.1; simp; omega
  have hall := heard_lens n.toNat l
  have hb2 : h2.blk h.nx = some (.row [iv n, sl] 24 true) := (x2.blk _ (Nat.lt_succ_self _)).trans (blk_new_self _ _)
  generalize (heardP n.toNat l).1 ++ [(heardP n.toNat l).2] = LL at *
  have hlenL := hss.1
  obtain ⟨ws', h', hl, hx, ho, sv, hap, rfl⟩ := lp_for (F := f43_l1 rn 30 s v2 LL.length) (k := 30) (l := LL) (fun _ (L : List Int) (out : List Int) => out ++ [transP s L])
    (fun i s ws g => Ext h2 g ∧ s.length ≤ i ∧ ∃ sv, AqR h2.nx g 3 1 sv (cellsI s) ∧ ws = [sv, iv i]) 0 (ws := [.slice none 0 0, iv 0]) (h := h2) (s0 := [])
    ⟨.refl _, Nat.le_refl _, _, .nil, rfl⟩ (by omega)
    (by
      rintro s ws g ⟨hx, ho, sv, hap, rfl⟩
      simp [f43_l1])
    (by
      rintro i L out ws g hL ⟨hx, ho, sv, hap, rfl⟩
      have hi := (List.getElem?_eq_some_iff.1 hL).1
      have hvi : (pv ++ [vl])[i]? = some (pv ++ [vl])[i] := List.getElem?_eq_getElem (by omega)
      have hsi := (hss.2 i _ L hvi hL).ext hx
      generalize (pv ++ [vl])[i] = vi at *
      have hLlen := hall L (List.mem_of_getElem? hL)
      have g1 : ∀ (K : Value → Option (Ex × List Value × H)), (six v2 (i : Int) 1 fun b o => (g.cell b o).bind K) = K vi := fun K => (hs1.ext hx).c0 (by omega) (x := [vi]) (by simp only [Int.toNat_natCast, List.getElem?_map, hvi]; rfl) rfl K
      have hin := lp_same (ρ := Empty) (F := f43_l2 rn 30 s vi L.length) (k := 30) (l := L) (h := g) (fun i (set : Int) => [iv set, iv i])
        (fun p x set => .inl (transG s p x set)) (fun _ _ => True) (fun _ => .ret) (fun i => []) 2 (fun set => [iv set, iv L.length]) (ws := [iv 0, iv 0]) (s0 := 0) rfl trivial (by omega) (by simp)
        (fun _ _ => by simp [f43_l2])
        (by
          intro p x set hx' _
          have hp' := (List.getElem?_eq_some_iff.1 hx').1
          refine ⟨fun _ _ => trivial, ?_⟩
          have g2 : ∀ (K : Value → Option (Ex × List Value × H)), (six vi (p : Int) 1 fun b o => (g.cell b o).bind K) = K (iv x) := fun K => hsi.c0 (by omega) (x := [iv x]) (by simp [hx']) rfl K
          simp [f43_l2, hp', g2, nn_ge hp, nn_ge, rnd, transG]
          rw [add64 (by omega) (by omega)])
      rw [itL_inl] at hin
      obtain ⟨v', h9, e9, a9, n9, k9, b9, hb9, hb9'⟩ := hap.push app25 app25 (bls25 (transP s L)) rfl rfl (by simp; omega) hx.nx
      refine ⟨[v', iv ((i : Int) + 1)], h9, ?_, ⟨by have := hx.nx; omega, fun q hq => ?_⟩, by simp; omega, v', by simpa using a9, rfl⟩
      · unfold transP at e9
        simp only [f43_l1]
        simp [hi, g1, hsi.len, lp_eq hin.1, e9]
        rw [add64 (by omega) (by omega)]
      · rw [k9 q (by have := hx.nx; omega) (fun e => by have := (hap.blkOf e).1; omega)]
        exact hx.blk q hq)
  have hfin : foldI (fun _ (L : List Int) (out : List Int) => out ++ [transP s L]) LL 0 [] = LL.map (transP s) := by
    have : ∀ (LL : List (List Int)) (i : Nat) (o : List Int), foldI (fun _ (L : List Int) (out : List Int) => out ++ [transP s L]) LL i o = o ++ LL.map (transP s) := by
      intro LL
      induction LL with
      | nil => intro i o; simp [foldI]
      | cons L LL ih => intro i o; rw [foldI, ih]; simp
    simpa using this LL 0 []
  rw [hfin] at hap
  refine ⟨sv, h', x43 (k := 30) ?_ hap.slR.notR, (x1.trans x2).trans hx, hap.slR⟩
  have c1 := fun (K : Value → H → Option (Value × H)) => calls_eq (K := K) (xs := [_]) e
  have hlv : ∀ (K : Int → Option (Value × H)), len v2 K = K LL.length := fun K => by rw [hs1.len, List.length_map, hlenL]
  simp [f43, c1, hlv, lp_eq hl]

end Go.AM
