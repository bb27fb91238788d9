/- News and Idle, as the program tells them. -/
import Derived.Test.YthmfjfblndophaaCe
namespace Go.AM
open Go.Proofs

variable {k : Nat} {R : Type}

attribute [local simp] nx_eq nx_new nx_set blk_new blk_set asI_int asK_int asB_bool asP_ptr al_eq bx_eq len_slice onE_exit onE_ret onR_ret Value.cells d3 d29 d31 d56 d24 d59 d22 w3 cell_new cell_set rd_new rd_set off eq lt le ifB gv out eqF1 eqF2 eqF3 eqF4 eqF5 eqF6 eqF7 eqF8

def newsP (n : Nat) (l : List Cl) : List Int := l.foldl hearP (ownP n)

theorem newsP_len (n : Nat) (l : List Cl) : (newsP n l).length = n := by
  have : ∀ (l : List Cl) (x : List Int), (l.foldl hearP x).length = x.length := by
    intro l
    induction l with
    | nil => intro x; rfl
    | cons c l ih => intro x; rw [List.foldl_cons, ih, hearP_len]
  rw [newsP, this]
  simp [ownP]

theorem ok_range {n : Int} {l : List Cl} (hv : validP n l = true) {i : Nat} {c : Cl} (hc : l[i]? = some c) : (0 ≤ c.a ∧ c.a < n) ∧ (0 ≤ c.b ∧ c.b < n) := by
  have := okC_iff.1 ((validP_ok hv).2.2.2 i c hc)
  exact ⟨this.1, this.2.1⟩

/-- What a call reads of its log. -/
theorem k71 {n : Int} {sl : Value} {l : List Cl} {h : H} (hs : SlR h 56 3 sl (l.map Cl.cells)) (K : Value → H → Option R) : calls rn h 71 [.agg #[iv n, sl]] K = K (.bool (validP n l)) h := calls_eq (s71 hs)

theorem s37_bad {n : Int} {sl : Value} {l : List Cl} {h : H} (hs : SlR h 56 3 sl (l.map Cl.cells)) (hv : validP n l = false) : ∃ h', rn 37 #[.agg #[iv n, sl]] h = some (.tuple #[.slice none 0 0, iv 2], h') ∧ Ext h h' := by
  have x1 : Ext h (h.new (.row [iv n, sl] 31 true)) := .new _ _
  refine ⟨h.new (.row [iv n, sl] 31 true), x37 (k := 0) ?_ rfl, x1⟩
  simp [f37, k71 (hs.ext x1), hv]

theorem s39_bad {n : Int} {sl : Value} {l : List Cl} {h : H} (hs : SlR h 56 3 sl (l.map Cl.cells)) (hv : validP n l = false) : ∃ h', rn 39 #[.agg #[iv n, sl]] h = some (.tuple #[.slice none 0 0, iv 2], h') ∧ Ext h h' := by
  have x1 : Ext h (h.new (.row [iv n, sl] 31 true)) := .new _ _
  refine ⟨h.new (.row [iv n, sl] 31 true), x39 (k := 0) ?_ rfl, x1⟩
  simp [f39, k71 (hs.ext x1), hv]

theorem s37 {n : Int} {sl : Value} {l : List Cl} {h : H} (hs : SlR h 56 3 sl (l.map Cl.cells)) (hv : validP n l = true) :
    ∃ v h', rn 37 #[.agg #[iv n, sl]] h = some (.tuple #[v, iv 0], h') ∧ Ext h h' ∧ SlR h' 3 1 v (cellsI (newsP n.toNat l)) := by
  obtain ⟨hn1, hn7, hl24, hok⟩ := validP_ok hv
  have x1 : Ext h (h.new (.row [iv n, sl] 31 true)) := .new _ _
  have hs1 := hs.ext x1
  obtain ⟨v4, h3, e77, x3, a3⟩ := s77 (n := n) (sl := sl) (h := h.new (.row [iv n, sl] 31 true)) (by omega) (by omega)
  obtain ⟨b, hlo, _, hia⟩ := a3.ia (by simp [ownP]; omega)
  have x03 := x1.trans x3
  have hb3 : h3.blk h.nx = some (.row [iv n, sl] 31 true) := (x3.blk _ (Nat.lt_succ_self _)).trans (blk_new_self _ _)
  have hbn : h.nx < b := by rw [nx_new] at hlo; omega
  obtain ⟨ws', h', hl, hx, hiaN, hlen, rfl⟩ := lp_for (F := f37_l1 rn (l.length + 1) v4 sl l.length) (k := l.length + 1) (l := l) (fun _ c (s : List Int) => hearP s c)
    (fun i s ws g => Ext h g ∧ IA g b v4 s ∧ s.length = n.toNat ∧ ws = [iv i]) 0 (ws := [iv 0]) (h := h3) (s0 := ownP n.toNat)
    ⟨x03, hia, by simp [ownP], rfl⟩ (by omega)
    (by
      rintro s ws g ⟨hx, hi, hlen, rfl⟩
      simp [f37_l1])
    (by
      rintro i c s ws g hc ⟨hx, hi, hlen, rfl⟩
      have hil := (List.getElem?_eq_some_iff.1 hc).1
      obtain ⟨ha, hb⟩ := ok_range hv hc
      have y7 := (Ext.refl g).fresh 56 [iv 0, iv 0, iv 0] c.cells
      have hcb := blk_fresh g 56 [iv 0, iv 0, iv 0] c.cells
      have n7 : (g.fresh 56 [iv 0, iv 0, iv 0] c.cells).nx = g.nx + 1 := rfl
      obtain ⟨h8, e8, n8, i8, f8⟩ := s78 (c := c) (hi.ext y7) (by rw [hlen]; omega) (by rw [hlen]; omega)
      have hbl := hi.lt
      refine ⟨[iv ((i : Int) + 1)], h8, ?_, ⟨by have := hx.nx; omega, fun q hq => ?_⟩, i8, by rw [hearP_len]; exact hlen, rfl⟩
      · unfold f37_l1
        rw [show gv [iv i] 0 = iv i from rfl, asI_int, lt_t (by omega), ifB_true, asK_int, (hs.ext hx).ldA ag56 sz56 (by omega) (x := c.cells) (by simp [hc])]
        rw [al_st (zs := [iv 0, iv 0, iv 0]) (xs := c.cells) sz56 rfl rfl, nx_eq, d56, rd_all (n := 3) hcb rfl]
        rw [Option.bind_some, calls_eq (show rn 78 [v4, Value.agg c.cells.toArray].toArray _ = _ from e8), asB_bool, asI_int, add64 (by omega) (by omega)]
        rfl
      · rw [f8 q (by have := hx.nx; omega) (by omega), y7.blk q (by have := hx.nx; omega), hx.blk q hq])
  rw [foldI_foldl] at hiaN
  refine ⟨v4, h', x37 (k := l.length + 1) ?_ (by obtain ⟨c, hc, _⟩ := hiaN.val; rw [hc]; rfl), hx, hiaN.slR⟩
  have c77 := fun (K : Value → H → Option (Value × H)) => calls_eq (K := K) (xs := [_]) e77
  simp [f37, k71 hs1, hv, c77, cell_of hb3, hs.len, lp_eq hl]

/-- The calls in which nobody hears anything. -/
def idleG (i : Nat) (c : Cl) (s : List Int × List Int) : List Int × List Int := (hearP s.1 c, if freshP s.1 c = true then s.2 else s.2 ++ [(i : Int)])
def idleP (n : Nat) (l : List Cl) : List Int := (foldI idleG l 0 (ownP n, [])).2

theorem s39 {n : Int} {sl : Value} {l : List Cl} {h : H} (hs : SlR h 56 3 sl (l.map Cl.cells)) (hv : validP n l = true) :
    ∃ v h', rn 39 #[.agg #[iv n, sl]] h = some (.tuple #[v, iv 0], h') ∧ Ext h h' ∧ SlR h' 3 1 v (cellsI (idleP n.toNat l)) := by
  obtain ⟨hn1, hn7, hl24, hok⟩ := validP_ok hv
  have x1 : Ext h (h.new (.row [iv n, sl] 31 true)) := .new _ _
  have hs1 := hs.ext x1
  obtain ⟨v4, h3, e77, x3, a3⟩ := s77 (n := n) (sl := sl) (h := h.new (.row [iv n, sl] 31 true)) (by omega) (by omega)
  obtain ⟨b, hlo, _, hia⟩ := a3.ia (by simp [ownP]; omega)
  have x03 := x1.trans x3
  have hb3 : h3.blk h.nx = some (.row [iv n, sl] 31 true) := (x3.blk _ (Nat.lt_succ_self _)).trans (blk_new_self _ _)
  have hbn : h.nx < b := by rw [nx_new] at hlo; omega
  obtain ⟨ws', h', hl, hx, hiaN, hlen, ho, sv, hap, hne, rfl⟩ := lp_for (F := f39_l1 rn (l.length + 1) v4 sl l.length) (k := l.length + 1) (l := l) idleG
    (fun i s ws g => Ext h g ∧ IA g b v4 s.1 ∧ s.1.length = n.toNat ∧ s.2.length ≤ i ∧ ∃ sv, AqR h.nx g 3 1 sv (cellsI s.2) ∧ blkOf sv ≠ some b ∧ ws = [sv, iv i]) 0 (ws := [.slice none 0 0, iv 0]) (h := h3) (s0 := (ownP n.toNat, []))
    ⟨x03, hia, by simp [ownP], Nat.le_refl _, _, .nil, by simp [blkOf], rfl⟩ (by omega)
    (by
      rintro s ws g ⟨hx, hi, hlen, ho, sv, hap, hne, rfl⟩
      simp [f39_l1])
    (by
      rintro i c ⟨s1, s2⟩ ws g hc ⟨hx, hi, hlen, ho, sv, hap, hne, rfl⟩
      simp only at hi hlen ho hap
      have hil := (List.getElem?_eq_some_iff.1 hc).1
      obtain ⟨ha, hb⟩ := ok_range hv hc
      have y7 := (Ext.refl g).fresh 56 [iv 0, iv 0, iv 0] c.cells
      have hcb := blk_fresh g 56 [iv 0, iv 0, iv 0] c.cells
      have n7 : (g.fresh 56 [iv 0, iv 0, iv 0] c.cells).nx = g.nx + 1 := rfl
      obtain ⟨h8, e8, n8, i8, f8⟩ := s78 (c := c) (hi.ext y7) (by rw [hlen]; omega) (by rw [hlen]; omega)
      have hbl := hi.lt
      have x8 : Ext h h8 := ⟨by have := hx.nx; omega, fun q hq => by rw [f8 q (by have := hx.nx; omega) (by omega), y7.blk q (by have := hx.nx; omega), hx.blk q hq]⟩
      have a8 : AqR h.nx h8 3 1 sv (cellsI s2) := hap.keep (by omega) fun q hq => by
        have := (hap.blkOf hq).2.1
        rw [f8 q (by omega) (fun e => hne (e ▸ hq)), y7.blk q this]
      have start : f39_l1 rn (l.length + 1) v4 sl l.length [sv, iv i] g = (if freshP s1 c = true then some (.normal, [sv, iv ((i : Int) + 1)], h8) else
          bls Try.prog h8 25 1 [(0, iv i)] fun v9 h8 => app Try.prog h8 25 25 sv v9 fun v10 h9 => some (.normal, [v10, iv ((i : Int) + 1)], h9)) := by
        unfold f39_l1
        rw [show gv [sv, iv i] 1 = iv i from rfl, show gv [sv, iv i] 0 = sv from rfl, asI_int, lt_t (by omega), ifB_true, asK_int, (hs.ext hx).ldA ag56 sz56 (by omega) (x := c.cells) (by simp [hc])]
        rw [al_st (zs := [iv 0, iv 0, iv 0]) (xs := c.cells) sz56 rfl rfl, nx_eq, d56, rd_all (n := 3) hcb rfl]
        rw [Option.bind_some, calls_eq (show rn 78 [v4, Value.agg c.cells.toArray].toArray _ = _ from e8), asB_bool]
        cases freshP s1 c with
        | true => simp; rw [add64 (by omega) (by omega)]
        | false => simp; rw [add64 (by omega) (by omega)]
      rw [start]
      cases hf : freshP s1 c with
      | true =>
        refine ⟨[sv, iv ((i : Int) + 1)], h8, by simp, x8, by simpa [idleG] using i8, by simp only [idleG]; rw [hearP_len]; exact hlen, by simp [idleG, hf]; omega, sv, by simpa [idleG, hf] using a8, hne, rfl⟩
      | false =>
        obtain ⟨v', h9, e9, a9, n9, k9, b9, hb9, hb9'⟩ := a8.push app25 app25 (bls25 (i : Int)) rfl rfl (by simp; omega) x8.nx
        refine ⟨[v', iv ((i : Int) + 1)], h9, by simp [e9], ⟨by have := x8.nx; omega, fun q hq => ?_⟩, ?_, by simp only [idleG]; rw [hearP_len]; exact hlen, by simp [idleG, hf]; omega, v', ?_, ?_, rfl⟩
        · rw [k9 q (by have := x8.nx; omega) (fun e => by have := (a8.blkOf e).1; omega)]
          exact x8.blk q hq
        · simp only [idleG]
          exact i8.keep n9 (k9 b i8.lt hne)
        · simpa [idleG, hf] using a9
        · rw [hb9]
          intro e
          cases e
          have := i8.lt
          omega)
  refine ⟨sv, h', x39 (k := l.length + 1) ?_ (by obtain ⟨x, y, z, hz⟩ := hap.isSl; rw [hz]; rfl), hx, hap.slR⟩
  have c77 := fun (K : Value → H → Option (Value × H)) => calls_eq (K := K) (xs := [_]) e77
  simp [f39, k71 hs1, hv, c77, cell_of hb3, hs.len, lp_eq hl]

end Go.AM
