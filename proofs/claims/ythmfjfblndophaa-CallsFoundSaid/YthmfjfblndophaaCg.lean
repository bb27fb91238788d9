/- Spread, as the program tells it. -/
import Derived.Test.YthmfjfblndophaaCf
namespace Go.AM
open Go.Proofs

variable {k : Nat} {R : Type}

attribute [local simp] nx_eq nx_new nx_set blk_new blk_set asI_int asK_int asB_bool asP_ptr al_eq bx_eq len_slice onE_exit onE_ret onR_ret Value.cells d3 d29 d31 d56 d24 d59 d22 w3 cell_new cell_set rd_new rd_set off eq lt le ifB gv out eqF1 eqF2 eqF3 eqF4 eqF5 eqF6 eqF7 eqF8
attribute [local simp] k73 k74 k72 k42

/-- Is a person in a set? -/
def inP (s p : Int) : Bool := AM.and .i64 (shr .i64 s p) 1 == 1

/-- Who has heard after a call. -/
def nowP (now : Int) (c : Cl) : Int := if inP now c.a = true ∨ inP now c.b = true then AM.or .i64 now (AM.or .i64 (shl .i64 1 c.a) (shl .i64 1 c.b)) else now

/-- Is a call the last one of its time? -/
def lastP (l : List Cl) (i : Nat) (c : Cl) : Bool := decide (i + 1 = l.length) || (l[i + 1]?).any fun d => decide (c.t < d.t)

def spreadG (l : List Cl) (i : Nat) (c : Cl) (s : Int × List Int) : Int × List Int := (nowP s.1 c, if lastP l i c = true then s.2 ++ [nowP s.1 c] else s.2)
def spreadP (l : List Cl) (p : Int) : List Int := (foldI (spreadG l) l 0 (shl .i64 1 p, [shl .i64 1 p])).2

theorem s38_bad {n s : Int} {sl : Value} {l : List Cl} {h : H} (hs : SlR h 56 3 sl (l.map Cl.cells)) (hv : (validP n l && decide (0 ≤ s ∧ s < n)) = false) : ∃ h', rn 38 #[.agg #[iv n, sl], iv s] h = some (.tuple #[.slice none 0 0, iv 2], h') ∧ Ext h h' := by
  have x1 : Ext h (h.new (.row [iv n, sl] 31 true)) := .new _ _
  refine ⟨h.new (.row [iv n, sl] 31 true), x38 (k := 0) ?_ rfl, x1⟩
  cases h1 : validP n l with
  | false => simp [f38, k71 (hs.ext x1), h1]
  | true =>
    have : ¬ (0 ≤ s ∧ s < n) := by simpa [h1] using hv
    have hd : decide (0 ≤ s ∧ s < n) = false := decide_eq_false this
    simp only [f38, nx_eq, bx_eq, d31, cell_new, rd_new, Value.cells, k71 (hs.ext x1), h1, k72, hd]
    simp [k71 (hs.ext x1), h1]
    grind

theorem s38 {n p : Int} {sl : Value} {l : List Cl} {h : H} (hs : SlR h 56 3 sl (l.map Cl.cells)) (hv : validP n l = true) (hp : 0 ≤ p ∧ p < n) :
    ∃ v h', rn 38 #[.agg #[iv n, sl], iv p] h = some (.tuple #[v, iv 0], h') ∧ Ext h h' ∧ SlR h' 3 1 v (cellsI (spreadP l p)) := by
  obtain ⟨hn1, hn7, hl24, hok⟩ := validP_ok hv
  have x1 : Ext h (h.new (.row [iv n, sl] 31 true)) := .new _ _
  have x2 := Ext.new (h.new (.row [iv n, sl] 31 true)) (.row [iv (shl .i64 1 p)] 3 true)
  have x12 := x1.trans x2
  have hb2 : ((h.new (.row [iv n, sl] 31 true)).new (.row [iv (shl .i64 1 p)] 3 true)).blk h.nx = some (.row [iv n, sl] 31 true) := (x2.blk _ (Nat.lt_succ_self _)).trans (blk_new_self _ _)
  have a2 : AqR h.nx ((h.new (.row [iv n, sl] 31 true)).new (.row [iv (shl .i64 1 p)] 3 true)) 3 1 (.slice (some ⟨h.nx + 1, 0, none⟩) 1 1) (cellsI [shl .i64 1 p]) :=
    AqR.lit (l := cellsI [shl .i64 1 p]) (by simp [nx_new]) rfl (by simp) (by simp)
  obtain ⟨ws', h', hl, hx, ho, sv, hap, rfl⟩ := lp_for (F := f38_l1 rn (l.length + 1) h sl l.length) (k := l.length + 1) (l := l) (spreadG l)
    (fun i s ws g => Ext ((h.new (.row [iv n, sl] 31 true))) g ∧ s.2.length ≤ i + 1 ∧ ∃ sv, AqR (h.nx + 1) g 3 1 sv (cellsI s.2) ∧ ws = [iv s.1, sv, iv i]) 0 (ws := [iv (shl .i64 1 p), .slice (some ⟨h.nx + 1, 0, none⟩) 1 1, iv 0]) (h := (h.new (.row [iv n, sl] 31 true)).new (.row [iv (shl .i64 1 p)] 3 true)) (s0 := (shl .i64 1 p, [shl .i64 1 p]))
    ⟨x2, Nat.le_refl _, _, AqR.lit (l := cellsI [shl .i64 1 p]) (by simp [nx_new]) rfl (by simp) (by simp), rfl⟩ (by omega)
    (by
      rintro s ws g ⟨hx, ho, sv, hap, rfl⟩
      simp [f38_l1])
    (by
      rintro i c ⟨s1, s2⟩ ws g hc ⟨hx, ho, sv, hap, rfl⟩
      simp only at ho hap
      have hil := (List.getElem?_eq_some_iff.1 hc).1
      obtain ⟨ha, hb⟩ := ok_range hv hc
      have y7 := (Ext.refl g).fresh 56 [iv 0, iv 0, iv 0] c.cells
      have hcb := blk_fresh g 56 [iv 0, iv 0, iv 0] c.cells
      have hs7 := hs.ext (x1.trans (hx.trans y7))
      have hb7 : (g.fresh 56 [iv 0, iv 0, iv 0] c.cells).blk h.nx = some (.row [iv n, sl] 31 true) := ((hx.trans y7).blk _ (Nat.lt_succ_self _)).trans (blk_new_self _ _)
      have x7 := hx.trans y7
      have a7 := hap.ext y7
      have start : f38_l1 rn (l.length + 1) h sl l.length [iv s1, sv, iv i] g = (if lastP l i c = true then
          (bls Try.prog (g.fresh 56 [iv 0, iv 0, iv 0] c.cells) 25 1 [(0, iv (nowP s1 c))] fun v9 h8 => app Try.prog h8 25 25 sv v9 fun v10 h9 => some (.normal, [iv (nowP s1 c), v10, iv ((i : Int) + 1)], h9)) else
          some (.normal, [iv (nowP s1 c), sv, iv ((i : Int) + 1)], g.fresh 56 [iv 0, iv 0, iv 0] c.cells)) := by
        unfold f38_l1
        rw [show gv [iv s1, sv, iv i] 2 = iv i from rfl, show gv [iv s1, sv, iv i] 1 = sv from rfl, show gv [iv s1, sv, iv i] 0 = iv s1 from rfl, asI_int, lt_t (by omega), ifB_true, asK_int, (hs.ext (x1.trans hx)).ldA ag56 sz56 (by omega) (x := c.cells) (by simp [hc])]
        rw [al_st (zs := [iv 0, iv 0, iv 0]) (xs := c.cells) sz56 rfl rfl]
        generalize g.fresh 56 [iv 0, iv 0, iv 0] c.cells = h7 at *
        simp only [Cl.cells] at hcb
        have hlen : ∀ (K : Int → Option (Ex × List Value × H)), len sl K = K l.length := fun K => by rw [hs.len, List.length_map]
        have hadd : add .i64 (i : Int) 1 = (i : Int) + 1 := add64 (by omega) (by omega)
        by_cases hlast : i + 1 = l.length
        · have e1 : ((i : Int) + 1 = (l.length : Int)) = True := eq_true (by omega)
          simp [cell_of hcb, cell_of hb7, nn_ge ha.1, nn_ge hb.1, hlen, hadd, e1, lastP, hlast, nowP, inP]
          grind
        · have e1 : ((i : Int) + 1 = (l.length : Int)) = False := eq_false (by omega)
          have hd : l[i + 1]? = some l[i + 1] := List.getElem?_eq_getElem (by omega)
          have hnext : ∀ (K : Value → Option (Ex × List Value × H)), (six sl ((i : Int) + 1) 3 fun b o => (h7.cell b (o + 2)).bind K) = K (iv (l[i + 1]).t) := fun K =>
            hs7.cF (by omega) (x := (l[i + 1]).cells) (by rw [show ((i : Int) + 1).toNat = i + 1 by omega]; simp [hd]) rfl K
          simp [cell_of hcb, cell_of hb7, nn_ge ha.1, nn_ge hb.1, hlen, hadd, e1, lastP, hlast, nowP, inP, hnext, hd]
          grind
      rw [start]
      cases hf : lastP l i c with
      | false =>
        exact ⟨[iv (nowP s1 c), sv, iv ((i : Int) + 1)], _, by simp, x7, by simp [spreadG, hf]; omega, sv, by simpa [spreadG, hf] using a7, by simp [spreadG]⟩
      | true =>
        obtain ⟨v', h9, e9, a9, n9, k9, b9, hb9, hb9'⟩ := a7.push app25 app25 (bls25 (nowP s1 c)) rfl rfl (by simp; omega) x7.nx
        refine ⟨[iv (nowP s1 c), v', iv ((i : Int) + 1)], h9, by simp [e9], ⟨by have := x7.nx; omega, fun q hq => ?_⟩, by simp [spreadG, hf]; omega, v', by simpa [spreadG, hf] using a9, by simp [spreadG]⟩
        rw [k9 q (by have := x7.nx; omega) (fun e => by have := (a7.blkOf e).1; rw [nx_new] at hq; omega)]
        exact x7.blk q hq)
  refine ⟨sv, h', x38 (k := l.length + 1) ?_ (by obtain ⟨x, y, z, hz⟩ := hap.isSl; rw [hz]; rfl), x1.trans hx, hap.slR⟩
  have hd : decide (0 ≤ p ∧ p < n) = true := decide_eq_true hp
  have kbls : ∀ (K : Value → H → Option (Value × H)), bls Try.prog (h.new (.row [iv n, sl] 31 true)) 25 1 [(0, .int .i64 (shl .i64 1 p))] K = K (.slice (some ⟨h.nx + 1, 0, none⟩) 1 1) ((h.new (.row [iv n, sl] 31 true)).new (.row [iv (shl .i64 1 p)] 3 true)) := fun K => bls_some (bls25 (shl .i64 1 p) (h.new (.row [iv n, sl] 31 true)))
  simp [f38, k71 (hs.ext x1), hv, nn_ge hp.1, hp, kbls, hs.len, lp_eq hl]

end Go.AM
