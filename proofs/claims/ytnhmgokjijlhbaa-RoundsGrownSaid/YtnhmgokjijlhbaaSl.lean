/- Bounds: the statements. -/
import Derived.Test.YtnhmgokjijlhbaaSk
namespace Go.AM
open Go.Proofs Go.Lives

variable {R : Type}

attribute [local simp] nx_eq nx_new nx_set blk_new blk_set asI_int asK_int asB_bool asP_ptr al_eq bx_eq len_slice onE_exit onE_ret onR_ret Value.cells d3 d22 d31 d60 d69 d70 w70 w60 w3 w22 cell_new cell_set rd_new rd_set off eq lt le ifB gv out eqF1 eqF2 eqF3 eqF4 eqF5 eqF6 eqF7 eqF8 ext20 ext21

theorem s11 {v0 v1 : Value} {l rd : List Int} {b : Int} {h : H} (hl : SlR h 3 1 v0 (cellsI l)) (hr : SlR h 3 1 v1 (cellsI rd)) : ∃ h', rn 11 #[v0, v1, iv b] h = some (.bool true, h') := by
  suffices hh : ∃ h', f11 rn 0 v0 v1 b h = some (.bool true, h') by
    obtain ⟨h', e⟩ := hh
    exact ⟨_, t11 e⟩
  obtain ⟨a1, h1, q1, x1, z1⟩ := s18 hl
  have c1 := fun (K : Value → H → Option (Value × H)) => calls_eq (K := K) (xs := [_]) q1
  obtain ⟨a2, h3, q3, x3, z3⟩ := s18 (hl.ext x1)
  have c3 := fun (K : Value → H → Option (Value × H)) => calls_eq (K := K) (xs := [_]) q3
  cases hg : growP l with
  | false =>
    have hg14 : growP (l.take 14) = false := by rw [grow_take]; exact hg
    have c2 := fun (K : Value → H → Option (Value × H)) => calls_eq (K := K) (xs := [_]) (s41_bad z1 hg14)
    have c4 := fun (K : Value → H → Option (Value × H)) => calls_eq (K := K) (xs := [_]) (s42_bad z3 hg14)
    obtain ⟨a5, h5, q5, x5, z5⟩ := s18 (hl.ext (x1.trans x3))
    have c5 := fun (K : Value → H → Option (Value × H)) => calls_eq (K := K) (xs := [_]) q5
    obtain ⟨a6, h6, q6, x6, z6⟩ := s30 (hr.ext ((x1.trans x3).trans x5))
    have c6 := fun (K : Value → H → Option (Value × H)) => calls_eq (K := K) (xs := [_]) q6
    have c7 := fun (K : Value → H → Option (Value × H)) => calls_eq (K := K) (xs := [_, _, _]) (s43_bad (v1 := a6) (b := b) (z5.ext x6) hg14)
    have c8 := fun (K : Value → H → Option (Value × H)) => calls_eq (K := K) (xs := [_]) (s44 (hl.ext (((x1.trans x3).trans x5).trans x6)))
    exact ⟨h6, by simp [f11, c1, c2, c3, c4, c5, c6, c7, c8, hg, k19]⟩
  | true =>
    obtain ⟨gl, rfl, hG, htk⟩ := grow_nI hg
    rw [htk] at z1 z3
    have c2 := fun (K : Value → H → Option (Value × H)) => calls_eq (K := K) (xs := [_]) (s41 z1 hG)
    obtain ⟨v8, h4, r, q4, x4, hsr, hkr, hrl⟩ := s42 z3 hG
    have c4 := fun (K : Value → H → Option (Value × H)) => calls_eq (K := K) (xs := [_]) q4
    have x14 := (x1.trans x3).trans x4
    obtain ⟨a5, h5, q5, x5, z5⟩ := s18 (hl.ext x14)
    rw [htk] at z5
    have c5 := fun (K : Value → H → Option (Value × H)) => calls_eq (K := K) (xs := [_]) q5
    obtain ⟨a6, h6, q6, x6, z6⟩ := s30 (hr.ext (x14.trans x5))
    have c6 := fun (K : Value → H → Option (Value × H)) => calls_eq (K := K) (xs := [_]) q6
    have e43 := s43 (b := b) (z5.ext x6) hG z6
    rw [sweeps_take] at e43
    have c7 := fun (K : Value → H → Option (Value × H)) => calls_eq (K := K) (xs := [_, _, _]) e43
    have x16 := (x14.trans x5).trans x6
    have c8 := fun (K : Value → H → Option (Value × H)) => calls_eq (K := K) (xs := [_]) (s44 (hl.ext x16))
    have c9 := fun (K : Value → H → Option (Value × H)) => calls_eq (K := K) (xs := [_]) (s45 (hl.ext x16) hG)
    have e46 := s46 (b := (boundP gl : Int)) (hl.ext x16) hG (hsr.ext (x5.trans x6))
    rw [sweeps_keeps hG (bound_spec hG).1.1 hkr hrl] at e46
    have c10 := fun (K : Value → H → Option (Value × H)) => calls_eq (K := K) (xs := [_, _, _]) e46
    have c11 := fun (K : Value → H → Option (Value × H)) => calls_eq (K := K) (xs := [_, _, _]) (s46 (b := b) (hl.ext x16) hG (hr.ext x16))
    exact ⟨h6, by simp [f11, c1, c2, c3, c4, c5, c6, c7, c8, hg, c9, c10, c11, keqv4, k19]⟩

theorem bls60_2 (v w : Value) (hv : ∃ x n c, v = .slice x n c) (hw : ∃ x n c, w = .slice x n c) (h : H) : buildSlice Try.prog 60 2 [(0, v), (1, w)] h = some (.slice (some ⟨h.nx, 0, none⟩) 2 2, h.new (.row [v, w] 22 true)) := by
  obtain ⟨x, n, c, rfl⟩ := hv
  obtain ⟨x', n', c', rfl⟩ := hw
  kernel_rfl

theorem s12 {v0 v1 : Value} {l rd : List Int} {h : H} (hl : SlR h 3 1 v0 (cellsI l)) (hr : SlR h 3 1 v1 (cellsI rd)) : ∃ h', rn 12 #[v0, v1] h = some (.bool true, h') := by
  suffices hh : ∃ h', f12 rn 200010 v0 v1 h = some (.bool true, h') by
    obtain ⟨h', e⟩ := hh
    exact ⟨_, t12 e⟩
  obtain ⟨a1, h1, q1, x1, z1⟩ := s18 hl
  have c1 := fun (K : Value → H → Option (Value × H)) => calls_eq (K := K) (xs := [_]) q1
  obtain ⟨a2, h3, q3, x3, z3⟩ := s18 (hl.ext x1)
  have c3 := fun (K : Value → H → Option (Value × H)) => calls_eq (K := K) (xs := [_]) q3
  cases hg : growP l with
  | false =>
    have hg14 : growP (l.take 14) = false := by rw [grow_take]; exact hg
    have c2 := fun (K : Value → H → Option (Value × H)) => calls_eq (K := K) (xs := [_]) (s41_bad z1 hg14)
    have c4 := fun (K : Value → H → Option (Value × H)) => calls_eq (K := K) (xs := [_]) (s42_bad z3 hg14)
    exact ⟨h3, by simp [f12, c1, c2, c3, c4, k19]⟩
  | true =>
    obtain ⟨gl, rfl, hG, htk⟩ := grow_nI hg
    have hglen := hG.len
    have hsum := sum_le hG
    obtain ⟨hf, hmin, hb1, hb2⟩ := bound_spec hG
    rw [htk] at z1 z3
    have c2 := fun (K : Value → H → Option (Value × H)) => calls_eq (K := K) (xs := [_]) (s41 z1 hG)
    obtain ⟨v8, h4, r, q4, x4, hsr, hkr, hrl⟩ := s42 z3 hG
    have c4 := fun (K : Value → H → Option (Value × H)) => calls_eq (K := K) (xs := [_]) q4
    have x14 := (x1.trans x3).trans x4
    have n0 : ∀ {T : Type} (K : Int → Option T), len v0 K = K (gl.length : Int) := fun K => by rw [hl.len]; simp
    -- the sum
    have l1 : lpGo (f12_l1 rn 200010 v0 gl.length) 200010 [iv 0, iv 0] h4 = some (.exit 0, [iv gl.sum, iv gl.length], h4) := by
      have hl1 := lp_same (ρ := Empty) (F := f12_l1 rn 200010 v0 gl.length) (k := 200010) (l := gl) (h := h4) (fun i (st : Nat) => [iv st, iv i])
        (fun _ x st => .inl (st + x)) (fun i st => st ≤ 5 * i) (fun _ => .ret) (fun _ => []) 0 (fun st => [iv st, iv gl.length]) (ws := [iv 0, iv 0]) (s0 := (0 : Nat)) rfl (Nat.le_refl _) (by omega) (by simp)
        (fun _ _ => by simp [f12_l1])
        (by
          intro i x st hx hI
          have hi := (List.getElem?_eq_some_iff.1 hx).1
          have hxx := hG.rng x (List.mem_of_getElem? hx)
          refine ⟨fun s' hs' => by cases hs'; omega, ?_⟩
          have e1 := fun (K : Value → Option (Ex × List Value × H)) => nI_get (hl.ext x14) hx K
          have hadd : add .i64 (i : Int) 1 = (i : Int) + 1 := add64 (by omega) (by omega)
          have hadd2 : add .i64 (st : Int) (x : Int) = (st : Int) + x := add64 (by omega) (by omega)
          simp [f12_l1, hi, e1, rnd, hadd, hadd2])
      rw [itL_inl (fun _ x st => st + x), foldI_l (fun (st x : Nat) => st + x)] at hl1
      have hf : ∀ (l : List Nat) (a : Nat), l.foldl (fun st x => st + x) a = a + l.sum := by
        intro l
        induction l with
        | nil => intro a; simp
        | cons x l ih => intro a; rw [List.foldl_cons, ih, List.sum_cons]; omega
      rw [hf, Nat.zero_add] at hl1
      exact hl1.1
    obtain ⟨a5, h8, q5, x5, z5⟩ := s18 (hl.ext x14)
    rw [htk] at z5
    have c5 := fun (K : Value → H → Option (Value × H)) => calls_eq (K := K) (xs := [_]) q5
    obtain ⟨a6, h9, q6, x6, z6⟩ := s30 (hsr.ext x5)
    have c6 := fun (K : Value → H → Option (Value × H)) => calls_eq (K := K) (xs := [_]) q6
    have e43 := s43 (b := (boundP gl : Int)) (z5.ext x6) hG z6
    rw [sweeps_take, sweeps_keeps hG hf.1 hkr hrl] at e43
    have c7 := fun (K : Value → H → Option (Value × H)) => calls_eq (K := K) (xs := [_, _, _]) e43
    have x19 := (x14.trans x5).trans x6
    -- both rounds
    have hv8 := hsr.ext (x5.trans x6)
    have hv1 := hr.ext x19
    have kb : ∀ (K : Value → H → Option (Value × H)), bls Try.prog h9 60 2 [(0, v8), (1, v1)] K = K (.slice (some ⟨h9.nx, 0, none⟩) 2 2) (h9.new (.row [v8, v1] 22 true)) := fun K => bls_some (bls60_2 v8 v1 hv8.isSl hv1.isSl h9)
    have x11 : Ext h9 (h9.new (.row [v8, v1] 22 true)) := .new _ _
    have hb11 : (h9.new (.row [v8, v1] 22 true)).blk h9.nx = some (.row [v8, v1] 22 true) := blk_new_self _ _
    have hn11 : (h9.new (.row [v8, v1] 22 true)).nx = h9.nx + 1 := rfl
    generalize h9.new (.row [v8, v1] 22 true) = h11 at *
    have x0 := x19.trans x11
    have hno : ∀ l' : List Int, sweepsB gl l' ((boundP gl : Int) - 1) = false := fun l' => by
      cases hw : sweepsB gl l' ((boundP gl : Int) - 1) with
      | false => rfl
      | true =>
        have hc : ((boundP gl : Int) - 1) = ((boundP gl - 1 : Nat) : Int) := by omega
        rw [hc] at hw
        exact absurd (sweeps_feas hG hw) (hmin _ (by omega))
    have hsub : sub .i64 (boundP gl : Int) 1 = (boundP gl : Int) - 1 := sub64 (by omega) (by omega)
    obtain ⟨ws', g', l2, xg, rfl⟩ := lp_for (σ := Unit) (F := f12_l2 rn 200010 v0 (boundP gl) (.slice (some ⟨h9.nx, 0, none⟩) 2 2) 2) (k := 200010) (l := List.range 2) (fun _ _ _ => ())
      (fun i _ ws g => Ext h11 g ∧ ws = [.bool false, iv i]) 2 (ws := [.bool false, iv 0]) (h := h11) (s0 := ()) ⟨.refl _, rfl⟩ (by simp)
      (by
        rintro _ ws g ⟨_, rfl⟩
        simp [f12_l2])
      (by
        rintro i x _ ws g hx ⟨xg, rfl⟩
        have hi := (List.getElem?_eq_some_iff.1 hx).1
        rw [List.length_range] at hi
        have hadd : add .i64 (i : Int) 1 = (i : Int) + 1 := add64 (by omega) (by omega)
        have hbg := (xg.blk h9.nx (by omega)).trans hb11
        obtain ⟨vv, ll, hvv, hsl⟩ : ∃ vv ll, [v8, v1][i]? = some vv ∧ SlR g 3 1 vv (cellsI ll) := by
          match i, hi with
          | 0, _ => exact ⟨v8, _, rfl, (hv8.ext x11).ext xg⟩
          | 1, _ => exact ⟨v1, _, rfl, (hv1.ext x11).ext xg⟩
        have e1 : ∀ (K : Value → Option (Ex × List Value × H)), (six (.slice (some ⟨h9.nx, 0, none⟩) 2 2) (i : Int) 1 fun b o => (g.cell b o).bind K) = K vv := fun K => by
          rw [six_in (by omega) (by omega)]
          simp [cell_of hbg, hvv]
        obtain ⟨b1, g1, r1, y1, w1⟩ := s18 (hl.ext (x0.trans xg))
        rw [htk] at w1
        obtain ⟨b2, g2, r2, y2, w2⟩ := s30 (hsl.ext y1)
        have d1 := fun (K : Value → H → Option (Ex × List Value × H)) => calls_eq (K := K) (xs := [_]) r1
        have d2 := fun (K : Value → H → Option (Ex × List Value × H)) => calls_eq (K := K) (xs := [_]) r2
        have e43 := s43 (b := (boundP gl : Int) - 1) (w1.ext y2) hG w2
        rw [hno] at e43
        have d3 := fun (K : Value → H → Option (Ex × List Value × H)) => calls_eq (K := K) (xs := [_, _, _]) e43
        refine ⟨[.bool false, iv ((i : Int) + 1)], g2, ?_, xg.trans (y1.trans y2), rfl⟩
        have hi2 : (i : Int) < 2 := by omega
        simp [f12_l2, hi2, e1, d1, d2, hsub, d3, hadd])
    have hmul : mul .i64 2 (gl.sum : Int) = ((2 * gl.sum : Nat) : Int) := by rw [mul64 (by omega) (by omega)]; simp
    have k1 : ∀ (K : Ex → List Value → H → Option (Value × H)), lp 200010 (f12_l1 rn 200010 v0 gl.length) [.int .i64 0, .int .i64 0] h4 K = K (.exit 0) [iv gl.sum, iv gl.length] h4 := fun K => lp_eq l1
    have k2 : ∀ (K : Ex → List Value → H → Option (Value × H)), lp 200010 (f12_l2 rn 200010 v0 (boundP gl) (.slice (some ⟨h9.nx, 0, none⟩) 2 2) 2) [.bool false, .int .i64 0] h11 K = K (.exit 2) [.bool false, iv (List.range 2).length] g' := fun K => lp_eq l2
    have t1 : ¬ (boundP gl : Int) < (gl.sum : Int) := by omega
    have t2 : ¬ ((2 * gl.sum : Nat) : Int) < (boundP gl : Int) := by omega
    refine ⟨g', ?_⟩
    unfold f12
    rw [c1, c2]
    simp only [ext20, ext21, asI_int]
    rw [c3, c4]
    simp only [ext20, ext21, asI_int, show (!AM.eq 0 0) = false from rfl, ifB_false, n0]
    rw [k1]
    simp only [onE_exit, if_true, c5, c6, c7, ext20, ext21, asB_bool, asI_int, show (!AM.eq 0 0) = false from rfl, ifB_false, Bool.not_true, AM.gv, List.getD_cons_zero, lt_f t1, hmul, lt_f t2, kb, len_slice]
    refine (k2 _).trans ?_
    simp [k19]

end Go.AM
