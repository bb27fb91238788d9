/- Bound, Sweep, CheckSweep, and the document's. -/
import Derived.Test.YtnhmgokjijlhbaaSj
namespace Go.AM
open Go.Proofs Go.Lives

variable {R : Type}

attribute [local simp] nx_eq nx_new nx_set blk_new blk_set asI_int asK_int asB_bool asP_ptr al_eq bx_eq len_slice onE_exit onE_ret onR_ret Value.cells d3 d22 d31 d60 d69 d70 w70 w60 w3 w22 cell_new cell_set rd_new rd_set off eq lt le ifB gv out eqF1 eqF2 eqF3 eqF4 eqF5 eqF6 eqF7 eqF8 ext20 ext21

theorem SlR.notR2' {h : H} {e : TypeId} {s : Nat} {v : Value} {n : Int} {l : List (List Value)} (a : SlR h e s v l) : plainO (.tuple #[iv n, v]) = false := by
  obtain ⟨x, n, c, rfl⟩ := a.isSl; rfl

theorem s76 {v : Value} {gl : List Nat} {h : H} (hs : SlR h 3 1 v (cellsI (nI gl))) (hg : GrowI gl) :
    ∃ v' h' r, rn 76 #[v] h = some (.tuple #[iv (boundP gl), v'], h') ∧ Ext h h' ∧ SlR h' 3 1 v' (cellsI (nI r)) ∧ KeepsR (divL gl (boundP gl)) r ∧ r.length ≤ 20000 := by
  obtain ⟨hf, hmin, hb1, hb2⟩ := bound_spec hg
  have hsum := sum_le hg
  obtain ⟨e, ws', h', hlp, rfl, w0, v', w2, rfl, xg, r, hsr, hkr, hrl, rfl⟩ := lpGo_inv (F := f76_l1 rn 200010 v)
    (fun d ws g => ∃ (b : Nat) (w0 w1 : Value), ws = [w0, w1, iv b] ∧ b ≤ boundP gl ∧ d = boundP gl - b ∧ Ext h g)
    (fun e ws g => e = .ret ∧ ∃ w0 v' w2, ws = [w0, v', w2] ∧ Ext h g ∧ ∃ r, SlR g 3 1 v' (cellsI (nI r)) ∧ KeepsR (divL gl (boundP gl)) r ∧ r.length ≤ 20000 ∧ w0 = iv (boundP gl))
    (by
      rintro d ws g ⟨b, w0, w1, rfl, hb, rfl, xg⟩
      have hadd : add .i64 (b : Int) 1 = (b : Int) + 1 := add64 (by omega) (by omega)
      obtain ⟨v1, g2, e97, x2, hD⟩ := s97 (b := b) (hs.ext xg) hg (by omega)
      have c97 := fun (K : Value → H → Option (Ex × List Value × H)) => calls_eq (K := K) (xs := [_, _]) e97
      rcases hD with ⟨hno, rfl⟩ | ⟨hall, bb, ia⟩
      · have hne : b ≠ boundP gl := fun e => hno (by rw [e]; exact hf.1)
        have kn : ∀ (K : Bool → Option (Ex × List Value × H)), eqv Try.prog 69 (.slice none 0 0) (.slice none 0 0) K = K true := fun K => by unfold eqv; rw [nil69]
        refine ⟨.normal, [w0, w1, iv ((b : Int) + 1)], g2, ?_, .inl ⟨rfl, boundP gl - (b + 1), by omega, b + 1, w0, w1, rfl, by omega, rfl, xg.trans x2⟩⟩
        simp [f76_l1, c97, kn, hadd]
      · have htI := divL_task hg hall (by omega)
        have hok := divL_ok hg.rng hall
        obtain ⟨c, hv1, _, _⟩ := ia.val
        have ks : ∀ (K : Bool → Option (Ex × List Value × H)), eqv Try.prog 69 v1 (.slice none 0 0) K = K false := fun K => by rw [hv1]; unfold eqv; rw [some69]
        obtain ⟨g3, e54, x3, hM⟩ := s54 ia.slR htI
        have c54 := fun (K : Value → H → Option (Ex × List Value × H)) => calls_eq (K := K) (xs := [_]) e54
        obtain ⟨v3, g4, e55, x4, hR⟩ := s55 htI hM (ia.slR.ext x3)
        have c55 := fun (K : Value → H → Option (Ex × List Value × H)) => calls_eq (K := K) (xs := [_]) e55
        have xx := xg.trans ((x2.trans x3).trans x4)
        rcases hR with ⟨h1, rfl⟩ | ⟨h1, r, c', hc', hsr, hrne, hrl, hrt, hw⟩
        · have hne : b ≠ boundP gl := fun e => by
            have := hf.2
            rw [← e] at this
            omega
          have kn : ∀ (K : Bool → Option (Ex × List Value × H)), eqv Try.prog 22 (.slice none 0 0) (.slice none 0 0) K = K true := fun K => by unfold eqv; rw [nil22]
          refine ⟨.normal, [w0, w1, iv ((b : Int) + 1)], g4, ?_, .inl ⟨rfl, boundP gl - (b + 1), by omega, b + 1, w0, w1, rfl, by omega, rfl, xx⟩⟩
          simp [f76_l1, c97, ks, c54, c55, kn, hadd]
        · have hbe : b = boundP gl := by
            refine Classical.byContradiction fun hc => ?_
            exact hmin b (by omega) ⟨hall, h1⟩
          have ks2 : ∀ (K : Bool → Option (Ex × List Value × H)), eqv Try.prog 22 v3 (.slice none 0 0) K = K false := fun K => by
            generalize hL : cellsI (nI r) = L at hsr
            cases hsr with
            | nil => exact absurd (by simpa using hL) hrne
            | at_ => unfold eqv; rw [some22]
          have hcnt := (taskI_ok htI).2.2.2.1
          refine ⟨.ret, [iv b, v3, iv b], g4, ?_, .inr ⟨by simp, rfl, _, _, _, rfl, xx, r, hsr, ?_, by omega, by rw [hbe]⟩⟩
          · simp [f76_l1, c97, ks, c54, c55, ks2]
          · rw [← hbe]; exact cyc_keeps hok hrne hrt hw)
    (boundP gl - 1) 200010 (by omega) ⟨1, .int .i64 0, .slice none 0 0, rfl, by omega, rfl, .refl _⟩
  refine ⟨v', h', r, x76 (k := 200010) ?_ hsr.notR2', xg, hsr, hkr, hrl⟩
  unfold f76
  refine (lp_eq hlp).trans ?_
  simp

theorem s41_bad {v : Value} {l : List Int} {h : H} (hs : SlR h 3 1 v (cellsI l)) (hg : growP l = false) : rn 41 #[v] h = some (.tuple #[iv 0, iv 2], h) := by
  have c75 := fun (K : Value → H → Option (Value × H)) => calls_eq (K := K) (xs := [_]) (s75 hs)
  refine p41 (k := 0) (h1 := h) ?_ rfl (.refl _)
  simp [f41, c75, hg]

theorem s42_bad {v : Value} {l : List Int} {h : H} (hs : SlR h 3 1 v (cellsI l)) (hg : growP l = false) : rn 42 #[v] h = some (.tuple #[.slice none 0 0, iv 2], h) := by
  have c75 := fun (K : Value → H → Option (Value × H)) => calls_eq (K := K) (xs := [_]) (s75 hs)
  refine x42 (k := 0) (h1 := h) ?_ rfl
  simp [f42, c75, hg]

theorem growP_nI {gl : List Nat} (hg : GrowI gl) : growP (nI gl) = true := by
  unfold growP
  rw [Bool.and_eq_true, decide_eq_true_iff, List.all_eq_true]
  refine ⟨by simpa using hg.len, fun x hx => ?_⟩
  obtain ⟨y, hy, rfl⟩ := List.mem_map.1 hx
  have := hg.rng y hy
  simp
  omega

theorem s41 {v : Value} {gl : List Nat} {h : H} (hs : SlR h 3 1 v (cellsI (nI gl))) (hg : GrowI gl) : rn 41 #[v] h = some (.tuple #[iv (boundP gl), iv 0], h) := by
  have c75 := fun (K : Value → H → Option (Value × H)) => calls_eq (K := K) (xs := [_]) (s75 hs)
  obtain ⟨v', h', r, e, x, _⟩ := s76 hs hg
  have c76 := fun (K : Value → H → Option (Value × H)) => calls_eq (K := K) (xs := [_]) e
  refine p41 (k := 0) (h1 := h') ?_ rfl x
  simp [f41, c75, growP_nI hg, c76]

theorem s42 {v : Value} {gl : List Nat} {h : H} (hs : SlR h 3 1 v (cellsI (nI gl))) (hg : GrowI gl) :
    ∃ v' h' r, rn 42 #[v] h = some (.tuple #[v', iv 0], h') ∧ Ext h h' ∧ SlR h' 3 1 v' (cellsI (nI r)) ∧ KeepsR (divL gl (boundP gl)) r ∧ r.length ≤ 20000 := by
  have c75 := fun (K : Value → H → Option (Value × H)) => calls_eq (K := K) (xs := [_]) (s75 hs)
  obtain ⟨v', h', r, e, x, hsr, hkr, hrl⟩ := s76 hs hg
  have c76 := fun (K : Value → H → Option (Value × H)) => calls_eq (K := K) (xs := [_]) e
  refine ⟨v', h', r, x42 (k := 0) ?_ hsr.notR2, x, hsr, hkr, hrl⟩
  simp [f42, c75, growP_nI hg, c76]

/-- The document's bound. -/
theorem s45 {v : Value} {gl : List Nat} {h : H} (hs : SlR h 3 1 v (cellsI (nI gl))) (hg : GrowI gl) : rn 45 #[v] h = some (iv (boundP gl), h) := by
  obtain ⟨hf, hmin, hb1, hb2⟩ := bound_spec hg
  have hsum := sum_le hg
  have hlen := hg.len
  have hn : ∀ {T : Type} (K : Int → Option T), len v K = K (gl.length : Int) := fun K => by rw [hs.len]; simp
  have l1 : lpGo (f45_l1 rn 200010 v gl.length) 200010 [iv 0, iv 0] h = some (.exit 0, [iv gl.sum, iv gl.length], h) := by
    have hl1 := lp_same (ρ := Empty) (F := f45_l1 rn 200010 v gl.length) (k := 200010) (l := gl) (h := h) (fun i (st : Nat) => [iv st, iv i])
      (fun _ x st => .inl (st + x)) (fun i st => st ≤ 5 * i) (fun _ => .ret) (fun _ => []) 0 (fun st => [iv st, iv gl.length]) (ws := [iv 0, iv 0]) (s0 := (0 : Nat)) rfl (Nat.le_refl _) (by omega) (by simp)
      (fun _ _ => by simp [f45_l1])
      (by
        intro i x st hx hI
        have hi := (List.getElem?_eq_some_iff.1 hx).1
        have hxx := hg.rng x (List.mem_of_getElem? hx)
        refine ⟨fun s' hs' => by cases hs'; omega, ?_⟩
        have e1 := fun (K : Value → Option (Ex × List Value × H)) => nI_get hs hx K
        have hadd : add .i64 (i : Int) 1 = (i : Int) + 1 := add64 (by omega) (by omega)
        have hadd2 : add .i64 (st : Int) (x : Int) = (st : Int) + x := add64 (by omega) (by omega)
        simp [f45_l1, hi, e1, rnd, hadd, hadd2])
    rw [itL_inl (fun _ x st => st + x), foldI_l (fun (st x : Nat) => st + x)] at hl1
    have hf : ∀ (l : List Nat) (a : Nat), l.foldl (fun st x => st + x) a = a + l.sum := by
      intro l
      induction l with
      | nil => intro a; simp
      | cons x l ih => intro a; rw [List.foldl_cons, ih, List.sum_cons]; omega
    rw [hf, Nat.zero_add] at hl1
    exact hl1.1
  obtain ⟨e, ws', h', hlp, rfl, w1, rfl, xg⟩ := lpGo_inv (F := f45_l2 rn 200010 v)
    (fun d ws g => ∃ (b : Nat) (w0 : Value), ws = [w0, iv b] ∧ gl.sum ≤ b ∧ b ≤ boundP gl ∧ d = boundP gl - b ∧ Ext h g)
    (fun e ws g => e = .ret ∧ ∃ w1, ws = [iv (boundP gl), w1] ∧ Ext h g)
    (by
      rintro d ws g ⟨b, w0, rfl, hb0, hb, rfl, xg⟩
      have hadd : add .i64 (b : Int) 1 = (b : Int) + 1 := add64 (by omega) (by omega)
      have hall : ∀ n ∈ gl, n ≤ b := fun n hn => by have := mem_le_sum hn; omega
      obtain ⟨ws3, g3, e3, x3, sv, hap, rfl⟩ := lp_for (σ := Unit) (F := f45_l3 rn 200010 v [w0, iv b] gl.length) (k := 200010) (l := gl) (fun _ _ _ => ())
        (fun i _ ws g' => Ext g g' ∧ ∃ sv, AqR g.nx g' 3 1 sv (cellsI (nI (divL (gl.take i) b))) ∧ ws = [sv, iv i]) 4 (ws := [.slice none 0 0, iv 0]) (h := g) (s0 := ())
        ⟨.refl _, _, .nil, rfl⟩ (by omega)
        (by
          rintro _ ws g' ⟨_, sv, _, rfl⟩
          simp [f45_l3])
        (by
          rintro i n _ ws g' hx ⟨xg', sv, hap, rfl⟩
          have hi := (List.getElem?_eq_some_iff.1 hx).1
          have hn1 := hg.rng n (List.mem_of_getElem? hx)
          have e1 := fun (K : Value → Option (Ex × List Value × H)) => nI_get (hs.ext (xg.trans xg')) hx K
          have haddi : add .i64 (i : Int) 1 = (i : Int) + 1 := add64 (by omega) (by omega)
          have hq : quo .i64 (b : Int) (n : Int) = ((b / n : Nat) : Int) := quo_nat (by omega)
          have hnz : ∀ (x : Option (Ex × List Value × H)), nz (n : Int) x = x := fun x => nz_ne (by omega) x
          obtain ⟨v', g5, e9, a9, n9, k9, b9, hb9, hb9'⟩ := hap.push app22 app22 (bls22 ((b / n : Nat) : Int)) rfl rfl (by simp [divL]; omega) xg'.nx
          refine ⟨[v', iv ((i : Int) + 1)], g5, ?_, ⟨by have := xg'.nx; omega, fun q hq => ?_⟩, v', ?_, rfl⟩
          · have ee : ∀ (K : Value → H → Option (Ex × List Value × H)), (bls Try.prog g' 22 1 [(0, iv ((b / n : Nat) : Int))] fun y h2 => app Try.prog h2 22 22 sv y K) = K v' g5 := fun K => e9 K
            simp only [f45_l3, AM.gv, List.getD_cons_succ, List.getD_cons_zero, asI_int, lt_t (show (i : Int) < gl.length by omega), ifB_true, asK_int, d3, e1, hnz, hq]
            rw [ee]
            simp [haddi]
          · rw [k9 q (by have := xg'.nx; omega) (fun e => by have := (hap.blkOf e).1; omega)]
            exact xg'.blk q hq
          · have er : cellsI (nI (divL (gl.take (i + 1)) b)) = cellsI (nI (divL (gl.take i) b)) ++ [[iv ((b / n : Nat) : Int)]] := by
              unfold divL
              rw [List.take_add_one, hx]
              simp
            rw [er]
            exact a9)
      rw [List.take_length] at hap
      have htI := divL_task hg hall (by omega)
      have hok := divL_ok hg.rng hall
      have hsv := hap.slR
      obtain ⟨hbeg, hbs⟩ := beg_spec hok
      obtain ⟨v5, g8, bl, e62, x8, ia⟩ := s62 hsv htI
      have c62 := fun (K : Value → H → Option (Ex × List Value × H)) => calls_eq (K := K) (xs := [_]) e62
      have hsv8 := hsv.ext x8
      have hstb := state_ok hok (beg (divL gl b))
      rw [hbs] at hstb
      have e63 := s63 hsv8 hsv8 htI hstb
      have hcb := code_state hok hbeg
      rw [hbs] at hcb
      rw [hcb] at e63
      have c63 := fun (K : Value → H → Option (Ex × List Value × H)) => calls_eq (K := K) (xs := [_, _]) e63
      have e4 : ∀ (K : Value → Option (Ex × List Value × H)), (six v5 (beg (divL gl b) : Int) 1 fun b o => (g8.cell b o).bind K) = K (iv (lifeF (divL gl b) (beg (divL gl b)))) := fun K => ia.get (by omega) (by rw [Int.toNat_natCast]; exact mapr_get _ hbeg) K
      have hlt := lifeF_lt hok hbeg
      have k3 : ∀ (K : Ex → List Value → H → Option (Ex × List Value × H)), lp 200010 (f45_l3 rn 200010 v [w0, iv b] gl.length) [.slice none 0 0, .int .i64 0] g K = K (.exit 4) [sv, iv gl.length] g3 := fun K => lp_eq e3
      by_cases hneg : lifeF (divL gl b) (beg (divL gl b)) < 0
      · have hbe : b = boundP gl := by
          refine Classical.byContradiction fun hc => ?_
          exact hmin b (by omega) ⟨hall, by omega⟩
        refine ⟨.ret, [iv b, iv b], g8, ?_, .inr ⟨by simp, rfl, _, by rw [hbe], xg.trans (x3.trans x8)⟩⟩
        simp [f45_l2, hn, k3, c62, c63, e4, hneg]
      · have hne : b ≠ boundP gl := fun e => by
          have := hf.2
          rw [← e] at this
          omega
        refine ⟨.normal, [w0, iv ((b : Int) + 1)], g8, ?_, .inl ⟨rfl, boundP gl - (b + 1), by omega, b + 1, w0, rfl, by omega, by omega, rfl, xg.trans (x3.trans x8)⟩⟩
        simp [f45_l2, hn, k3, c62, c63, e4, hneg, hadd])
    (boundP gl - gl.sum) 200010 (by omega) ⟨gl.sum, .int .i64 0, rfl, Nat.le_refl _, hb1, rfl, .refl _⟩
  refine p45 (k := 200010) (h1 := h') ?_ rfl xg
  unfold f45
  rw [hn]
  refine (lp_eq l1).trans ?_
  rw [onE_exit, if_pos rfl]
  refine (lp_eq hlp).trans ?_
  simp

/-! ### The checks -/

theorem doneR_pos (f : Nat → Nat) (i : Nat) : ∀ k, (seqR f i k).2.2 = true → 1 ≤ (seqR f i k).2.1 := by
  intro k
  induction k with
  | zero => intro h; simp [seqR] at h
  | succ k ih =>
    rw [seqR_succ]
    have h1 := (seqR_spec f i k).1
    have h2 := lastH_le f i k
    unfold stepR
    split
    · intro _
      simp only [imax]
      split <;> omega
    · exact ih

theorem itL_swp {σ ρ : Type} {gl r : List Nat} {b : Int} {g : Nat → Nat → ρ} {s0 : σ} {ok : Nat → Nat → Bool} (hir : isRoundP gl.length 20000 (nI r) = true) (hok : ∀ (i n : Nat), gl[i]? = some n → (ok i n = true ↔ ∃ m : Nat, 1 ≤ m ∧ ((m * n : Nat) : Int) ≤ b ∧ Win r i m)) :
    (∃ x, itL (fun i n s => if ok i n = true then .inl s else .inr (g i n)) gl 0 s0 = .inr x ∧ sweepsB gl (nI r) b = false) ∨ (itL (fun i n s => if ok i n = true then .inl s else .inr (g i n)) gl 0 s0 = (.inl s0 : σ ⊕ ρ) ∧ sweepsB gl (nI r) b = true) := by
  rcases itL_all (σ := σ) (ρ := ρ) (ok := ok) (g := g) (s0 := s0) gl 0 with ⟨⟨x, hx⟩, j, n, hj, hf⟩ | ⟨hx, hall⟩
  · refine .inl ⟨x, hx, ?_⟩
    cases hw : sweepsB gl (nI r) b with
    | false => rfl
    | true =>
      obtain ⟨_, h2⟩ := sweepsB_iff.1 hw
      rw [toNat_nI] at h2
      have := (hok j n hj).2 (h2 j n hj)
      rw [Nat.zero_add] at hf
      rw [hf] at this
      cases this
  · refine .inr ⟨hx, sweepsB_iff.2 ⟨hir, fun i n hi => ?_⟩⟩
    rw [toNat_nI]
    have := hall i n hi
    rw [Nat.zero_add] at this
    exact (hok i n hi).1 this

theorem s43_bad {v0 v1 : Value} {l : List Int} {b : Int} {h : H} (hl : SlR h 3 1 v0 (cellsI l)) (hg : growP l = false) : rn 43 #[v0, v1, iv b] h = some (.tuple #[.bool false, iv 2], h) := by
  have c75 := fun (K : Value → H → Option (Value × H)) => calls_eq (K := K) (xs := [_]) (s75 hl)
  refine p43 (k := 0) (h1 := h) ?_ rfl (.refl _)
  simp [f43, c75, hg]

theorem s43 {v0 v1 : Value} {gl : List Nat} {l : List Int} {b : Int} {h : H} (hl : SlR h 3 1 v0 (cellsI (nI gl))) (hg : GrowI gl) (hr : SlR h 3 1 v1 (cellsI l)) : rn 43 #[v0, v1, iv b] h = some (.tuple #[.bool (sweepsB gl l b), iv 0], h) := by
  have hlen := hg.len
  have c75 := fun (K : Value → H → Option (Value × H)) => calls_eq (K := K) (xs := [_]) (s75 hl)
  have hgp := growP_nI hg
  have c68 := fun (K : Value → H → Option (Value × H)) => calls_eq (K := K) (xs := [_, _, _]) (s68 (n := gl.length) (most := 20000) hr (by omega))
  have hn : ∀ {T : Type} (K : Int → Option T), len v0 K = K (gl.length : Int) := fun K => by rw [hl.len]; simp
  refine p43 (k := 200010) (h1 := h) ?_ rfl (.refl _)
  cases hir : isRoundP gl.length 20000 l with
  | false =>
    have : sweepsB gl l b = false := by
      cases hw : sweepsB gl l b with
      | false => rfl
      | true => rw [(sweepsB_iff.1 hw).1] at hir; cases hir
    rw [hir] at c68
    simp only [Int.cast_ofNat_Int] at c68
    simp [f43, c75, hgp, hn, c68, this]
  | true =>
    obtain ⟨r, rfl, hrne, hrl, hrt⟩ := isRound_nI hir
    rw [hir] at c68
    have hlp := lp_same (ρ := Nat) (F := f43_l1 rn 200010 v0 v1 b gl.length) (k := 200010) (l := gl) (h := h) (fun i (_ : Unit) => [.bool false, iv 0, iv i])
      (fun i n s => if (decide ((seqP (dayT r) i (2 * r.length)).1 ≠ 0) && decide ((seqP (dayT r) i (2 * r.length)).1 * n ≤ b)) = true then .inl s else .inr i) (fun _ _ => True) (fun _ => .ret) (fun i => [.bool false, iv 0, iv i]) 0 (fun _ => [.bool false, iv 0, iv gl.length]) (ws := [.bool false, iv 0, iv 0]) (s0 := ()) rfl trivial (by omega) (by simp)
      (fun _ _ => by simp [f43_l1])
      (by
        intro i n _ hx _
        have hi := (List.getElem?_eq_some_iff.1 hx).1
        have hn1 := hg.rng n (List.mem_of_getElem? hx)
        refine ⟨fun _ _ => trivial, ?_⟩
        have e1 := fun (K : Value → Option (Ex × List Value × H)) => nI_get hl hx K
        have c69 := fun (K : Value → H → Option (Ex × List Value × H)) => calls_eq (K := K) (xs := [_, _]) (s69 (i := i) hr (by omega))
        have hadd : add .i64 (i : Int) 1 = (i : Int) + 1 := add64 (by omega) (by omega)
        obtain ⟨_, hg0', hg1, _⟩ := seqP_spec (dayT r) i (2 * r.length)
        generalize (seqP (dayT r) i (2 * r.length)).1 = g at *
        have hmul : mul .i64 g (n : Int) = g * n := by
          have h1 : g * n ≤ 40000 * 5 := Int.mul_le_mul (by omega) (by omega) (by omega) (by omega)
          have h2 : 0 ≤ g * n := Int.mul_nonneg hg0' (by omega)
          exact mul64 (by omega) (by omega)
        by_cases hg0 : g = 0
        · simp [f43_l1, hi, e1, c69, hg0, rnd]
        · by_cases hgn : g * n ≤ b
          · simp [f43_l1, hi, e1, c69, hg0, hmul, show ¬ b < g * n by omega, hgn, hadd, rnd]
          · simp [f43_l1, hi, e1, c69, hg0, hmul, show b < g * n by omega, hgn, rnd])
    have hiff : ∀ (i n : Nat), gl[i]? = some n → ((decide ((seqP (dayT r) i (2 * r.length)).1 ≠ 0) && decide ((seqP (dayT r) i (2 * r.length)).1 * n ≤ b)) = true ↔ ∃ m : Nat, 1 ≤ m ∧ ((m * n : Nat) : Int) ≤ b ∧ Win r i m) := fun i n hi => by
      have hn1 := hg.rng n (List.mem_of_getElem? hi)
      obtain ⟨_, hg0', _⟩ := seqP_spec (dayT r) i (2 * r.length)
      have hw := fun m hm => gapP_win (r := r) (i := i) (n := m) hrne hm
      generalize (seqP (dayT r) i (2 * r.length)).1 = g at *
      obtain ⟨m, rfl⟩ := Int.eq_ofNat_of_zero_le hg0'
      rw [Bool.and_eq_true, decide_eq_true_iff, decide_eq_true_iff]
      constructor
      · rintro ⟨h1, h2⟩
        have hm1 : 1 ≤ m := by omega
        exact ⟨m, hm1, by rw [Int.natCast_mul]; exact h2, (hw m hm1).2 ⟨h1, Int.le_refl _⟩⟩
      · rintro ⟨m', h1, h2, h3⟩
        obtain ⟨h4, h5⟩ := (hw m' h1).1 h3
        refine ⟨h4, Int.le_trans ?_ h2⟩
        rw [← Int.natCast_mul]
        have : m * n ≤ m' * n := Nat.mul_le_mul_right n (by omega)
        omega
    simp only [Int.cast_ofNat_Int] at c68
    rcases itL_swp (σ := Unit) (ρ := Nat) (g := fun i _ => i) (s0 := ()) hir hiff with ⟨x, h1, h2⟩ | ⟨h1, h2⟩
    · rw [h1] at hlp
      rw [h2]
      simp [f43, c75, hgp, hn, c68, lp_eq hlp]
    · rw [h1] at hlp
      rw [h2]
      simp [f43, c75, hgp, hn, c68, lp_eq hlp.1]

theorem s46 {v0 v1 : Value} {gl : List Nat} {l : List Int} {b : Int} {h : H} (hl : SlR h 3 1 v0 (cellsI (nI gl))) (hg : GrowI gl) (hr : SlR h 3 1 v1 (cellsI l)) : rn 46 #[v0, v1, iv b] h = some (.bool (sweepsB gl l b), h) := by
  have hglen := hg.len
  have hn : ∀ {T : Type} (K : Int → Option T), len v0 K = K (gl.length : Int) := fun K => by rw [hl.len]; simp
  have hn1 : ∀ {T : Type} (K : Int → Option T), len v1 K = K (l.length : Int) := fun K => by rw [hr.len]; simp
  refine p46 (k := 200010) (h1 := h) ?_ rfl (.refl _)
  by_cases hlen : 1 ≤ l.length ∧ l.length ≤ 20000
  · have q1 : ¬ (l.length : Int) < 1 := by omega
    have q2 : ¬ (20000 : Int) < (l.length : Int) := by omega
    have hlp := lp_same (ρ := Nat) (F := f46_l1 rn 200010 v0 v1 l.length) (k := 200010) (l := l) (h := h) (fun i (_ : Unit) => [.bool false, iv i])
      (fun i x s => if decide (0 ≤ x ∧ x < (gl.length : Int)) = true then .inl s else .inr i) (fun _ _ => True) (fun _ => .ret) (fun i => [.bool false, iv i]) 0 (fun _ => [.bool false, iv l.length]) (ws := [.bool false, iv 0]) (s0 := ()) rfl trivial (by omega) (by simp)
      (fun _ _ => by simp [f46_l1])
      (by
        intro i x _ hx _
        have hi := (List.getElem?_eq_some_iff.1 hx).1
        refine ⟨fun _ _ => trivial, ?_⟩
        have e1 : ∀ (K : Value → Option (Ex × List Value × H)), (six v1 (i : Int) 1 fun b o => (h.cell b o).bind K) = K (iv x) := fun K => hr.c0 (by omega) (x := [iv x]) (by simp [hx]) rfl K
        have hadd : add .i64 (i : Int) 1 = (i : Int) + 1 := add64 (by omega) (by omega)
        by_cases h0 : x < 0
        · simp [f46_l1, hi, e1, h0, show ¬ 0 ≤ x by omega, rnd]
        · by_cases h2 : x < gl.length
          · simp [f46_l1, hi, e1, h0, hn, show ¬ (gl.length : Int) ≤ x by omega, show 0 ≤ x by omega, h2, hadd, rnd]
          · simp [f46_l1, hi, e1, h0, hn, show (gl.length : Int) ≤ x by omega, h2, rnd])
    rcases itL_all (σ := Unit) (ρ := Nat) (ok := fun _ (x : Int) => decide (0 ≤ x ∧ x < (gl.length : Int))) (g := fun i _ => i) (s0 := ()) l 0 with ⟨⟨x, hx⟩, j, y, hj, hf⟩ | ⟨hx, hall⟩
    · rw [hx] at hlp
      have hkb : sweepsB gl l b = false := by
        cases hw : sweepsB gl l b with
        | false => rfl
        | true =>
          have h1 := (sweepsB_iff.1 hw).1
          unfold isRoundP at h1
          rw [Bool.and_eq_true, List.all_eq_true] at h1
          have := h1.2 y (List.mem_of_getElem? hj)
          rw [hf] at this
          cases this
      rw [hkb]
      simp [f46, hn1, q1, q2, lp_eq hlp]
    · rw [hx] at hlp
      have hir : isRoundP gl.length 20000 l = true := by
        unfold isRoundP
        rw [Bool.and_eq_true, decide_eq_true_iff, List.all_eq_true]
        refine ⟨hlen, fun x hx => ?_⟩
        obtain ⟨j, hj⟩ := List.getElem?_of_mem hx
        exact hall j x hj
      obtain ⟨r, rfl, hrne, hrl, hrt⟩ := isRound_nI hir
      have hlp1 := hlp.1
      simp only [List.length_map] at hn1 q1 q2 hlp1
      have hlp2 := lp_same (ρ := Nat) (F := f46_l2 rn 200010 v0 v1 b gl.length) (k := 200010) (l := gl) (h := h) (fun i (_ : Unit) => [.bool false, iv i])
        (fun i n s => if (decide (gapZ r i ≠ 1073741824) && decide (gapZ r i * n ≤ b)) = true then .inl s else .inr i) (fun _ _ => True) (fun _ => .ret) (fun i => [.bool false, iv i]) 2 (fun _ => [.bool false, iv gl.length]) (ws := [.bool false, iv 0]) (s0 := ()) rfl trivial (by omega) (by simp)
        (fun _ _ => by simp [f46_l2])
        (by
          intro i n _ hx _
          have hi := (List.getElem?_eq_some_iff.1 hx).1
          have hnn := hg.rng n (List.mem_of_getElem? hx)
          refine ⟨fun _ _ => trivial, ?_⟩
          have e1 := fun (K : Value → Option (Ex × List Value × H)) => nI_get hl hx K
          have c70 := fun (K : Value → H → Option (Ex × List Value × H)) => calls_eq (K := K) (xs := [_, _]) (s70 (i := i) hr (by omega))
          have hadd : add .i64 (i : Int) 1 = (i : Int) + 1 := add64 (by omega) (by omega)
          have hgz : 0 ≤ gapZ r i ∧ gapZ r i ≤ 1073741824 := by
            obtain ⟨_, _, h3, h4, _⟩ := seqR_spec (dayT r) i (2 * r.length)
            unfold gapZ
            split <;> omega
          generalize gapZ r i = g at *
          have hmul : mul .i64 g (n : Int) = g * n := by
            have h1 : g * n ≤ 1073741824 * 5 := Int.mul_le_mul (by omega) (by omega) (by omega) (by omega)
            have h2 : 0 ≤ g * n := Int.mul_nonneg hgz.1 (by omega)
            exact mul64 (by omega) (by omega)
          by_cases hg0 : g = 1073741824
          · simp [f46_l2, hi, e1, c70, hg0, rnd]
          · by_cases hgn : g * n ≤ b
            · simp [f46_l2, hi, e1, c70, hg0, hmul, show ¬ b < g * n by omega, hgn, hadd, rnd]
            · simp [f46_l2, hi, e1, c70, hg0, hmul, show b < g * n by omega, hgn, rnd])
      have hiff : ∀ (i n : Nat), gl[i]? = some n → ((decide (gapZ r i ≠ 1073741824) && decide (gapZ r i * n ≤ b)) = true ↔ ∃ m : Nat, 1 ≤ m ∧ ((m * n : Nat) : Int) ≤ b ∧ Win r i m) := fun i n hi => by
        have hnn := hg.rng n (List.mem_of_getElem? hi)
        obtain ⟨_, _, h3, h4, _⟩ := seqR_spec (dayT r) i (2 * r.length)
        have hd := doneR_pos (dayT r) i (2 * r.length)
        have hw := fun m hm => gapR_win (r := r) (i := i) (n := m) hrne hm
        unfold gapZ
        generalize (seqR (dayT r) i (2 * r.length)).2.1 = g at *
        generalize (seqR (dayT r) i (2 * r.length)).2.2 = q at *
        obtain ⟨m, rfl⟩ := Int.eq_ofNat_of_zero_le h3
        rw [Bool.and_eq_true, decide_eq_true_iff, decide_eq_true_iff]
        cases q with
        | false =>
          simp only [Bool.false_eq_true, if_false, ne_eq, not_true_eq_false, false_and, false_iff]
          rintro ⟨m', h5, _, h6⟩
          have := (hw m' h5).1 h6
          simp at this
        | true =>
          have hm1 : 1 ≤ m := by have := hd rfl; omega
          simp only [if_true]
          constructor
          · rintro ⟨h1, h2⟩
            exact ⟨m, hm1, by rw [Int.natCast_mul]; exact h2, (hw m hm1).2 ⟨rfl, Int.le_refl _⟩⟩
          · rintro ⟨m', h5, h6, h7⟩
            obtain ⟨_, h8⟩ := (hw m' h5).1 h7
            refine ⟨by omega, Int.le_trans ?_ h6⟩
            rw [← Int.natCast_mul]
            have : m * n ≤ m' * n := Nat.mul_le_mul_right n (by omega)
            omega
      rcases itL_swp (σ := Unit) (ρ := Nat) (g := fun i _ => i) (s0 := ()) hir hiff with ⟨x, h1, h2⟩ | ⟨h1, h2⟩
      · rw [h1] at hlp2
        rw [h2]
        simp [f46, hn1, q1, q2, lp_eq hlp1, hn, lp_eq hlp2]
      · rw [h1] at hlp2
        rw [h2]
        simp [f46, hn1, q1, q2, lp_eq hlp1, hn, lp_eq hlp2.1]
  · have hkb : sweepsB gl l b = false := by
      cases hw : sweepsB gl l b with
      | false => rfl
      | true =>
        have h1 := (sweepsB_iff.1 hw).1
        unfold isRoundP at h1
        rw [decide_eq_false hlen] at h1
        cases h1
    rw [hkb]
    by_cases q1 : (l.length : Int) < 1
    · simp only [f46, hn1, lt_t q1, ifB_true]
    · have q2 : (20000 : Int) < (l.length : Int) := by omega
      simp only [f46, hn1, lt_f q1, ifB_false, lt_t q2, ifB_true]

theorem sweeps_take (gl : List Nat) (l : List Int) (b : Int) : sweepsB gl (l.take 20100) b = sweepsB gl l b := by
  rcases Nat.le_total l.length 20100 with h | h
  · rw [List.take_of_length_le h]
  · have h1 : ∀ l' : List Int, 20000 < l'.length → sweepsB gl l' b = false := fun l' hl' => by
      cases hw : sweepsB gl l' b with
      | false => rfl
      | true =>
        have h1 := (sweepsB_iff.1 hw).1
        unfold isRoundP at h1
        rw [decide_eq_false (by omega)] at h1
        cases h1
    rw [h1 l (by omega), h1 _ (by rw [List.length_take]; omega)]

end Go.AM
