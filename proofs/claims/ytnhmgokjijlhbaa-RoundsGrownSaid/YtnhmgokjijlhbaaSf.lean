/- Exactly one of Round and Last. -/
import Derived.Test.YtnhmgokjijlhbaaSe
namespace Go.AM
open Go.Proofs Go.Lives

variable {R : Type}

attribute [local simp] nx_eq nx_new nx_set blk_new blk_set asI_int asK_int asB_bool asP_ptr al_eq bx_eq len_slice onE_exit onE_ret onR_ret Value.cells d3 d22 d31 d60 d69 d70 w70 w60 w3 w22 cell_new cell_set rd_new rd_set off eq lt le ifB gv out eqF1 eqF2 eqF3 eqF4 eqF5 eqF6 eqF7 eqF8 ext20 ext21

/-- Day by day. -/
theorem days14 {v0 v7 sv0 : Value} {ln : List Nat} {h0 : H} {n c0 : Nat} (hl : SlR h0 3 1 v0 (cellsI (nI ln))) (ht : tasksP (nI ln) = true) (hc0 : c0 < prodN ln) (hn : lifeF ln c0 = (n : Int)) (h7 : SlR h0 3 1 v7 (cellsI (lastL ln n c0))) (hs0 : SlR h0 3 1 sv0 (cellsI (nI (stateP ln c0)))) :
    ∃ g' sv c, lpGo (f14_l3 rn 200010 v0 v7 n) 200010 [.bool false, sv0, iv 0] h0 = some (.exit 0, [.bool false, sv, iv n], g') ∧ Ext h0 g' ∧ c < prodN ln ∧ lifeF ln c = 0 ∧ SlR g' 3 1 sv (cellsI (nI (stateP ln c))) := by
  have htI := tasks_I ht
  obtain ⟨hok, h5, hl1, hD, hDpos⟩ := taskI_ok htI
  have hok1 : ∀ x ∈ ln, 1 ≤ x := fun x hx => (hok x hx).1
  have htk : (nI ln).take 14 = nI ln := List.take_of_length_le (by simp; omega)
  have hlt0 := lifeF_lt hok1 hc0
  obtain ⟨e, ws', g', hlp, rfl, sv, c, rfl, xg, hc, hcl, hsv⟩ := lpGo_inv (F := f14_l3 rn 200010 v0 v7 n)
    (fun d ws g => ∃ (i c : Nat) (sv : Value), i + d = n ∧ c < prodN ln ∧ lifeF ln c = (d : Nat) ∧ (lastL ln n c0).drop i = lastL ln d c ∧ ws = [.bool false, sv, iv i] ∧ Ext h0 g ∧ SlR g 3 1 sv (cellsI (nI (stateP ln c))))
    (fun e ws g => e = .exit 0 ∧ ∃ sv c, ws = [.bool false, sv, iv n] ∧ Ext h0 g ∧ c < prodN ln ∧ lifeF ln c = 0 ∧ SlR g 3 1 sv (cellsI (nI (stateP ln c))))
    (by
      rintro d ws g ⟨i, c, sv, hid, hc, hcd, hdrop, rfl, xg, hsv⟩
      have h7g := h7.ext xg
      have hlen7 : ∀ {T : Type} (K : Int → Option T), len v7 K = K (n : Int) := fun K => by rw [h7.len, List.length_map, lastL_len]
      cases d with
      | zero =>
        have : i = n := by omega
        subst this
        exact ⟨.exit 0, [.bool false, sv, iv i], g, by simp [f14_l3], .inr ⟨by simp, rfl, sv, c, rfl, xg, hc, hcd, hsv⟩⟩
      | succ d =>
        have hpos : 0 < lifeF ln c := by omega
        obtain ⟨_, hpl, t, htD, haft, hltt, _⟩ := pick_ok hok1 hc hpos
        obtain ⟨t', ht', haft', hnext⟩ := aft_next hok1 (c := c) (i := pick ln c) (by omega)
        have htt : t' = t := by omega
        subst htt
        have hget : (lastL ln n c0)[i]? = some (pick ln c : Int) := by
          have h1 : ((lastL ln n c0).drop i)[0]? = some (pick ln c : Int) := by rw [hdrop]; rfl
          rwa [List.getElem?_drop, Nat.add_zero] at h1
        have e1 : ∀ (K : Value → Option (Ex × List Value × H)), (six v7 (i : Int) 1 fun b o => (g.cell b o).bind K) = K (iv (pick ln c : Nat)) := fun K => h7g.c0 (by omega) (x := [iv (pick ln c : Int)]) (by rw [Int.toNat_natCast, List.getElem?_map, hget]; rfl) rfl K
        have hlg := hl.ext xg
        obtain ⟨a1, g1, r1, y1, w1⟩ := s18 hlg
        rw [htk] at w1
        have q1 := fun (K : Value → H → Option (Ex × List Value × H)) => calls_eq (K := K) (xs := [_]) r1
        have q2 := fun (K : Value → H → Option (Ex × List Value × H)) => calls_eq (K := K) (xs := [_, _]) (s27 w1 (hsv.ext y1) ht hc)
        obtain ⟨a2, g2, r2, y2, w2⟩ := s18 (hlg.ext y1)
        rw [htk] at w2
        have q3 := fun (K : Value → H → Option (Ex × List Value × H)) => calls_eq (K := K) (xs := [_]) r2
        obtain ⟨a3, g3, r3, y3, w3⟩ := s28 (task := (pick ln c : Int)) w2 ((hsv.ext y1).ext y2) ht (state_ok hok1 c) (by omega) (by simp; omega)
        rw [hnext] at r3 w3
        have q4 := fun (K : Value → H → Option (Ex × List Value × H)) => calls_eq (K := K) (xs := [_, _, _]) r3
        have hsub : sub .i64 (n : Int) (i : Int) = ((d + 1 : Nat) : Int) := by rw [sub64 (by omega) (by omega)]; omega
        have hadd : add .i64 (i : Int) 1 = (i : Int) + 1 := add64 (by omega) (by omega)
        have hin : i < n := by omega
        simp only [Option.isSome_some, if_true] at q4
        refine ⟨.normal, [.bool false, a3, iv ((i : Int) + 1)], g3, ?_, .inl ⟨rfl, d, by omega, i + 1, t', a3, by omega, htD, by omega, ?_, rfl, xg.trans ((y1.trans y2).trans y3), w3⟩⟩
        · simp [f14_l3, hin, e1, q1, q2, hcd, hlen7, hsub, q3, q4, hadd]
        · rw [← List.drop_drop, hdrop]
          simp [lastL, haft])
    n 200010 (by omega) ⟨0, c0, sv0, by omega, hc0, hn, rfl, rfl, .refl _, hs0⟩
  exact ⟨g', sv, c, hlp, xg, hc, hcl, hsv⟩

/-- No task behind. -/
theorem none14 {v0 sv : Value} {w0 w2 : Value} {ln : List Nat} {h0 : H} {c : Nat} (hl : SlR h0 3 1 v0 (cellsI (nI ln))) (ht : tasksP (nI ln) = true) (hc : c < prodN ln) (hcl : lifeF ln c = 0) (hsv : SlR h0 3 1 sv (cellsI (nI (stateP ln c)))) (b : Value) :
    ∃ g', lpGo (f14_l4 rn 200010 v0 [w0, sv, w2] ln.length) 200010 [b, iv 0] h0 = some (.exit 2, [b, iv ln.length], g') ∧ Ext h0 g' := by
  have htI := tasks_I ht
  obtain ⟨hok, h5, hl1, hD, hDpos⟩ := taskI_ok htI
  have hok1 : ∀ x ∈ ln, 1 ≤ x := fun x hx => (hok x hx).1
  have htk : (nI ln).take 14 = nI ln := List.take_of_length_le (by simp; omega)
  obtain ⟨ws', g', hlp, xg, rfl⟩ := lp_for (σ := Unit) (F := f14_l4 rn 200010 v0 [w0, sv, w2] ln.length) (k := 200010) (l := List.range ln.length) (fun _ _ _ => ())
    (fun i _ ws g => Ext h0 g ∧ ws = [b, iv i]) 2 (ws := [b, iv 0]) (h := h0) (s0 := ()) ⟨.refl _, rfl⟩ (by rw [List.length_range]; omega)
    (by
      rintro _ ws g ⟨_, rfl⟩
      simp [f14_l4])
    (by
      rintro i x _ ws g hx ⟨xg, rfl⟩
      have hi := (List.getElem?_eq_some_iff.1 hx).1
      rw [List.length_range] at hi
      have hadd : add .i64 (i : Int) 1 = (i : Int) + 1 := add64 (by omega) (by omega)
      obtain ⟨a1, g1, r1, y1, w1⟩ := s18 (hl.ext xg)
      rw [htk] at w1
      have q1 := fun (K : Value → H → Option (Ex × List Value × H)) => calls_eq (K := K) (xs := [_]) r1
      have hno : nextP (nI ln) (nI (stateP ln c)) (i : Int) = none := by
        cases ho : nextP (nI ln) (nI (stateP ln c)) (i : Int) with
        | none => rfl
        | some o =>
          have hst := next_ok (fun x hx => (htI.rng x hx).1) (state_ok hok1 c) ho
          obtain ⟨t, ht1, _, rfl⟩ := st_num hst
          have hm : t ∈ tosP ln c := (mem_tos hok1).2 ⟨i, hi, ht1, ho⟩
          obtain ⟨_, hlow, _⟩ := (lifeF_is hok1 c hc).2 (by omega)
          have := hlow t hm
          omega
      obtain ⟨a3, g3, r3, y3, _⟩ := s28 (task := (i : Int)) w1 ((hsv.ext xg).ext y1) ht (state_ok hok1 c) (by omega) (by simp; omega)
      rw [hno] at r3
      have q4 := fun (K : Value → H → Option (Ex × List Value × H)) => calls_eq (K := K) (xs := [_, _, _]) r3
      simp only [Option.isSome_none, Bool.false_eq_true, if_false] at q4
      refine ⟨[b, iv ((i : Int) + 1)], g3, ?_, xg.trans (y1.trans y3), rfl⟩
      simp [f14_l4, hi, q1, q4, hadd])
  rw [List.length_range] at hlp
  exact ⟨g', hlp, xg⟩

theorem s14 {v0 : Value} {l : List Int} {h : H} (hl : SlR h 3 1 v0 (cellsI l)) : ∃ h', rn 14 #[v0] h = some (.bool true, h') := by
  suffices hh : ∃ h', f14 rn 200010 v0 h = some (.bool true, h') by
    obtain ⟨h', e⟩ := hh
    exact ⟨_, t14 e⟩
  obtain ⟨a1, h1, q1, x1, z1⟩ := s18 hl
  have c1 := fun (K : Value → H → Option (Value × H)) => calls_eq (K := K) (xs := [_]) q1
  cases ht : tasksP l with
  | false =>
    have ht14 : tasksP (l.take 14) = false := by rw [tasks_take]; exact ht
    have c2 := fun (K : Value → H → Option (Value × H)) => calls_eq (K := K) (xs := [_]) (s17_bad z1 ht14)
    obtain ⟨a2, h3, q3, x3, z3⟩ := s18 (hl.ext x1)
    have c3 := fun (K : Value → H → Option (Value × H)) => calls_eq (K := K) (xs := [_]) q3
    have c4 := fun (K : Value → H → Option (Value × H)) => calls_eq (K := K) (xs := [_]) (s24_bad z3 ht14)
    exact ⟨h3, by simp [f14, c1, c2, c3, c4, k19]⟩
  | true =>
    have htI := tasks_I ht
    obtain ⟨ln, rfl, htk⟩ := tasks_ln ht
    obtain ⟨hok, h5, hl1, hD, hDpos⟩ := taskI_ok htI
    have hok1 : ∀ x ∈ ln, 1 ≤ x := fun x hx => (hok x hx).1
    obtain ⟨hbeg, hbs⟩ := beg_spec hok1
    rw [htk] at z1
    obtain ⟨v3, e3, h2, q2, x2, hR⟩ := s17 z1 ht
    have c2 := fun (K : Value → H → Option (Value × H)) => calls_eq (K := K) (xs := [_]) q2
    have x12 := x1.trans x2
    obtain ⟨a2, h3, q3, x3, z3⟩ := s18 (hl.ext x12)
    rw [htk] at z3
    have c3 := fun (K : Value → H → Option (Value × H)) => calls_eq (K := K) (xs := [_]) q3
    obtain ⟨v7, h4, q4, x4, z4⟩ := s24 z3 ht
    have c4 := fun (K : Value → H → Option (Value × H)) => calls_eq (K := K) (xs := [_]) q4
    have x14 := (x12.trans x3).trans x4
    obtain ⟨a5, h6, q5, x5, z5⟩ := s18 (hl.ext x14)
    rw [htk] at z5
    have c5 := fun (K : Value → H → Option (Value × H)) => calls_eq (K := K) (xs := [_]) q5
    rcases hR with ⟨h0, rfl, rfl⟩ | ⟨hneg, rfl, r, hsr, hkr, hrl⟩
    · have hE : lastE ln = 0 := by unfold lastE; rw [if_neg (by omega)]
      obtain ⟨n, hn⟩ := Int.eq_ofNat_of_zero_le h0
      have hP : lastP ln = lastL ln n (beg ln) := by unfold lastP; rw [if_neg (by omega), hn, Int.toNat_natCast]
      rw [hP] at z4
      rw [hE] at c4
      have hlen7 : ∀ {T : Type} (K : Int → Option T), len v7 K = K (n : Int) := fun K => by rw [z4.len, List.length_map, lastL_len]
      have hlen0 : ∀ {T : Type} (K : Int → Option T), len v0 K = K (ln.length : Int) := fun K => by rw [hl.len]; simp
      obtain ⟨g1, sv, c, hlp, xg1, hc, hcl, hsv⟩ := days14 (hl.ext (x14.trans x5)) ht hbeg hn (z4.ext x5) (by rw [hbs]; exact z5)
      obtain ⟨g2, hlp2, xg2⟩ := none14 (w0 := .bool false) (w2 := iv n) (hl.ext ((x14.trans x5).trans xg1)) ht hc hcl hsv (.bool false)
      have k1 : ∀ (K : Ex → List Value → H → Option (Value × H)), lp 200010 (f14_l3 rn 200010 v0 v7 n) [.bool false, a5, .int .i64 0] h6 K = K (.exit 0) [.bool false, sv, iv n] g1 := fun K => lp_eq hlp
      have k2 : ∀ (K : Ex → List Value → H → Option (Value × H)), lp 200010 (f14_l4 rn 200010 v0 [.bool false, sv, iv n] ln.length) [.bool false, .int .i64 0] g1 K = K (.exit 2) [.bool false, iv ln.length] g2 := fun K => lp_eq hlp2
      refine ⟨g2, ?_⟩
      simp [f14, c1, c2, c3, c4, keqv4, c5, hlen7, hlen0, k1, k2, k19]
    · have hE : lastE ln = 4 := by unfold lastE; rw [if_pos (by omega)]
      rw [hE] at c4
      have e29 := s29 z5 ht (hsr.ext ((x3.trans x4).trans x5))
      rw [keepsB_of hkr (by have := prod_4000 ht; omega)] at e29
      have c6 := fun (K : Value → H → Option (Value × H)) => calls_eq (K := K) (xs := [_, _]) e29
      exact ⟨h6, by simp [f14, c1, c2, c3, c4, keqv4, c5, c6, k19]⟩

end Go.AM
