/- The search for a numbering, walked. -/
import Derived.Test.YtakhklelgcfgjaaDoorHg
namespace Go.AM
open Go.Proofs

variable {R : Type}

attribute [local simp] nx_eq nx_new nx_set blk_new blk_set asI_int asK_int asB_bool asP_ptr al_eq bx_eq len_slice onE_exit onE_ret onR_ret Value.cells cell_new cell_set rd_new rd_set off eq lt le ifB gv out ext20 ext21

theorem lf_calc {g : List Nat} (hg : GrN g) {B : Nat} (hB : B < 1024) : AM.andNot .i64 (allN g : Int) (B : Int) = (lf g B : Int) := by
  have := allN_lt10 hg
  exact andNot_nat (by omega) (by omega)

theorem eqN' {a b : Nat} : AM.eq (a : Int) (b : Int) = decide (a = b) := eqN

theorem and_calc {a b : Nat} (ha : a < 1024) (hb : b < 1024) : AM.eq (AM.and .i64 (a : Int) (b : Int)) 0 = decide (a &&& b = 0) := by
  rw [and_nat (by omega) (by omega)]
  exact eqN (b := 0)

theorem nb_lt10 {g : List Nat} (hg : GrB g) (a : Nat) : nb g a < 1024 := Nat.lt_of_lt_of_le (hg.nb_lt a) hg.pow

/-- The two tests of the program. -/
theorem cq_iff {g : List Nat} (hg : GrN g) {t B u : Nat} (hu : (without (lf g B) (2 ^ t)).testBit u = true) : cq g t B u = (decide (nb g u &&& B ≠ 0) && decide (nb g u &&& lf g B ≠ 0)) := by
  rw [without_bit, lf_bit, Nat.testBit_two_pow] at hu
  simp only [Bool.and_eq_true, decide_eq_true_eq, Bool.not_eq_true', decide_eq_false_iff_not] at hu
  obtain ⟨⟨h1, h2⟩, h3⟩ := hu
  unfold cq
  rw [h2, show decide (u ≠ t) = true from decide_eq_true (fun e => h3 e.symm), Bool.not_false, Bool.true_and, Bool.true_and]
  congr 1
  rw [decide_eq_decide, and_ne, and_ne]
  constructor
  · rintro ⟨i, h4, h5⟩
    rw [lf_bit, or_bit] at h5
    refine ⟨i, h4, ?_⟩
    rw [lf_bit]
    simp at h5 ⊢
    exact ⟨h5.1, h5.2.1⟩
  · rintro ⟨i, h4, h5⟩
    refine ⟨i, h4, ?_⟩
    rw [lf_bit] at h5
    rw [lf_bit, or_bit]
    simp at h5 ⊢
    refine ⟨h5.1, h5.2, ?_⟩
    rintro rfl
    have := hg.irr u
    unfold adj at this
    rw [this] at h4; cases h4

theorem or_lt {g : List Nat} {B u : Nat} (hB : B < 2 ^ g.length) (hu : u < g.length) : B ||| 2 ^ u < 2 ^ g.length := Nat.or_lt_two_pow hB (Nat.pow_lt_pow_right (by omega) hu)

theorem or_calc2 {n B u : Nat} (hn : n ≤ 10) (hB : B < 2 ^ n) (hu : u < n) : AM.or .i64 (B : Int) (AM.shl .i64 1 (u : Int)) = ((B ||| 2 ^ u : Nat) : Int) := by
  have h2 : 2 ^ n ≤ 1024 := Nat.pow_le_pow_right (n := 2) (by omega) hn
  have h3 : 2 ^ u < 1024 := Nat.lt_of_lt_of_le (Nat.pow_lt_pow_right (by omega) hu) h2
  rw [shl1_nat (by omega), or_nat (by omega) (by omega)]

theorem pop_or {B u : Nat} (hB : B < 1024) (hu : u < 10) (h : B.testBit u = false) : pop B < pop (B ||| 2 ^ u) := by
  refine pop_lt (i := u) (Nat.or_lt_two_pow (n := 10) hB (Nat.pow_lt_pow_right (by omega) hu)) (fun j hj => by rw [or_bit, hj]; rfl) (by rw [or_bit]; simp) h

/-- The keys that came. -/
def Nw (B : Nat) (nw : List (Int × Value)) : Prop := ∀ p ∈ nw, ∃ K : Nat, p.1 = (K : Int) ∧ pop B ≤ pop K

set_option maxHeartbeats 2000000 in
theorem s82 {g : List Nat} (hg : GrN g) (hbi : Bi g (allN g)) {t bx md : Nat} {tv : Value} (ht : t < g.length) : ∀ (d B : Nat) (v1 : Value) (l : List Nat) (kv : List (Int × Value)) (h : H) (lo : Nat),
    10 ≤ pop B + d → B < 2 ^ g.length → B.testBit t = false → (∃ s, B.testBit s = true) → l ≠ [] → l.length + 10 ≤ 100 + pop B → HN g t kv bx md tv h → bx < lo → md < lo → (∀ b, blkOf tv = some b → b < lo) → AqR lo h 3 1 v1 (cellsN l) → lo ≤ h.nx →
    ∃ v' h' nw, rn 82 #[pt bx 0, v1, iv B] h = some (v', h') ∧ HN g t (kv ++ nw) bx md tv h' ∧ Fd md (blkOf v1) h h' ∧ Nw B nw ∧
      (goodQ g t B = true ∧ (∃ r, Gr g t B r ∧ SlR h' 3 1 v' (cellsN (l ++ r))) ∨ goodQ g t B = false ∧ v' = .slice none 0 0) := by
  intro d
  induction d with
  | zero =>
    intro B v1 l kv h lo hd hB hBt
    exfalso
    have hlen := hg.len
    have h1 : B < 1024 := Nat.lt_of_lt_of_le hB hg.pow
    have h2 := pop_or (u := t) h1 (by omega) hBt
    have h3 := pop_le_n (n := 10) (Nat.le_refl _) (or_lt (g := g) hB ht |> fun h => Nat.lt_of_lt_of_le h hg.pow)
    omega
  | succ d ih =>
    intro B v1 l kv h lo hd hB hBt hs hl hlm hN hxlo hmlo htlo hap hloh
    have hlen := hg.len
    have hpos := hg.pos
    have hB10 : B < 1024 := Nat.lt_of_lt_of_le hB hg.pow
    have hpopB := pop_le_n (n := 10) (Nat.le_refl _) hB10
    have hlf := lf_lt (B := B) hg
    have h2t : 2 ^ t < 1024 := Nat.lt_of_lt_of_le (Nat.pow_lt_pow_right (by omega) ht) hg.pow
    obtain ⟨s, hsB⟩ := hs
    have hsn : s < g.length := bit_lt hB hsB
    have c65 := fun (K : Value → H → Option (Value × H)) => calls_eq (K := K) (xs := [tv]) (s65 hg.toGrB hN.s)
    have ldT : ∀ {T : Type} {h' : H} {kv' : List (Int × Value)} (_ : HN g t kv' bx md tv h') (K : Value → Option T), (ld Tryd.prog h' 78 bx 0 K) = K tv := fun a K => by rw [d78, cell_of a.x]; rfl
    have ldt : ∀ {T : Type} {h' : H} {kv' : List (Int × Value)} (_ : HN g t kv' bx md tv h') (K : Value → Option T), (ld Tryd.prog h' 3 bx (AM.off 0 1) K) = K (iv t) := fun a K => by rw [d3, cell_of a.x]; rfl
    have ldm : ∀ {T : Type} {h' : H} {kv' : List (Int × Value)} (_ : HN g t kv' bx md tv h') (K : Value → Option T), (ld Tryd.prog h' 97 bx (AM.off 0 2) K) = K (.map (some md)) := fun a K => by rw [d97, cell_of a.x]; rfl
    have nilp : ∀ {T : Type} (x : Option T), AM.nil (pt bx 0) x = x := fun x => rfl
    have hnnt : ∀ {T : Type} (x : Option T), nn (t : Int) x = x := fun x => nn_ge (show (0 : Int) ≤ (t : Int) by omega) x
    have hbv1 : ∀ b, blkOf v1 = some b → b ≠ bx ∧ b ≠ md ∧ blkOf tv ≠ some b := fun b hb => by
      have := (hap.blkOf hb).1
      exact ⟨by omega, by omega, fun e => by have := htlo b e; omega⟩
    have start : ∀ r, (ifB (decide (lf g B = 2 ^ t)) (
          bls Tryd.prog h 22 1 [(0, (.int .i64 (t : Int)))] fun v6 h2 =>
          app Tryd.prog h2 22 22 v1 v6 fun v7 h3 =>
          some (v7, h3)) (
            lok Tryd.prog h 97 (.map (some md)) (.int .i64 (B : Int)) false fun v9 =>
            asB v9 fun q0 =>
            ifB q0 (
              some ((.slice none 0 0), h)) (
                  calls rn h 76 [(.int .i64 ((without (lf g B) (2 ^ t) : Nat) : Int))] fun v11 h4 =>
                  len v11 fun n5 =>
                  lp 20 (f82_l1 rn 20 (pt bx 0) v1 B (allN g) v11 n5) [(.slice none 0 0), (.int .i64 0)] h4 fun e0 ws1 h10 =>
                  onE e0 0 (
                    AM.nil (pt bx 0) (
                      asP (pt bx 0) fun b20 b21 =>
                      ld Tryd.prog h10 97 b20 (AM.off b21 2) fun v21 =>
                      mup Tryd.prog h10 97 v21 (.int .i64 (B : Int)) (.bool true) fun h11 =>
                      some ((.slice none 0 0), h11))) (
                    onR e0 (
                      some (AM.gv ws1 0, h10)))))) = r → f82 rn 20 (pt bx 0) v1 B h = r := by
      intro r hr
      unfold f82
      rw [nilp, asP_ptr, ldT hN, c65, asI_int, nilp, asP_ptr, ldt hN, asI_int, hnnt, lf_calc hg hB10, shl1_nat (by omega), eqN, nilp, asP_ptr, ldt hN, asI_int, nilp, asP_ptr, ldm hN, nilp, asP_ptr, ldt hN, asI_int, hnnt, shl1_nat (by omega), andNot_nat (by omega) (by omega)]
      exact hr
    by_cases hfin : lf g B = 2 ^ t
    · have hgood : goodQ g t B = true := by
        rw [good_iff hg ht hBt]
        intro u hu
        rw [hfin, Nat.testBit_two_pow, decide_eq_true_iff] at hu
        rw [hu]; exact .base
      obtain ⟨v7, h3, e3, a3, n3, k3, b3, hb3, hb3'⟩ := hap.push app22 app22 (bls22 (t : Int)) rfl rfl (by rw [List.length_map]; omega) hloh
      have e4 : f82 rn 20 (pt bx 0) v1 B h = some (v7, h3) := start _ (by rw [decide_eq_true hfin, ifB_true]; exact e3 _)
      have a3' : AqR lo h3 3 1 v7 (cellsN (l ++ [t])) := by
        have : cellsN (l ++ [t]) = cellsN l ++ [[iv (t : Int)]] := by simp
        rw [this]; exact a3
      obtain ⟨h4, e5, m4, _⟩ := x82 e4 a3'.slR.notR
      have f3 : Fd md (blkOf v1) h h3 := ⟨n3, fun b hb q1 q2 => k3 b hb q2⟩
      have hN3 : HN g t kv bx md tv h3 := by
        obtain ⟨es, c, h1, h2⟩ := hN.m
        refine ⟨(f3.blk _ hN.lx (hN.rowNe hN.x) (fun e => (hbv1 _ e).1 rfl)).trans hN.x, hN.s.keepB n3 fun b hb => ?_, ⟨es, c, (k3 _ hN.lm (fun e => (hbv1 _ e).2.1 rfl)).trans h1, h2⟩, hN.bad, by have := hN.lx; omega, by have := hN.lm; omega⟩
        exact k3 b (hN.s.blkR hb).1 (fun e => (hbv1 _ e).2.2 hb)
      exact ⟨v7, h4, [], e5, by rw [List.append_nil]; exact hN3.ext m4.ext, f3.sm m4, (fun p hp => by cases hp), .inl ⟨hgood, [t], .fin hfin, a3'.slR.ext m4.ext⟩⟩
    · have htl : (lf g B).testBit t = true := by rw [lf_bit, hBt, decide_eq_true ht]; rfl
      obtain ⟨es, c, hm1, hm2⟩ := hN.m
      cases hlk : look kv (B : Int) 0 with
      | some r =>
        obtain ⟨j, _, hj⟩ := look_some _ _ _ hlk
        obtain ⟨hr, K, hK, hbad⟩ := hN.bad _ (List.mem_of_getElem? hj)
        have := Int.natCast_inj.1 hK
        subst this
        refine ⟨.slice none 0 0, h, [], y82 (k := 20) (start _ ?_), by rw [List.append_nil]; exact hN, Fd.ext (.refl _), (fun p hp => by cases hp), .inr ⟨hbad, rfl⟩⟩
        rw [decide_eq_false hfin, ifB_false, lok_int0 under97 under3n zero4 hm1 hm2, hlk]
        simp only at hr
        simp only [hr, asB_bool, ifB_true]
      | none =>
        have hS : without (lf g B) (2 ^ t) < 1024 := without_le (n := 10) _ _ hlf
        obtain ⟨v11, h4, e76, x4, hs11⟩ := s76 hS h
        have c76 := fun (K : Value → H → Option (Value × H)) => calls_eq (K := K) (xs := [iv (without (lf g B) (2 ^ t) : Nat)]) e76
        have hN4 := hN.ext x4.toExt
        have hap4 := hap.ext x4.toExt
        have helt : ∀ u, u ∈ elts (without (lf g B) (2 ^ t)) → (without (lf g B) (2 ^ t)).testBit u = true := fun u hu => (mem_elts hS).1 hu
        have hfind := elts_left (B := B) (t := t) hg
        have hel : (elts (without (lf g B) (2 ^ t))).length ≤ 10 := by unfold elts; exact Nat.le_trans (List.length_filter_le ..) (by simp)
        have hn11 : ∀ {T : Type} (K : Int → Option T), len v11 K = K ((elts (without (lf g B) (2 ^ t))).length : Int) := fun K => by rw [hs11.len]; simp
        have hbit := fun u hu => cq_iff hg (t := t) (B := B) (helt u hu)
        generalize hL : elts (without (lf g B) (2 ^ t)) = L at *
        have keys : ∀ {nw5 nw' : List (Int × Value)} {u : Nat}, (∀ p ∈ nw5, ∃ K : Nat, p.1 = (K : Int) ∧ pop B < pop K) → Nw (B ||| 2 ^ u) nw' → pop B < pop (B ||| 2 ^ u) → ∀ p ∈ nw5 ++ nw', ∃ K : Nat, p.1 = (K : Int) ∧ pop B < pop K := by
          intro nw5 nw' u h1 h2 h3 p hp
          rw [List.mem_append] at hp
          rcases hp with hp | hp
          · exact h1 p hp
          · obtain ⟨K, h4, h5⟩ := h2 p hp
            exact ⟨K, h4, by omega⟩
        obtain ⟨e, ws', h10, hlp, hQ⟩ := lp_range (F := f82_l1 rn 20 (pt bx 0) v1 B (allN g) v11 L.length) (k := 20) (n := L.length)
          (fun i ws h5 => ws = [.slice none 0 0, iv i] ∧ ∃ nw5, HN g t (kv ++ nw5) bx md tv h5 ∧ Fd md none h4 h5 ∧ (∀ p ∈ nw5, ∃ K : Nat, p.1 = (K : Int) ∧ pop B < pop K) ∧ ∀ v ∈ L.take i, (cq g t B v && goodQ g t (B ||| 2 ^ v)) = false)
          (fun e ws h5 => ∃ nw5, HN g t (kv ++ nw5) bx md tv h5 ∧ Fd md none h4 h5 ∧ (∀ p ∈ nw5, ∃ K : Nat, p.1 = (K : Int) ∧ pop B < pop K) ∧
            ((e = .exit 0 ∧ ∀ v ∈ L, (cq g t B v && goodQ g t (B ||| 2 ^ v)) = false) ∨ (e = .ret ∧ ∃ v20 w, ws = [v20, w] ∧ goodQ g t B = true ∧ ∃ r, Gr g t B r ∧ SlR h5 3 1 v20 (cellsN (l ++ r)))))
          (by
            rintro i ws h5 hi ⟨rfl, nw5, hN5, f5, hk5, hno⟩
            have hu := List.getElem?_eq_getElem hi
            generalize L[i] = u at hu
            have huL := List.mem_of_getElem? hu
            have hub := helt u huL
            have hub' := hub
            rw [without_bit, lf_bit, Nat.testBit_two_pow] at hub'
            simp only [Bool.and_eq_true, decide_eq_true_eq, Bool.not_eq_true', decide_eq_false_iff_not] at hub'
            obtain ⟨⟨hun, huB⟩, hut⟩ := hub'
            have hcq := hbit u huL
            have hadd : add .i64 (i : Int) 1 = ((i + 1 : Nat) : Int) := by rw [add64 (by omega) (by omega)]; omega
            have hs5 := hN4.sl f5 hs11
            have hap5 := hN4.aq f5 hap4
            have e1 : ∀ (K : Value → Option (Ex × List Value × H)), (six v11 (i : Int) 1 fun b o => ld Tryd.prog h5 3 b o K) = K (iv (u : Int)) := fun K =>
              hs5.ld0 ag3 (by omega) (x := [iv (u : Int)]) (by simp [hu]) rfl K
            have e2 : ∀ (K : Value → Option (Ex × List Value × H)), (six tv (u : Int) 1 fun b o => ld Tryd.prog h5 3 b o K) = K (iv (nb g u : Nat)) := fun K => by
              simp only [d3]; exact getN hN5.s hun K
            have hnb := nb_lt10 hg.toGrB u
            have hskip : (cq g t B u && goodQ g t (B ||| 2 ^ u)) = false → ∀ v ∈ L.take (i + 1), (cq g t B v && goodQ g t (B ||| 2 ^ v)) = false := by
              intro h v hv
              rw [List.take_add_one, hu, List.mem_append] at hv
              rcases hv with hv | hv
              · exact hno v hv
              · simp at hv; rw [hv]; exact h
            by_cases c1 : nb g u &&& B = 0
            · refine ⟨.normal, [.slice none 0 0, iv ((i + 1 : Nat) : Int)], h5, ?_, .inl ⟨rfl, rfl, nw5, hN5, f5, hk5, hskip (by rw [hcq]; simp [c1])⟩⟩
              unfold f82_l1
              rw [show AM.gv [.slice none 0 0, iv i] 1 = iv i from rfl, show AM.gv [.slice none 0 0, iv i] 0 = .slice none 0 0 from rfl, asI_int, lt_t (by omega), ifB_true, asK_int, e1, asI_int, nilp, asP_ptr, ldT hN5, e2, asI_int, and_calc hnb hB10, decide_eq_true c1, ifB_true, asI_int, hadd]
              rfl
            · by_cases c2 : nb g u &&& lf g B = 0
              · refine ⟨.normal, [.slice none 0 0, iv ((i + 1 : Nat) : Int)], h5, ?_, .inl ⟨rfl, rfl, nw5, hN5, f5, hk5, hskip (by rw [hcq]; simp [c2])⟩⟩
                unfold f82_l1
                rw [show AM.gv [.slice none 0 0, iv i] 1 = iv i from rfl, show AM.gv [.slice none 0 0, iv i] 0 = .slice none 0 0 from rfl, asI_int, lt_t (by omega), ifB_true, asK_int, e1, asI_int, nilp, asP_ptr, ldT hN5, e2, asI_int, and_calc hnb hB10, decide_eq_false c1, ifB_false,
                  nilp, asP_ptr, ldT hN5, e2, asI_int, lf_calc hg hB10, and_calc hnb hlf, decide_eq_true c2, ifB_true, asI_int, hadd]
                rfl
              · have hcqt : cq g t B u = true := by rw [hcq]; simp [c1, c2]
                have hpop := pop_or hB10 (show u < 10 by omega) huB
                obtain ⟨v17, h6, e83, x6, a17⟩ := s83A hap5.slR hl (by omega)
                have c83 := fun (K : Value → H → Option (Ex × List Value × H)) => calls_eq (K := K) (xs := [v1]) e83
                obtain ⟨v19, h8, e8, a19, n8, k8, b8, hb8, hb8'⟩ := a17.push app22 app22 (bls22 (u : Int)) rfl rfl (by rw [List.length_map]; omega) x6.nx
                have x58 : Ext h5 h8 := ⟨Nat.le_trans x6.nx n8, fun b hb => by
                  rw [k8 b (Nat.lt_of_lt_of_le hb x6.nx) (fun e => by have := (a17.blkOf e).1; omega)]
                  exact x6.blk b hb⟩
                have a19' : AqR h5.nx h8 3 1 v19 (cellsN (l ++ [u])) := by
                  have : cellsN (l ++ [u]) = cellsN l ++ [[iv (u : Int)]] := by simp
                  rw [this]; exact a19
                have hB'lt := or_lt hB hun
                have hB't : (B ||| 2 ^ u).testBit t = false := by rw [or_bit, hBt]; simpa using fun e => hut e.symm
                obtain ⟨v20, h9, nw', e82, hN9, f9, hnw, hor⟩ := ih (B ||| 2 ^ u) v19 (l ++ [u]) (kv ++ nw5) h8 h5.nx (by omega) hB'lt hB't ⟨s, by rw [or_bit, hsB]; rfl⟩ (by simp) (by simp; omega) (hN5.ext x58) hN5.lx hN5.lm (fun b hb => (hN5.s.blkR hb).1) a19' x58.nx
                have c82 := fun (K : Value → H → Option (Ex × List Value × H)) => calls_eq (K := K) (xs := [pt bx 0, v19, iv ((B ||| 2 ^ u : Nat) : Int)]) e82
                have f59 : Fd md none h5 h9 := ⟨Nat.le_trans x58.nx f9.nx, fun b hb q1 _ => by
                  rw [f9.blk b (Nat.lt_of_lt_of_le hb x58.nx) q1 (fun e => by have := (a19'.blkOf e).1; omega)]
                  exact x58.blk b hb⟩
                rw [List.append_assoc] at hN9
                have start2 : ∀ r, (eqv Tryd.prog 22 v20 (.slice none 0 0) fun q1 => ifB (!q1) (AM.out .ret [v20, iv i] h9) (AM.out .normal [.slice none 0 0, iv ((i + 1 : Nat) : Int)] h9)) = r → f82_l1 rn 20 (pt bx 0) v1 B (allN g) v11 L.length [.slice none 0 0, iv i] h5 = r := by
                  intro r hr
                  unfold f82_l1
                  rw [show AM.gv [.slice none 0 0, iv i] 1 = iv i from rfl, show AM.gv [.slice none 0 0, iv i] 0 = .slice none 0 0 from rfl, asI_int, lt_t (by omega), ifB_true, asK_int, e1, asI_int, nilp, asP_ptr, ldT hN5, e2, asI_int, and_calc hnb hB10, decide_eq_false c1, ifB_false,
                    nilp, asP_ptr, ldT hN5, e2, asI_int, lf_calc hg hB10, and_calc hnb hlf, decide_eq_false c2, ifB_false, c83, e8, nn_ge (show (0 : Int) ≤ (u : Int) by omega), or_calc2 hlen hB hun, c82, asI_int, hadd]
                  exact hr
                rcases hor with ⟨hgood, r, hr, hsr⟩ | ⟨hbad, rfl⟩
                · refine ⟨.ret, [v20, iv i], h9, start2 _ ?_, .inr ⟨by simp, nw5 ++ nw', hN9, f5.trans f59, keys hk5 hnw hpop, .inr ⟨rfl, v20, iv i, rfl, good_back hg ht hBt hcqt hgood, u :: r, .step hfin ?_ hr, ?_⟩⟩⟩
                  · have hne : cellsN (l ++ [u] ++ r) ≠ [] := by simp
                    generalize cellsN (l ++ [u] ++ r) = LL at hsr hne
                    cases hsr with
                    | nil => exact absurd rfl hne
                    | @at_ b o c cs own l' q1 q2 q3 q4 q5 q6 =>
                      unfold eqv
                      rw [some22]
                      rfl
                  · rw [← hfind]
                    exact find_at hu (by rw [hcqt, hgood]; rfl) hno
                  · have : l ++ u :: r = l ++ [u] ++ r := by simp
                    rw [this]; exact hsr
                · refine ⟨.normal, [.slice none 0 0, iv ((i + 1 : Nat) : Int)], h9, start2 _ ?_, .inl ⟨rfl, rfl, nw5 ++ nw', hN9, f5.trans f59, keys hk5 hnw hpop, hskip (by rw [hbad]; simp)⟩⟩
                  unfold eqv
                  rw [nil22]
                  rfl)
          (by
            rintro ws h5 ⟨rfl, nw5, hN5, f5, hk5, hno⟩
            refine ⟨.exit 0, [.slice none 0 0, iv L.length], h5, by simp [f82_l1], by simp, nw5, hN5, f5, hk5, .inl ⟨rfl, ?_⟩⟩
            rw [List.take_length] at hno
            exact hno)
          (ws := [.slice none 0 0, iv 0]) (h := h4) (by omega) ⟨rfl, [], by rw [List.append_nil]; exact hN4, Fd.ext (.refl _), (fun p hp => by cases hp), by simp⟩
        obtain ⟨nw5, hN10, f10, hk10, hor⟩ := hQ
        have fh4 : Fd md none h h4 := Fd.ext x4.toExt
        have start3 : ∀ r, (onE e 0 (
                    mup Tryd.prog h10 97 (.map (some md)) (.int .i64 (B : Int)) (.bool true) fun h11 =>
                      some ((.slice none 0 0), h11)) (
                    onR e (
                      some (AM.gv ws' 0, h10)))) = r → f82 rn 20 (pt bx 0) v1 B h = r := by
          intro r hr
          refine start r ?_
          rw [decide_eq_false hfin, ifB_false, lok_int0 under97 under3n zero4 hm1 hm2, hlk]
          simp only [asB_bool, ifB_false, c76, hn11]
          refine (lp_eq hlp).trans ?_
          rw [nilp, asP_ptr, ldm hN10]
          exact hr
        have hNw : Nw B nw5 := fun p hp => by obtain ⟨K, q1, q2⟩ := hk10 p hp; exact ⟨K, q1, by omega⟩
        rcases hor with ⟨rfl, hno⟩ | ⟨rfl, v20, w, rfl, hgood, r, hr, hsr⟩
        · have hbad : goodQ g t B = false := by
            rw [Bool.eq_false_iff]
            intro hgood
            obtain ⟨z, hz, hzt⟩ : ∃ z, (lf g B).testBit z = true ∧ z ≠ t := by
              refine Classical.byContradiction fun hc => hfin ?_
              refine set_ext (n := 10) hlf h2t fun z _ => ?_
              rw [Nat.testBit_two_pow]
              by_cases hzt : t = z
              · subst hzt; rw [htl, decide_eq_true rfl]
              · rw [decide_eq_false hzt, Bool.eq_false_iff]
                exact fun hz => hc ⟨z, hz, fun e => hzt e.symm⟩
            obtain ⟨v, hvn, hv1, hv2⟩ := good_next hg hbi ht hBt hsB hsn hgood hz hzt
            have h0 : L.find? (fun v => cq g t B v && goodQ g t (B ||| 2 ^ v)) = none := List.find?_eq_none.2 fun x hx => by rw [hno x hx]; simp
            rw [hfind] at h0
            have := List.find?_eq_none.1 h0 v (List.mem_range.2 hvn)
            rw [hv1, hv2] at this
            exact this rfl
          have hk : look (kv ++ nw5) (B : Int) 0 = none := by
            rw [look_none]
            intro p hp
            rw [List.mem_append] at hp
            rcases hp with hp | hp
            · exact (look_none _ _).1 hlk p hp
            · obtain ⟨K, q1, q2⟩ := hk10 p hp
              rw [q1]
              intro e
              have := Int.natCast_inj.1 e
              subst this
              omega
          obtain ⟨h11, e11, hN11, f11⟩ := hN10.add (R := Value × H) hk hbad
          obtain ⟨h12, e12, m12, _⟩ := x82 (k := 20) (v0 := pt bx 0) (v1 := v1) (n0 := B) (h := h) (h1 := h11) (v := .slice none 0 0) (start3 _ (by rw [onE_exit, if_pos rfl, e11])) rfl
          refine ⟨.slice none 0 0, h12, nw5 ++ [((B : Int), .bool true)], e12, ?_, (((fh4.trans f10).trans f11).weak).sm m12, ?_, .inr ⟨hbad, rfl⟩⟩
          · rw [← List.append_assoc]; exact hN11.ext m12.ext
          · intro p hp
            rw [List.mem_append, List.mem_singleton] at hp
            rcases hp with hp | rfl
            · exact hNw p hp
            · exact ⟨B, rfl, Nat.le_refl _⟩
        · obtain ⟨h12, e12, m12, _⟩ := x82 (k := 20) (v0 := pt bx 0) (v1 := v1) (n0 := B) (h := h) (h1 := h10) (v := v20) (start3 _ (by rw [onE_ret, onR_ret]; rfl)) hsr.notR
          exact ⟨v20, h12, nw5, e12, hN10.ext m12.ext, ((fh4.trans f10).weak).sm m12, hNw, .inl ⟨hgood, r, hr, hsr.ext m12.ext⟩⟩

end Go.AM
