/- Parts of the proof, put together: what the functions of the program answer, and plain laws. -/
import Derived.Test.YtakhklelgcfgjaaDoorAmRun
import Derived.Test.YtakhklelgcfgjaaDoorRows
import Derived.LaidMore
import Derived.Stop.Joined
import Derived.ProofKit
import Derived.OpenShut
import Derived.Deep.Matrix
import Derived.Test.YtakhklelgcfgjaaDoorTks2

section

/- The document's check of ears: the whole. -/
namespace Go.AM
open Go.Proofs
variable {R : Type}
attribute [local simp] nx_eq nx_new nx_set blk_new blk_set asI_int asK_int asB_bool asP_ptr al_eq bx_eq len_slice onE_exit onE_ret onR_ret Value.cells cell_new cell_set rd_new rd_set off eq lt le ifB gv out ext20 ext21
theorem l7_eq : f56_l7 = f56_l2 := by kernel_rfl

theorem l5_eq : f56_l5 = f56_l3 := by kernel_rfl

theorem l8_eq : f56_l8 = f56_l3 := by kernel_rfl

set_option maxHeartbeats 4000000 in
theorem s56_ear {K i met : Nat} {v0 v1 uv : Value} {p} {q r : Nat} {G left : List Nat} {es : List (List Nat)} {LL : List (List Int)} {vs : List Value} {x : List Int} {h0 g : H} {used : List (Nat × Nat)} (hG : GrN G) (hs0 : SlR h0 3 1 v0 (cellsN G)) (hs1 : SlR h0 22 1 v1 (cellsV vs)) (hvl : vs.length = LL.length)
    (hxv : vs[i]? = some (.slice p q r)) (hx : LL[i]? = some x) (hsx : SlR h0 3 1 (.slice p q r) (cellsI x)) (xg : Ext h0 g) (hu : AqR h0.nx g 32 2 uv (cellsP used)) (hk : ElB G es left met) (hei : es.length = i) (hU : UR G left used) (hK : 200 ≤ K) (hxK : x.length < K) :
    (∃ m : List Nat, x = m.map Int.ofNat ∧ EarK i G.length left met m ∧ ∃ uv' used' g', f56_l1 rn K v0 v1 LL.length [.bool false, iv met, uv, iv i] g = some (.normal, [.bool false, iv (met ||| setOf m : Nat), uv', iv ((i + 1 : Nat) : Int)], g') ∧ Ext h0 g' ∧ AqR h0.nx g' 32 2 uv' (cellsP used') ∧ UR G (delP left m) used') ∨
    ((∀ m : List Nat, x = m.map Int.ofNat → ¬ EarK i G.length left met m) ∧ ∃ ws' g', f56_l1 rn K v0 v1 LL.length [.bool false, iv met, uv, iv i] g = some (.ret, .bool false :: ws', g') ∧ Ext h0 g') := by
  have hlen := hG.len
  have hpow := hG.pow
  have hmet := Nat.lt_of_lt_of_le hk.tn hpow
  have hil := (List.getElem?_eq_some_iff.1 hx).1
  have hv62 := hs1.lt62
  rw [List.length_map, hvl] at hv62
  have hx62 := hsx.lt62
  rw [List.length_map] at hx62
  have hsg := hsx.ext xg
  have hs0g := hs0.ext xg
  have hnx : ∀ {T : Type} (Q : Int → Option T), len (.slice p q r) Q = Q (x.length : Int) := fun Q => by rw [hsx.len, List.length_map]
  have hadd : add .i64 (i : Int) 1 = ((i + 1 : Nat) : Int) := by rw [add64 (by omega) (by omega)]; omega
  have e1 : ∀ (Q : Value → Option (Ex × List Value × H)), (six v1 (i : Int) 1 fun b o => ld Tryd.prog g 22 b o Q) = Q (.slice p q r) := fun Q =>
    (hs1.ext xg).ld0 ag22 (by omega) (x := [.slice p q r]) (by rw [Int.toNat_natCast, List.getElem?_map, hxv]; rfl) rfl Q
  obtain ⟨q0, e99, hq0⟩ := s99 hG hs0g hsg
  obtain ⟨ws0, hws0⟩ : ∃ ws0, ws0 = [.bool false, iv met, uv, iv i] := ⟨_, rfl⟩
  rw [← hws0]
  have w0 : AM.gv ws0 0 = .bool false := by rw [hws0]; rfl
  have w1 : AM.gv ws0 1 = iv met := by rw [hws0]; rfl
  have w2 : AM.gv ws0 2 = uv := by rw [hws0]; rfl
  have w3 : AM.gv ws0 3 = iv i := by rw [hws0]; rfl
  by_cases hA : x.length < 2
  · refine .inr ⟨fun m hm e => ?_, [iv met, uv, iv i], g, ?_, xg⟩
    · have := e.len
      rw [hm, List.length_map] at hA
      omega
    · unfold f56_l1
      rw [w3, w2, w1, asI_int, lt_t (by omega), ifB_true, asK_int, e1, hnx, lt_t (by omega), ifB_true]
      rfl
  by_cases hB : StepsOk G x
  · have hqt := hq0.2 hB
    subst hqt
    obtain ⟨m, rfl, hmn, hch⟩ := hB
    rw [List.length_map] at hA hx62 hxK
    simp only [List.length_map] at hnx
    rw [cellsN_eq] at hsx hsg
    have huniq : (EarK i G.length left met m → False) → ∀ m' : List Nat, m.map Int.ofNat = m'.map Int.ofNat → ¬ EarK i G.length left met m' := fun hP m' hm' e => hP (by rw [map_inj hm']; exact e)
    have hiff := earK_iff (i := i) (n := G.length) (met := met) (left := left) (m := m) (fun h => hk.zero (by omega)) (by omega) hmn
    have hmm1 : m.length - 1 < m.length := by omega
    have hsubm : AM.sub .i64 (m.length : Int) 1 = ((m.length - 1 : Nat) : Int) := by rw [sub64 (by omega) (by omega)]; omega
    have hm10 : ∀ y ∈ m, y < 10 := fun y hy => Nat.lt_of_lt_of_le (hmn y hy) hlen
    have hlastn := hmn _ (nb_mem (m := m) (i := m.length - 1) (by omega))
    have g0 := fun (g' : H) (xx : Ext g g') (Q : Value → Option (Ex × List Value × H)) => getN (R := Ex × List Value × H) (hsg.ext xx) (i := 0) (by omega) Q
    simp only [show ((0 : Nat) : Int) = 0 from rfl] at g0
    have gL := fun (g' : H) (xx : Ext g g') (Q : Value → Option (Ex × List Value × H)) => getN (R := Ex × List Value × H) (hsg.ext xx) (i := m.length - 1) (by omega) Q
    -- the slice without its last one
    obtain ⟨v6, s6, esl⟩ := hsg.take (i := ((m.length - 1 : Nat) : Int)) under22 sz3 (by omega) (by rw [List.length_map]; omega)
    have hs6 : SlR g 3 1 v6 (cellsN m.dropLast) := by
      have : (cellsN m).take ((m.length - 1 : Nat) : Int).toNat = cellsN m.dropLast := by
        rw [Int.toNat_natCast, ← List.map_take, List.dropLast_eq_take]
      rw [this] at s6; exact s6
    have hn6 : ∀ {T : Type} (Q : Int → Option T), len v6 Q = Q (m.dropLast.length : Int) := fun Q => by rw [hs6.len, List.length_map]
    have hdl : m.dropLast.length = m.length - 1 := List.length_dropLast ..
    have hl2 := s56_l2 (K := K) (i := i) (met := met) (ws0 := ws0) (v6 := v6) (w := .bool false) (p := m.dropLast) (h := g) (fun y hy => hm10 y (List.dropLast_subset _ hy)) hmet (by omega) w1 w3 hs6 (by omega)
    have hl3 := s56_l3 (K := K) (v2 := .slice p q r) (w := .bool false) (uv := uv) (m := m) (left := left) (G := G) (h0 := h0) (h := g) (used := used) hG hk.gr hk.len hk.sub (by omega) hx62 hch hsx xg hu hU hK hxK
    have hsetlt : setOf m.dropLast < 1024 := setOf_lt (n := 10) fun y hy => hm10 y (List.dropLast_subset _ hy)
    have horr : AM.or .i64 (met : Int) (setOf m.dropLast : Int) = ((met ||| setOf m.dropLast : Nat) : Int) := or_nat (by omega) (by omega)
    by_cases hi0 : i = 0
    · have hi0' : AM.eq (i : Int) 0 = true := by rw [hi0]; rfl
      have start : ∀ r', (ifB (AM.lt (m.length : Int) 4) (AM.out .ret [.bool false, iv met, uv, iv i] g) (
            ifB (not (AM.eq (nb m 0 : Int) (nb m (m.length - 1) : Int))) (AM.out .ret [.bool false, iv met, uv, iv i] g) (
              lp K (f56_l2 rn K ws0 v6 m.dropLast.length) [.bool false, iv 0, iv 0] g fun e0 ws2 h4 =>
              onE e0 2 (
                lp K (f56_l3 rn K (.slice p q r) m.length) [AM.gv ws2 0, uv, iv 1] h4 fun e4 ws10 h24 =>
                asI .i64 (AM.gv ws2 1) fun n52 =>
                  onE e4 4 (
                    AM.out .normal [AM.gv ws10 0, (.int .i64 (AM.or .i64 met n52)), AM.gv ws10 1, iv ((i + 1 : Nat) : Int)] h24) (
                    onR e4 (
                      AM.out .ret [AM.gv ws10 0, (.int .i64 (AM.or .i64 met n52)), AM.gv ws10 1, iv i] h24))) (
                onR e0 (
                  AM.out .ret [AM.gv ws2 0, iv met, uv, iv i] h4))))) = r' → f56_l1 rn K v0 v1 LL.length ws0 g = r' := by
        intro r' hr
        unfold f56_l1
        rw [w3, w2, w1, w0, asI_int, lt_t (by omega), ifB_true, asK_int, e1, hnx, lt_f (by omega), ifB_false, calls_eq (xs := [v0, .slice p q r]) e99, asB_bool, show (!true) = false from rfl, ifB_false, asI_int, hi0', ifB_true]
        simp only [d3, hsubm]
        rw [← hr]
        congr 1
        rw [g0 g (.refl _), asI_int, gL g (.refl _), asI_int, esl, hn6]
        congr 1
        rcases hl2 with ⟨_, z, el2⟩ | ⟨_, ws', el2⟩
        · rw [lp_eq el2, lp_eq el2, onE_exit, if_pos rfl, onE_exit, if_pos rfl, gL g (.refl _), asI_int, asI_int, lt_f (by omega), ifB_false, asI_int, show AM.gv [.bool false, iv (setOf m.dropLast : Nat), z] 1 = iv (setOf m.dropLast : Nat) from rfl, asI_int, l5_eq]
          simp only [asI_int, hadd]
        · rw [lp_eq el2, lp_eq el2]
          rfl
      by_cases h4 : m.length < 4
      · refine .inr ⟨huniq fun e => ?_, [iv met, uv, iv i], g, start _ (by rw [lt_t (by omega), ifB_true]; rfl), xg⟩
        have := (e.first hi0).1
        omega
      by_cases hfl : nb m 0 = nb m (m.length - 1)
      · rcases hl2 with ⟨hF, z, el2⟩ | ⟨hF, ws', el2⟩
        · rcases hl3 with ⟨hT, uv', used', z', g', el3, xg', ha', hU'⟩ | ⟨hT, ws', g', el3, xg'⟩
          · refine .inl ⟨m, rfl, hiff.2 ⟨fun _ => ⟨by omega, hfl⟩, hF, fun h => by omega, hT⟩, uv', used', g', start _ ?_, xg', ha', hU'⟩
            rw [lt_f (by omega), ifB_false, hfl, show AM.eq (nb m (m.length - 1) : Int) (nb m (m.length - 1) : Int) = true by simp [AM.eq], show (!true) = false from rfl, ifB_false, lp_eq el2, onE_exit, if_pos rfl]
            rw [show AM.gv [.bool false, iv (setOf m.dropLast : Nat), z] 0 = .bool false from rfl, lp_eq el3, show AM.gv [.bool false, iv (setOf m.dropLast : Nat), z] 1 = iv (setOf m.dropLast : Nat) from rfl, asI_int, onE_exit, if_pos rfl, horr, met_dropLast (i := i) (by omega) (fun _ => hfl) (fun h => by omega)]
            rfl
          · refine .inr ⟨huniq fun e => hT e.tr, [iv (met ||| setOf m.dropLast : Nat), AM.gv (.bool false :: ws') 1, iv i], g', start _ ?_, xg'⟩
            rw [lt_f (by omega), ifB_false, hfl, show AM.eq (nb m (m.length - 1) : Int) (nb m (m.length - 1) : Int) = true by simp [AM.eq], show (!true) = false from rfl, ifB_false, lp_eq el2, onE_exit, if_pos rfl]
            rw [show AM.gv [.bool false, iv (setOf m.dropLast : Nat), z] 0 = .bool false from rfl, lp_eq el3, show AM.gv [.bool false, iv (setOf m.dropLast : Nat), z] 1 = iv (setOf m.dropLast : Nat) from rfl, asI_int, onE_ret, onR_ret, horr]
            rfl
        · refine .inr ⟨huniq fun e => hF (hiff.1 e).2.1, [iv met, uv, iv i], g, start _ ?_, xg⟩
          rw [lt_f (by omega), ifB_false, hfl, show AM.eq (nb m (m.length - 1) : Int) (nb m (m.length - 1) : Int) = true by simp [AM.eq], show (!true) = false from rfl, ifB_false, lp_eq el2, onE_ret, onR_ret]
          rfl
      · refine .inr ⟨huniq fun e => hfl (e.first hi0).2, [iv met, uv, iv i], g, start _ ?_, xg⟩
        rw [lt_f (by omega), ifB_false, show AM.eq (nb m 0 : Int) (nb m (m.length - 1) : Int) = false by simp [AM.eq]; omega, show (!false) = true from rfl, ifB_true]
        rfl
    · have hi0' : AM.eq (i : Int) 0 = false := by simp [AM.eq]; omega
      have hbit : AM.and .i64 (shr .i64 (met : Int) (nb m (m.length - 1) : Int)) 1 = if met.testBit (nb m (m.length - 1)) then 1 else 0 := bit_nat (by omega) (by omega)
      have start : ∀ r', (
              lp K (f56_l2 rn K ws0 v6 m.dropLast.length) [.bool false, iv 0, iv 0] g fun e0 ws2 h4 =>
              onE e0 2 (
                ifB (AM.eq (AM.and .i64 (shr .i64 (met : Int) (nb m (m.length - 1) : Int)) 1) 0) (AM.out .ret [.bool false, iv met, uv, iv i] h4) (
                ifB (AM.eq (nb m (m.length - 1) : Int) (nb m 0 : Int)) (AM.out .ret [.bool false, iv met, uv, iv i] h4) (
                lp K (f56_l3 rn K (.slice p q r) m.length) [AM.gv ws2 0, uv, iv 1] h4 fun e4 ws10 h24 =>
                asI .i64 (AM.gv ws2 1) fun n52 =>
                  onE e4 4 (
                    AM.out .normal [AM.gv ws10 0, (.int .i64 (AM.or .i64 met n52)), AM.gv ws10 1, iv ((i + 1 : Nat) : Int)] h24) (
                    onR e4 (
                      AM.out .ret [AM.gv ws10 0, (.int .i64 (AM.or .i64 met n52)), AM.gv ws10 1, iv i] h24))))) (
                onR e0 (
                  AM.out .ret [AM.gv ws2 0, iv met, uv, iv i] h4))) = r' → f56_l1 rn K v0 v1 LL.length ws0 g = r' := by
        intro r' hr
        unfold f56_l1
        rw [w3, w2, w1, w0, asI_int, lt_t (by omega), ifB_true, asK_int, e1, hnx, lt_f (by omega), ifB_false, calls_eq (xs := [v0, .slice p q r]) e99, asB_bool, show (!true) = false from rfl, ifB_false, asI_int, hi0', ifB_false]
        simp only [d3, hsubm]
        rw [← hr, esl, hn6, l7_eq]
        rcases hl2 with ⟨_, z, el2⟩ | ⟨_, ws', el2⟩
        · rw [lp_eq el2, lp_eq el2, onE_exit, if_pos rfl, onE_exit, if_pos rfl, gL g (.refl _), asI_int, asI_int, lt_t (by omega), ifB_true, asI_int, nn_ge (show (0 : Int) ≤ (nb m (m.length - 1) : Int) by omega), show AM.gv [.bool false, iv (setOf m.dropLast : Nat), z] 1 = iv (setOf m.dropLast : Nat) from rfl]
          congr 1
          rw [g0 g (.refl _), asI_int]
          congr 1
          rw [asI_int, asI_int, l8_eq]
          simp only [asI_int, hadd]
        · rw [lp_eq el2, lp_eq el2]
          rfl
      rcases hl2 with ⟨hF, z, el2⟩ | ⟨hF, ws', el2⟩
      · cases hb : met.testBit (nb m (m.length - 1)) with
        | false =>
          refine .inr ⟨huniq fun e => ?_, [iv met, uv, iv i], g, start _ ?_, xg⟩
          · have := ((hiff.1 e).2.2.1 (by omega)).1
            rw [hb] at this; cases this
          · rw [lp_eq el2, onE_exit, if_pos rfl, hbit, hb]
            rfl
        | true =>
          by_cases hfl : nb m (m.length - 1) = nb m 0
          · refine .inr ⟨huniq fun e => ((hiff.1 e).2.2.1 (by omega)).2 hfl, [iv met, uv, iv i], g, start _ ?_, xg⟩
            rw [lp_eq el2, onE_exit, if_pos rfl, hbit, hb, hfl, show AM.eq (nb m 0 : Int) (nb m 0 : Int) = true by simp [AM.eq]]
            rfl
          · have hne : AM.eq (nb m (m.length - 1) : Int) (nb m 0 : Int) = false := by simp [AM.eq]; omega
            rcases hl3 with ⟨hT, uv', used', z', g', el3, xg', ha', hU'⟩ | ⟨hT, ws', g', el3, xg'⟩
            · refine .inl ⟨m, rfl, hiff.2 ⟨fun h => absurd h hi0, hF, fun _ => ⟨hb, hfl⟩, hT⟩, uv', used', g', start _ ?_, xg', ha', hU'⟩
              rw [lp_eq el2, onE_exit, if_pos rfl, hbit, hb, if_pos rfl, show AM.eq (1 : Int) 0 = false from rfl, ifB_false, hne, ifB_false]
              rw [show AM.gv [.bool false, iv (setOf m.dropLast : Nat), z] 0 = .bool false from rfl, lp_eq el3, show AM.gv [.bool false, iv (setOf m.dropLast : Nat), z] 1 = iv (setOf m.dropLast : Nat) from rfl, asI_int, onE_exit, if_pos rfl, horr, met_dropLast (i := i) (by omega) (fun h => absurd h hi0) (fun _ => hb)]
              rfl
            · refine .inr ⟨huniq fun e => hT e.tr, [iv (met ||| setOf m.dropLast : Nat), AM.gv (.bool false :: ws') 1, iv i], g', start _ ?_, xg'⟩
              rw [lp_eq el2, onE_exit, if_pos rfl, hbit, hb, if_pos rfl, show AM.eq (1 : Int) 0 = false from rfl, ifB_false, hne, ifB_false]
              rw [show AM.gv [.bool false, iv (setOf m.dropLast : Nat), z] 0 = .bool false from rfl, lp_eq el3, show AM.gv [.bool false, iv (setOf m.dropLast : Nat), z] 1 = iv (setOf m.dropLast : Nat) from rfl, asI_int, onE_ret, onR_ret, horr]
              rfl
      · refine .inr ⟨huniq fun e => hF (hiff.1 e).2.1, [iv met, uv, iv i], g, start _ ?_, xg⟩
        rw [lp_eq el2, onE_ret, onR_ret]
        rfl
  · have hqf : q0 = false := Bool.eq_false_iff.2 fun h => hB (hq0.1 h)
    subst hqf
    refine .inr ⟨fun m hm e => hB ⟨m, hm, e.lt, ?_⟩, [iv met, uv, iv i], g, ?_, xg⟩
    · exact ch_of _ fun j hj => hk.sub _ _ (ch_get m (e.tr.ch m hk.gr) j hj)
    · unfold f56_l1
      rw [w3, w2, w1, asI_int, lt_t (by omega), ifB_true, asK_int, e1, hnx, lt_f (by omega), ifB_false, calls_eq (xs := [v0, .slice p q r]) e99, asB_bool, show (!false) = true from rfl, ifB_true]
      rfl

end Go.AM

end

section

/- The document's check of ears: all of a list. -/
namespace Go.AM
open Go.Proofs
variable {R : Type}
attribute [local simp] nx_eq nx_new nx_set blk_new blk_set asI_int asK_int asB_bool asP_ptr al_eq bx_eq len_slice onE_exit onE_ret onR_ret Value.cells cell_new cell_set rd_new rd_set off eq lt le ifB gv out ext20 ext21
theorem len_le_sum : ∀ (L : List (List Int)) (x : List Int), x ∈ L → x.length ≤ (L.map List.length).sum
  | [], _, h => by cases h
  | y :: L, x, h => by
    rw [List.map_cons, List.sum_cons]
    rcases List.mem_cons.1 h with rfl | h
    · omega
    · have := len_le_sum L x h
      omega

theorem s56_l1 {K : Nat} {v0 v1 : Value} {G : List Nat} {LL : List (List Int)} {vs : List Value} {h : H} (hG : GrN G) (hs0 : SlR h 3 1 v0 (cellsN G)) (hs1 : SlR h 22 1 v1 (cellsV vs)) (hv : AllSl vs) (hLS : LSI h vs LL) (hK : K = LL.length + (LL.map List.length).sum + 300) :
    (∃ (es : List (List Nat)) (left : List Nat) (met : Nat) (uv : Value) (used : List (Nat × Nat)) (g : H) (z : Value), lpGo (f56_l1 rn K v0 v1 LL.length) K [.bool false, iv 0, .slice none 0 0, iv 0] h = some (.exit 0, [.bool false, iv met, uv, z], g) ∧ Ext h g ∧ AqR h.nx g 32 2 uv (cellsP used) ∧ ELk G es left met ∧ LL = es.map (fun m => m.map Int.ofNat) ∧ UR G left used) ∨
    (¬ EarsOk G LL ∧ ∃ ws' g, lpGo (f56_l1 rn K v0 v1 LL.length) K [.bool false, iv 0, .slice none 0 0, iv 0] h = some (.ret, .bool false :: ws', g) ∧ Ext h g) := by
  obtain ⟨e, ws', h', hl, xg, hor⟩ := lp_range (F := f56_l1 rn K v0 v1 LL.length) (k := K) (n := LL.length)
    (fun i ws g => ∃ (es : List (List Nat)) (left : List Nat) (met : Nat) (uv : Value) (used : List (Nat × Nat)), ws = [.bool false, iv met, uv, iv i] ∧ Ext h g ∧ AqR h.nx g 32 2 uv (cellsP used) ∧ ELk G es left met ∧ LL.take i = es.map (fun m => m.map Int.ofNat) ∧ UR G left used)
    (fun e ws g => Ext h g ∧ ((e = .exit 0 ∧ ∃ (es : List (List Nat)) (left : List Nat) (met : Nat) (uv : Value) (used : List (Nat × Nat)) (z : Value), ws = [.bool false, iv met, uv, z] ∧ AqR h.nx g 32 2 uv (cellsP used) ∧ ELk G es left met ∧ LL = es.map (fun m => m.map Int.ofNat) ∧ UR G left used) ∨ (e = .ret ∧ ¬ EarsOk G LL ∧ ∃ ws', ws = .bool false :: ws')))
    (by
      rintro i ws g hi ⟨es, left, met, uv, used, rfl, xg, ha, hk, ht, hU⟩
      have hx := List.getElem?_eq_getElem hi
      generalize hxd : LL[i] = x at hx
      have hvl := hLS.1
      have hxv := List.getElem?_eq_getElem (show i < vs.length by omega)
      generalize hvd : vs[i] = xv at hxv
      obtain ⟨p, q, r, rfl⟩ := hv xv (List.mem_of_getElem? hxv)
      have hei : es.length = i := by
        have := congrArg List.length ht
        rw [List.length_take, List.length_map] at this
        omega
      have hxs := len_le_sum LL x (List.mem_of_getElem? hx)
      rcases s56_ear (K := K) hG hs0 hs1 hvl hxv hx (hLS.2 i _ x hxv hx) xg ha (hk.base hG) hei hU (by omega) (by omega) with ⟨m, rfl, hE, uv', used', g', e1, xg', ha', hU'⟩ | ⟨hno, ws', g', e1, xg'⟩
      · refine ⟨.normal, _, g', e1, .inl ⟨rfl, es ++ [m], delP left m, met ||| setOf m, uv', used', rfl, xg', ha', hk.add (by rw [hei]; exact hE), ?_, hU'⟩⟩
        rw [List.take_add_one, hx, ht, List.map_append]; rfl
      · exact ⟨.ret, _, g', e1, .inr ⟨by simp, xg', .inr ⟨rfl, not_ok hk ht hx hno, _, rfl⟩⟩⟩)
    (by
      rintro ws g ⟨es, left, met, uv, used, rfl, xg, ha, hk, ht, hU⟩
      rw [List.take_length] at ht
      refine ⟨.exit 0, [.bool false, iv met, uv, iv LL.length], g, ?_, by simp, xg, .inl ⟨rfl, es, left, met, uv, used, _, rfl, ha, hk, ht, hU⟩⟩
      unfold f56_l1
      rw [show AM.gv [.bool false, iv met, uv, iv LL.length] 3 = iv LL.length from rfl, asI_int, lt_f (by omega), ifB_false]
      rfl)
    (ws := [.bool false, iv 0, .slice none 0 0, iv 0]) (h := h) (by omega) ⟨[], G, 0, _, [], rfl, .refl _, .nil, .inl ⟨rfl, rfl, rfl⟩, rfl, by simp, fun e => by simp⟩
  rcases hor with ⟨rfl, es, left, met, uv, used, z, rfl, h1, h2, h3, h4⟩ | ⟨rfl, h1, ws', rfl⟩
  · exact .inl ⟨es, left, met, uv, used, h', z, hl, xg, h1, h2, h3, h4⟩
  · exact .inr ⟨h1, ws', h', hl, xg⟩

theorem s56 {v lv : Value} {g : List Nat} {vs : List Value} {LL : List (List Int)} {h : H} (hg : GrN g) (hs : SlR h 3 1 v (cellsN g)) (hl : SlR h 22 1 lv (cellsV vs)) (hv : AllSl vs) (hLS : LSI h vs LL) :
    ∃ q, rn 56 #[v, lv] h = some (.bool q, h) ∧ (q = true ↔ EarsOk g LL) := by
  have hpow := hg.pow
  have hn : ∀ {T : Type} (Q : Int → Option T), len lv Q = Q (LL.length : Int) := fun Q => by rw [hl.len, List.length_map, hLS.1]
  have hl62 := hl.lt62
  rw [List.length_map, hLS.1] at hl62
  rcases s56_l1 (K := LL.length + (LL.map List.length).sum + 300) hg hs hl hv hLS rfl with ⟨es, left, met, uv, used, g1, z, e1, xg, ha, hk, ht, hU⟩ | ⟨hno, ws', g1, e1, xg⟩
  · have hb := hk.base hg
    have hcnt := hU.count hb.len hb.sub
    have hs2 := hs.ext xg
    obtain ⟨v59, g2, e71, x2, hs59⟩ := s71 hg.toGrB hs2
    have hnu : ∀ {T : Type} (Q : Int → Option T), len uv Q = Q (used.length : Int) := fun Q => by rw [ha.slR.len]; simp
    have hn59 : ∀ {T : Type} (Q : Int → Option T), len v59 Q = Q ((edgesP g).length : Int) := fun Q => by rw [hs59.len]; simp
    have hok : EarsOk g LL ↔ (0 < LL.length ∧ met = allN g) ∧ used.length = (edgesP g).length := by
      constructor
      · rintro ⟨es', left', hLL, hEL, hE⟩
        have : es' = es := map2_inj (hLL.symm.trans ht)
        subst this
        obtain ⟨rfl, rfl⟩ := ELk.fun_ (.inr hEL) hk
        have := hEL.pos
        rw [hE, List.length_nil] at hcnt
        exact ⟨⟨by rw [ht, List.length_map]; omega, rfl⟩, by omega⟩
      · rintro ⟨⟨h0, hm⟩, hu⟩
        rcases hk with ⟨rfl, _, _⟩ | hk
        · rw [ht] at h0; simp at h0
        · subst hm
          exact ⟨es, left, ht, hk, List.length_eq_zero_iff.1 (by omega)⟩
    by_cases h0 : 0 < LL.length
    · by_cases hm : met = allN g
      · refine ⟨decide (used.length = (edgesP g).length), p56 (k := LL.length + (LL.map List.length).sum + 300) (h1 := g2) ?_ rfl (xg.trans x2.toExt), by rw [hok, decide_eq_true_iff]; exact ⟨fun h => ⟨⟨h0, hm⟩, h⟩, fun h => h.2⟩⟩
        unfold f56
        rw [hn]
        refine (lp_eq e1).trans ?_
        rw [onE_exit, if_pos rfl, hn, lt_t (by omega), ifB_true, calls_eq (xs := [v]) (s68 hg.toGrB hs2), asI_int, show AM.gv [.bool false, iv met, uv, z] 1 = iv met from rfl, asI_int, hm, show AM.eq (allN g : Int) (allN g : Int) = true by simp [AM.eq], ifB_true, show AM.gv [.bool false, iv (allN g : Nat), uv, z] 2 = uv from rfl, hnu, calls_eq (xs := [v]) e71, hn59, eqN]
      · refine ⟨false, p56 (k := LL.length + (LL.map List.length).sum + 300) (h1 := g1) ?_ rfl xg, by rw [hok]; simp [hm]⟩
        unfold f56
        rw [hn]
        refine (lp_eq e1).trans ?_
        rw [onE_exit, if_pos rfl, hn, lt_t (by omega), ifB_true, calls_eq (xs := [v]) (s68 hg.toGrB hs2), asI_int, show AM.gv [.bool false, iv met, uv, z] 1 = iv met from rfl, asI_int, show AM.eq (met : Int) (allN g : Int) = false by simp [AM.eq]; omega, ifB_false]
    · refine ⟨false, p56 (k := LL.length + (LL.map List.length).sum + 300) (h1 := g1) ?_ rfl xg, by rw [hok]; simp [h0]⟩
      unfold f56
      rw [hn]
      refine (lp_eq e1).trans ?_
      rw [onE_exit, if_pos rfl, hn, lt_f (by omega), ifB_false]
  · refine ⟨false, p56 (k := LL.length + (LL.map List.length).sum + 300) (h1 := g1) ?_ rfl xg, by simp [hno]⟩
    unfold f56
    rw [hn]
    refine (lp_eq e1).trans ?_
    rw [onE_ret, onR_ret]
    rfl

end Go.AM

end

section

/- The staged forms of functions 54, and what calls of these answer. -/
namespace Go.AM
open Go.Proofs
noncomputable def f54_l2 (rec : Rec) (_k : Nat) (v3 : Value) (ws0 : List Value) (v6 : Value) (n9 : Int) (ws1 : List Value) (h4 : H) : Option (Ex × List Value × H) :=
  asI .i64 (gv ws1 3) fun n10 =>
  ifB (lt n10 n9) (
    asK (gv ws1 3) fun n11 =>
    six v6 n11 1 fun b6 b7 =>
    ld Tryd.prog h4 3 b6 b7 fun v9 =>
    asI .i64 v9 fun n12 =>
    calls rec h4 79 [v3, (.int .i64 n12)] fun v10 h5 =>
    asB v10 fun q1 =>
    ifB (not q1) (
      out .ret [(.bool false), (.int .i64 0), gv ws1 2, gv ws1 3] h5) (
      asI .i64 (gv ws1 3) fun n13 =>
      ifB (lt 0 n13) (
        asI .i64 (gv ws1 3) fun n14 =>
        six v6 (sub .i64 n14 1) 1 fun b8 b9 =>
        ld Tryd.prog h5 3 b8 b9 fun v11 =>
        asI .i64 v11 fun n15 =>
        calls rec h5 80 [gv ws1 2, (.int .i64 n15), (.int .i64 n12)] fun v12 h6 =>
        asB v12 fun q2 =>
        ifB (not q2) (
          out .ret [(.bool false), (.int .i64 0), gv ws1 2, gv ws1 3] h6) (
          asI .i64 (gv ws1 3) fun n16 =>
          ifB (lt 0 n16) (
            asI .i64 (gv ws1 3) fun n17 =>
            six v6 (sub .i64 n17 1) 1 fun b10 b11 =>
            ld Tryd.prog h6 3 b10 b11 fun v13 =>
            asI .i64 v13 fun n18 =>
            bld Tryd.prog 32 [(0, (.int .i64 n18)), (1, (.int .i64 n12))] fun v14 =>
            calls rec h6 87 [gv ws1 2, v14] fun v15 h7 =>
            asI .i64 (gv ws1 3) fun n19 =>
            ifB (eq n19 0) (
              sli Tryd.prog h7 102 v6 none (some (gv ws1 3)) none fun v16 =>
              calls rec h7 97 [v16, (.int .i64 n12)] fun v17 h8 =>
              asB v17 fun q3 =>
              ifB q3 (
                asI .i64 (gv ws0 4) fun n20 =>
                ifB (lt 0 n20) (
                  out .ret [(.bool false), (.int .i64 0), v15, gv ws1 3] h8) (
                  len v6 fun n21 =>
                  asI .i64 (gv ws1 3) fun n22 =>
                  ifB (lt n22 (sub .i64 n21 1)) (
                    out .ret [(.bool false), (.int .i64 0), v15, gv ws1 3] h8) (
                    asI .i64 (gv ws0 4) fun n23 =>
                    ifB (lt 0 n23) (
                      asI .i64 (gv ws0 3) fun n24 =>
                      nn n12 (
                        eqv Tryd.prog 4 (.bool (eq (and .i64 (shr .i64 n24 n12) 1) 1)) (.bool true) fun q4 =>
                        ifB (not q4) (
                          out .ret [(.bool false), (.int .i64 0), v15, gv ws1 3] h8) (
                          asI .i64 (gv ws1 3) fun n25 =>
                          out .normal [gv ws1 0, gv ws1 1, v15, (.int .i64 (add .i64 n25 1))] h8))) (
                      asI .i64 (gv ws1 3) fun n26 =>
                      out .normal [gv ws1 0, gv ws1 1, v15, (.int .i64 (add .i64 n26 1))] h8)))) (
                asI .i64 (gv ws0 4) fun n27 =>
                ifB (lt 0 n27) (
                  asI .i64 (gv ws0 3) fun n28 =>
                  nn n12 (
                    eqv Tryd.prog 4 (.bool (eq (and .i64 (shr .i64 n28 n12) 1) 1)) (.bool true) fun q5 =>
                    ifB (not q5) (
                      out .ret [(.bool false), (.int .i64 0), v15, gv ws1 3] h8) (
                      asI .i64 (gv ws1 3) fun n29 =>
                      out .normal [gv ws1 0, gv ws1 1, v15, (.int .i64 (add .i64 n29 1))] h8))) (
                  asI .i64 (gv ws1 3) fun n30 =>
                  out .normal [gv ws1 0, gv ws1 1, v15, (.int .i64 (add .i64 n30 1))] h8))) (
              len v6 fun n31 =>
              asI .i64 (gv ws1 3) fun n32 =>
              sli Tryd.prog h7 102 v6 none (some (gv ws1 3)) none fun v18 =>
              calls rec h7 97 [v18, (.int .i64 n12)] fun v19 h9 =>
              asB v19 fun q6 =>
              ifB q6 (
                asI .i64 (gv ws0 4) fun n33 =>
                ifB (lt 0 n33) (
                  out .ret [(.bool false), (.int .i64 0), v15, gv ws1 3] h9) (
                  len v6 fun n34 =>
                  asI .i64 (gv ws1 3) fun n35 =>
                  ifB (lt n35 (sub .i64 n34 1)) (
                    out .ret [(.bool false), (.int .i64 0), v15, gv ws1 3] h9) (
                    asI .i64 (gv ws0 4) fun n36 =>
                    ifB (lt 0 n36) (
                      asI .i64 (gv ws0 3) fun n37 =>
                      nn n12 (
                        eqv Tryd.prog 4 (.bool (eq (and .i64 (shr .i64 n37 n12) 1) 1)) (.bool (eq n32 (sub .i64 n31 1))) fun q7 =>
                        ifB (not q7) (
                          out .ret [(.bool false), (.int .i64 0), v15, gv ws1 3] h9) (
                          asI .i64 (gv ws1 3) fun n38 =>
                          out .normal [gv ws1 0, gv ws1 1, v15, (.int .i64 (add .i64 n38 1))] h9))) (
                      asI .i64 (gv ws1 3) fun n39 =>
                      out .normal [gv ws1 0, gv ws1 1, v15, (.int .i64 (add .i64 n39 1))] h9)))) (
                asI .i64 (gv ws0 4) fun n40 =>
                ifB (lt 0 n40) (
                  asI .i64 (gv ws0 3) fun n41 =>
                  nn n12 (
                    eqv Tryd.prog 4 (.bool (eq (and .i64 (shr .i64 n41 n12) 1) 1)) (.bool (eq n32 (sub .i64 n31 1))) fun q8 =>
                    ifB (not q8) (
                      out .ret [(.bool false), (.int .i64 0), v15, gv ws1 3] h9) (
                      asI .i64 (gv ws1 3) fun n42 =>
                      out .normal [gv ws1 0, gv ws1 1, v15, (.int .i64 (add .i64 n42 1))] h9))) (
                  asI .i64 (gv ws1 3) fun n43 =>
                  out .normal [gv ws1 0, gv ws1 1, v15, (.int .i64 (add .i64 n43 1))] h9)))) (
            asI .i64 (gv ws1 3) fun n44 =>
            ifB (eq n44 0) (
              sli Tryd.prog h6 102 v6 none (some (gv ws1 3)) none fun v20 =>
              calls rec h6 97 [v20, (.int .i64 n12)] fun v21 h10 =>
              asB v21 fun q9 =>
              ifB q9 (
                asI .i64 (gv ws0 4) fun n45 =>
                ifB (lt 0 n45) (
                  out .ret [(.bool false), (.int .i64 0), gv ws1 2, gv ws1 3] h10) (
                  len v6 fun n46 =>
                  asI .i64 (gv ws1 3) fun n47 =>
                  ifB (lt n47 (sub .i64 n46 1)) (
                    out .ret [(.bool false), (.int .i64 0), gv ws1 2, gv ws1 3] h10) (
                    asI .i64 (gv ws0 4) fun n48 =>
                    ifB (lt 0 n48) (
                      asI .i64 (gv ws0 3) fun n49 =>
                      nn n12 (
                        eqv Tryd.prog 4 (.bool (eq (and .i64 (shr .i64 n49 n12) 1) 1)) (.bool true) fun q10 =>
                        ifB (not q10) (
                          out .ret [(.bool false), (.int .i64 0), gv ws1 2, gv ws1 3] h10) (
                          asI .i64 (gv ws1 3) fun n50 =>
                          out .normal [gv ws1 0, gv ws1 1, gv ws1 2, (.int .i64 (add .i64 n50 1))] h10))) (
                      asI .i64 (gv ws1 3) fun n51 =>
                      out .normal [gv ws1 0, gv ws1 1, gv ws1 2, (.int .i64 (add .i64 n51 1))] h10)))) (
                asI .i64 (gv ws0 4) fun n52 =>
                ifB (lt 0 n52) (
                  asI .i64 (gv ws0 3) fun n53 =>
                  nn n12 (
                    eqv Tryd.prog 4 (.bool (eq (and .i64 (shr .i64 n53 n12) 1) 1)) (.bool true) fun q11 =>
                    ifB (not q11) (
                      out .ret [(.bool false), (.int .i64 0), gv ws1 2, gv ws1 3] h10) (
                      asI .i64 (gv ws1 3) fun n54 =>
                      out .normal [gv ws1 0, gv ws1 1, gv ws1 2, (.int .i64 (add .i64 n54 1))] h10))) (
                  asI .i64 (gv ws1 3) fun n55 =>
                  out .normal [gv ws1 0, gv ws1 1, gv ws1 2, (.int .i64 (add .i64 n55 1))] h10))) (
              len v6 fun n56 =>
              asI .i64 (gv ws1 3) fun n57 =>
              sli Tryd.prog h6 102 v6 none (some (gv ws1 3)) none fun v22 =>
              calls rec h6 97 [v22, (.int .i64 n12)] fun v23 h11 =>
              asB v23 fun q12 =>
              ifB q12 (
                asI .i64 (gv ws0 4) fun n58 =>
                ifB (lt 0 n58) (
                  out .ret [(.bool false), (.int .i64 0), gv ws1 2, gv ws1 3] h11) (
                  len v6 fun n59 =>
                  asI .i64 (gv ws1 3) fun n60 =>
                  ifB (lt n60 (sub .i64 n59 1)) (
                    out .ret [(.bool false), (.int .i64 0), gv ws1 2, gv ws1 3] h11) (
                    asI .i64 (gv ws0 4) fun n61 =>
                    ifB (lt 0 n61) (
                      asI .i64 (gv ws0 3) fun n62 =>
                      nn n12 (
                        eqv Tryd.prog 4 (.bool (eq (and .i64 (shr .i64 n62 n12) 1) 1)) (.bool (eq n57 (sub .i64 n56 1))) fun q13 =>
                        ifB (not q13) (
                          out .ret [(.bool false), (.int .i64 0), gv ws1 2, gv ws1 3] h11) (
                          asI .i64 (gv ws1 3) fun n63 =>
                          out .normal [gv ws1 0, gv ws1 1, gv ws1 2, (.int .i64 (add .i64 n63 1))] h11))) (
                      asI .i64 (gv ws1 3) fun n64 =>
                      out .normal [gv ws1 0, gv ws1 1, gv ws1 2, (.int .i64 (add .i64 n64 1))] h11)))) (
                asI .i64 (gv ws0 4) fun n65 =>
                ifB (lt 0 n65) (
                  asI .i64 (gv ws0 3) fun n66 =>
                  nn n12 (
                    eqv Tryd.prog 4 (.bool (eq (and .i64 (shr .i64 n66 n12) 1) 1)) (.bool (eq n57 (sub .i64 n56 1))) fun q14 =>
                    ifB (not q14) (
                      out .ret [(.bool false), (.int .i64 0), gv ws1 2, gv ws1 3] h11) (
                      asI .i64 (gv ws1 3) fun n67 =>
                      out .normal [gv ws1 0, gv ws1 1, gv ws1 2, (.int .i64 (add .i64 n67 1))] h11))) (
                  asI .i64 (gv ws1 3) fun n68 =>
                  out .normal [gv ws1 0, gv ws1 1, gv ws1 2, (.int .i64 (add .i64 n68 1))] h11)))))) (
        asI .i64 (gv ws1 3) fun n69 =>
        ifB (lt 0 n69) (
          asI .i64 (gv ws1 3) fun n70 =>
          six v6 (sub .i64 n70 1) 1 fun b12 b13 =>
          ld Tryd.prog h5 3 b12 b13 fun v24 =>
          asI .i64 v24 fun n71 =>
          bld Tryd.prog 32 [(0, (.int .i64 n71)), (1, (.int .i64 n12))] fun v25 =>
          calls rec h5 87 [gv ws1 2, v25] fun v26 h12 =>
          asI .i64 (gv ws1 3) fun n72 =>
          ifB (eq n72 0) (
            sli Tryd.prog h12 102 v6 none (some (gv ws1 3)) none fun v27 =>
            calls rec h12 97 [v27, (.int .i64 n12)] fun v28 h13 =>
            asB v28 fun q15 =>
            ifB q15 (
              asI .i64 (gv ws0 4) fun n73 =>
              ifB (lt 0 n73) (
                out .ret [(.bool false), (.int .i64 0), v26, gv ws1 3] h13) (
                len v6 fun n74 =>
                asI .i64 (gv ws1 3) fun n75 =>
                ifB (lt n75 (sub .i64 n74 1)) (
                  out .ret [(.bool false), (.int .i64 0), v26, gv ws1 3] h13) (
                  asI .i64 (gv ws0 4) fun n76 =>
                  ifB (lt 0 n76) (
                    asI .i64 (gv ws0 3) fun n77 =>
                    nn n12 (
                      eqv Tryd.prog 4 (.bool (eq (and .i64 (shr .i64 n77 n12) 1) 1)) (.bool true) fun q16 =>
                      ifB (not q16) (
                        out .ret [(.bool false), (.int .i64 0), v26, gv ws1 3] h13) (
                        asI .i64 (gv ws1 3) fun n78 =>
                        out .normal [gv ws1 0, gv ws1 1, v26, (.int .i64 (add .i64 n78 1))] h13))) (
                    asI .i64 (gv ws1 3) fun n79 =>
                    out .normal [gv ws1 0, gv ws1 1, v26, (.int .i64 (add .i64 n79 1))] h13)))) (
              asI .i64 (gv ws0 4) fun n80 =>
              ifB (lt 0 n80) (
                asI .i64 (gv ws0 3) fun n81 =>
                nn n12 (
                  eqv Tryd.prog 4 (.bool (eq (and .i64 (shr .i64 n81 n12) 1) 1)) (.bool true) fun q17 =>
                  ifB (not q17) (
                    out .ret [(.bool false), (.int .i64 0), v26, gv ws1 3] h13) (
                    asI .i64 (gv ws1 3) fun n82 =>
                    out .normal [gv ws1 0, gv ws1 1, v26, (.int .i64 (add .i64 n82 1))] h13))) (
                asI .i64 (gv ws1 3) fun n83 =>
                out .normal [gv ws1 0, gv ws1 1, v26, (.int .i64 (add .i64 n83 1))] h13))) (
            len v6 fun n84 =>
            asI .i64 (gv ws1 3) fun n85 =>
            sli Tryd.prog h12 102 v6 none (some (gv ws1 3)) none fun v29 =>
            calls rec h12 97 [v29, (.int .i64 n12)] fun v30 h14 =>
            asB v30 fun q18 =>
            ifB q18 (
              asI .i64 (gv ws0 4) fun n86 =>
              ifB (lt 0 n86) (
                out .ret [(.bool false), (.int .i64 0), v26, gv ws1 3] h14) (
                len v6 fun n87 =>
                asI .i64 (gv ws1 3) fun n88 =>
                ifB (lt n88 (sub .i64 n87 1)) (
                  out .ret [(.bool false), (.int .i64 0), v26, gv ws1 3] h14) (
                  asI .i64 (gv ws0 4) fun n89 =>
                  ifB (lt 0 n89) (
                    asI .i64 (gv ws0 3) fun n90 =>
                    nn n12 (
                      eqv Tryd.prog 4 (.bool (eq (and .i64 (shr .i64 n90 n12) 1) 1)) (.bool (eq n85 (sub .i64 n84 1))) fun q19 =>
                      ifB (not q19) (
                        out .ret [(.bool false), (.int .i64 0), v26, gv ws1 3] h14) (
                        asI .i64 (gv ws1 3) fun n91 =>
                        out .normal [gv ws1 0, gv ws1 1, v26, (.int .i64 (add .i64 n91 1))] h14))) (
                    asI .i64 (gv ws1 3) fun n92 =>
                    out .normal [gv ws1 0, gv ws1 1, v26, (.int .i64 (add .i64 n92 1))] h14)))) (
              asI .i64 (gv ws0 4) fun n93 =>
              ifB (lt 0 n93) (
                asI .i64 (gv ws0 3) fun n94 =>
                nn n12 (
                  eqv Tryd.prog 4 (.bool (eq (and .i64 (shr .i64 n94 n12) 1) 1)) (.bool (eq n85 (sub .i64 n84 1))) fun q20 =>
                  ifB (not q20) (
                    out .ret [(.bool false), (.int .i64 0), v26, gv ws1 3] h14) (
                    asI .i64 (gv ws1 3) fun n95 =>
                    out .normal [gv ws1 0, gv ws1 1, v26, (.int .i64 (add .i64 n95 1))] h14))) (
                asI .i64 (gv ws1 3) fun n96 =>
                out .normal [gv ws1 0, gv ws1 1, v26, (.int .i64 (add .i64 n96 1))] h14)))) (
          asI .i64 (gv ws1 3) fun n97 =>
          ifB (eq n97 0) (
            sli Tryd.prog h5 102 v6 none (some (gv ws1 3)) none fun v31 =>
            calls rec h5 97 [v31, (.int .i64 n12)] fun v32 h15 =>
            asB v32 fun q21 =>
            ifB q21 (
              asI .i64 (gv ws0 4) fun n98 =>
              ifB (lt 0 n98) (
                out .ret [(.bool false), (.int .i64 0), gv ws1 2, gv ws1 3] h15) (
                len v6 fun n99 =>
                asI .i64 (gv ws1 3) fun n100 =>
                ifB (lt n100 (sub .i64 n99 1)) (
                  out .ret [(.bool false), (.int .i64 0), gv ws1 2, gv ws1 3] h15) (
                  asI .i64 (gv ws0 4) fun n101 =>
                  ifB (lt 0 n101) (
                    asI .i64 (gv ws0 3) fun n102 =>
                    nn n12 (
                      eqv Tryd.prog 4 (.bool (eq (and .i64 (shr .i64 n102 n12) 1) 1)) (.bool true) fun q22 =>
                      ifB (not q22) (
                        out .ret [(.bool false), (.int .i64 0), gv ws1 2, gv ws1 3] h15) (
                        asI .i64 (gv ws1 3) fun n103 =>
                        out .normal [gv ws1 0, gv ws1 1, gv ws1 2, (.int .i64 (add .i64 n103 1))] h15))) (
                    asI .i64 (gv ws1 3) fun n104 =>
                    out .normal [gv ws1 0, gv ws1 1, gv ws1 2, (.int .i64 (add .i64 n104 1))] h15)))) (
              asI .i64 (gv ws0 4) fun n105 =>
              ifB (lt 0 n105) (
                asI .i64 (gv ws0 3) fun n106 =>
                nn n12 (
                  eqv Tryd.prog 4 (.bool (eq (and .i64 (shr .i64 n106 n12) 1) 1)) (.bool true) fun q23 =>
                  ifB (not q23) (
                    out .ret [(.bool false), (.int .i64 0), gv ws1 2, gv ws1 3] h15) (
                    asI .i64 (gv ws1 3) fun n107 =>
                    out .normal [gv ws1 0, gv ws1 1, gv ws1 2, (.int .i64 (add .i64 n107 1))] h15))) (
                asI .i64 (gv ws1 3) fun n108 =>
                out .normal [gv ws1 0, gv ws1 1, gv ws1 2, (.int .i64 (add .i64 n108 1))] h15))) (
            len v6 fun n109 =>
            asI .i64 (gv ws1 3) fun n110 =>
            sli Tryd.prog h5 102 v6 none (some (gv ws1 3)) none fun v33 =>
            calls rec h5 97 [v33, (.int .i64 n12)] fun v34 h16 =>
            asB v34 fun q24 =>
            ifB q24 (
              asI .i64 (gv ws0 4) fun n111 =>
              ifB (lt 0 n111) (
                out .ret [(.bool false), (.int .i64 0), gv ws1 2, gv ws1 3] h16) (
                len v6 fun n112 =>
                asI .i64 (gv ws1 3) fun n113 =>
                ifB (lt n113 (sub .i64 n112 1)) (
                  out .ret [(.bool false), (.int .i64 0), gv ws1 2, gv ws1 3] h16) (
                  asI .i64 (gv ws0 4) fun n114 =>
                  ifB (lt 0 n114) (
                    asI .i64 (gv ws0 3) fun n115 =>
                    nn n12 (
                      eqv Tryd.prog 4 (.bool (eq (and .i64 (shr .i64 n115 n12) 1) 1)) (.bool (eq n110 (sub .i64 n109 1))) fun q25 =>
                      ifB (not q25) (
                        out .ret [(.bool false), (.int .i64 0), gv ws1 2, gv ws1 3] h16) (
                        asI .i64 (gv ws1 3) fun n116 =>
                        out .normal [gv ws1 0, gv ws1 1, gv ws1 2, (.int .i64 (add .i64 n116 1))] h16))) (
                    asI .i64 (gv ws1 3) fun n117 =>
                    out .normal [gv ws1 0, gv ws1 1, gv ws1 2, (.int .i64 (add .i64 n117 1))] h16)))) (
              asI .i64 (gv ws0 4) fun n118 =>
              ifB (lt 0 n118) (
                asI .i64 (gv ws0 3) fun n119 =>
                nn n12 (
                  eqv Tryd.prog 4 (.bool (eq (and .i64 (shr .i64 n119 n12) 1) 1)) (.bool (eq n110 (sub .i64 n109 1))) fun q26 =>
                  ifB (not q26) (
                    out .ret [(.bool false), (.int .i64 0), gv ws1 2, gv ws1 3] h16) (
                    asI .i64 (gv ws1 3) fun n120 =>
                    out .normal [gv ws1 0, gv ws1 1, gv ws1 2, (.int .i64 (add .i64 n120 1))] h16))) (
                asI .i64 (gv ws1 3) fun n121 =>
                out .normal [gv ws1 0, gv ws1 1, gv ws1 2, (.int .i64 (add .i64 n121 1))] h16))))))) (
    out (.exit 2) [gv ws1 0, gv ws1 1, gv ws1 2, gv ws1 3] h4)

noncomputable def f54_l3 (_rec : Rec) (_k : Nat) (v6 : Value) (n122 : Int) (ws3 : List Value) (h18 : H) : Option (Ex × List Value × H) :=
  asI .i64 (gv ws3 1) fun n123 =>
  ifB (lt n123 n122) (
    asK (gv ws3 1) fun n124 =>
    six v6 n124 1 fun b14 b15 =>
    ld Tryd.prog h18 3 b14 b15 fun v35 =>
    asI .i64 v35 fun n125 =>
    nn n125 (
      asI .i64 (gv ws3 0) fun n126 =>
      asI .i64 (gv ws3 1) fun n127 =>
      out .normal [(.int .i64 (or .i64 n126 (shl .i64 1 n125))), (.int .i64 (add .i64 n127 1))] h18)) (
    out (.exit 4) [gv ws3 0, gv ws3 1] h18)

noncomputable def f54_l4 (rec : Rec) (_k : Nat) (v3 : Value) (ws0 : List Value) (v6 : Value) (n129 : Int) (ws5 : List Value) (h20 : H) : Option (Ex × List Value × H) :=
  asI .i64 (gv ws5 3) fun n130 =>
  ifB (lt n130 n129) (
    asK (gv ws5 3) fun n131 =>
    six v6 n131 1 fun b16 b17 =>
    ld Tryd.prog h20 3 b16 b17 fun v36 =>
    asI .i64 v36 fun n132 =>
    calls rec h20 79 [v3, (.int .i64 n132)] fun v37 h21 =>
    asB v37 fun q27 =>
    ifB (not q27) (
      out .ret [(.bool false), (.int .i64 0), gv ws5 2, gv ws5 3] h21) (
      asI .i64 (gv ws5 3) fun n133 =>
      ifB (lt 0 n133) (
        asI .i64 (gv ws5 3) fun n134 =>
        six v6 (sub .i64 n134 1) 1 fun b18 b19 =>
        ld Tryd.prog h21 3 b18 b19 fun v38 =>
        asI .i64 v38 fun n135 =>
        calls rec h21 80 [gv ws5 2, (.int .i64 n135), (.int .i64 n132)] fun v39 h22 =>
        asB v39 fun q28 =>
        ifB (not q28) (
          out .ret [(.bool false), (.int .i64 0), gv ws5 2, gv ws5 3] h22) (
          asI .i64 (gv ws5 3) fun n136 =>
          ifB (lt 0 n136) (
            asI .i64 (gv ws5 3) fun n137 =>
            six v6 (sub .i64 n137 1) 1 fun b20 b21 =>
            ld Tryd.prog h22 3 b20 b21 fun v40 =>
            asI .i64 v40 fun n138 =>
            bld Tryd.prog 32 [(0, (.int .i64 n138)), (1, (.int .i64 n132))] fun v41 =>
            calls rec h22 87 [gv ws5 2, v41] fun v42 h23 =>
            asI .i64 (gv ws5 3) fun n139 =>
            ifB (eq n139 0) (
              sli Tryd.prog h23 102 v6 none (some (gv ws5 3)) none fun v43 =>
              calls rec h23 97 [v43, (.int .i64 n132)] fun v44 h24 =>
              asB v44 fun q29 =>
              ifB q29 (
                asI .i64 (gv ws0 4) fun n140 =>
                ifB (lt 0 n140) (
                  out .ret [(.bool false), (.int .i64 0), v42, gv ws5 3] h24) (
                  len v6 fun n141 =>
                  asI .i64 (gv ws5 3) fun n142 =>
                  ifB (lt n142 (sub .i64 n141 1)) (
                    out .ret [(.bool false), (.int .i64 0), v42, gv ws5 3] h24) (
                    asI .i64 (gv ws0 4) fun n143 =>
                    ifB (lt 0 n143) (
                      asI .i64 (gv ws0 3) fun n144 =>
                      nn n132 (
                        eqv Tryd.prog 4 (.bool (eq (and .i64 (shr .i64 n144 n132) 1) 1)) (.bool true) fun q30 =>
                        ifB (not q30) (
                          out .ret [(.bool false), (.int .i64 0), v42, gv ws5 3] h24) (
                          asI .i64 (gv ws5 3) fun n145 =>
                          out .normal [gv ws5 0, gv ws5 1, v42, (.int .i64 (add .i64 n145 1))] h24))) (
                      asI .i64 (gv ws5 3) fun n146 =>
                      out .normal [gv ws5 0, gv ws5 1, v42, (.int .i64 (add .i64 n146 1))] h24)))) (
                asI .i64 (gv ws0 4) fun n147 =>
                ifB (lt 0 n147) (
                  asI .i64 (gv ws0 3) fun n148 =>
                  nn n132 (
                    eqv Tryd.prog 4 (.bool (eq (and .i64 (shr .i64 n148 n132) 1) 1)) (.bool true) fun q31 =>
                    ifB (not q31) (
                      out .ret [(.bool false), (.int .i64 0), v42, gv ws5 3] h24) (
                      asI .i64 (gv ws5 3) fun n149 =>
                      out .normal [gv ws5 0, gv ws5 1, v42, (.int .i64 (add .i64 n149 1))] h24))) (
                  asI .i64 (gv ws5 3) fun n150 =>
                  out .normal [gv ws5 0, gv ws5 1, v42, (.int .i64 (add .i64 n150 1))] h24))) (
              len v6 fun n151 =>
              asI .i64 (gv ws5 3) fun n152 =>
              sli Tryd.prog h23 102 v6 none (some (gv ws5 3)) none fun v45 =>
              calls rec h23 97 [v45, (.int .i64 n132)] fun v46 h25 =>
              asB v46 fun q32 =>
              ifB q32 (
                asI .i64 (gv ws0 4) fun n153 =>
                ifB (lt 0 n153) (
                  out .ret [(.bool false), (.int .i64 0), v42, gv ws5 3] h25) (
                  len v6 fun n154 =>
                  asI .i64 (gv ws5 3) fun n155 =>
                  ifB (lt n155 (sub .i64 n154 1)) (
                    out .ret [(.bool false), (.int .i64 0), v42, gv ws5 3] h25) (
                    asI .i64 (gv ws0 4) fun n156 =>
                    ifB (lt 0 n156) (
                      asI .i64 (gv ws0 3) fun n157 =>
                      nn n132 (
                        eqv Tryd.prog 4 (.bool (eq (and .i64 (shr .i64 n157 n132) 1) 1)) (.bool (eq n152 (sub .i64 n151 1))) fun q33 =>
                        ifB (not q33) (
                          out .ret [(.bool false), (.int .i64 0), v42, gv ws5 3] h25) (
                          asI .i64 (gv ws5 3) fun n158 =>
                          out .normal [gv ws5 0, gv ws5 1, v42, (.int .i64 (add .i64 n158 1))] h25))) (
                      asI .i64 (gv ws5 3) fun n159 =>
                      out .normal [gv ws5 0, gv ws5 1, v42, (.int .i64 (add .i64 n159 1))] h25)))) (
                asI .i64 (gv ws0 4) fun n160 =>
                ifB (lt 0 n160) (
                  asI .i64 (gv ws0 3) fun n161 =>
                  nn n132 (
                    eqv Tryd.prog 4 (.bool (eq (and .i64 (shr .i64 n161 n132) 1) 1)) (.bool (eq n152 (sub .i64 n151 1))) fun q34 =>
                    ifB (not q34) (
                      out .ret [(.bool false), (.int .i64 0), v42, gv ws5 3] h25) (
                      asI .i64 (gv ws5 3) fun n162 =>
                      out .normal [gv ws5 0, gv ws5 1, v42, (.int .i64 (add .i64 n162 1))] h25))) (
                  asI .i64 (gv ws5 3) fun n163 =>
                  out .normal [gv ws5 0, gv ws5 1, v42, (.int .i64 (add .i64 n163 1))] h25)))) (
            asI .i64 (gv ws5 3) fun n164 =>
            ifB (eq n164 0) (
              sli Tryd.prog h22 102 v6 none (some (gv ws5 3)) none fun v47 =>
              calls rec h22 97 [v47, (.int .i64 n132)] fun v48 h26 =>
              asB v48 fun q35 =>
              ifB q35 (
                asI .i64 (gv ws0 4) fun n165 =>
                ifB (lt 0 n165) (
                  out .ret [(.bool false), (.int .i64 0), gv ws5 2, gv ws5 3] h26) (
                  len v6 fun n166 =>
                  asI .i64 (gv ws5 3) fun n167 =>
                  ifB (lt n167 (sub .i64 n166 1)) (
                    out .ret [(.bool false), (.int .i64 0), gv ws5 2, gv ws5 3] h26) (
                    asI .i64 (gv ws0 4) fun n168 =>
                    ifB (lt 0 n168) (
                      asI .i64 (gv ws0 3) fun n169 =>
                      nn n132 (
                        eqv Tryd.prog 4 (.bool (eq (and .i64 (shr .i64 n169 n132) 1) 1)) (.bool true) fun q36 =>
                        ifB (not q36) (
                          out .ret [(.bool false), (.int .i64 0), gv ws5 2, gv ws5 3] h26) (
                          asI .i64 (gv ws5 3) fun n170 =>
                          out .normal [gv ws5 0, gv ws5 1, gv ws5 2, (.int .i64 (add .i64 n170 1))] h26))) (
                      asI .i64 (gv ws5 3) fun n171 =>
                      out .normal [gv ws5 0, gv ws5 1, gv ws5 2, (.int .i64 (add .i64 n171 1))] h26)))) (
                asI .i64 (gv ws0 4) fun n172 =>
                ifB (lt 0 n172) (
                  asI .i64 (gv ws0 3) fun n173 =>
                  nn n132 (
                    eqv Tryd.prog 4 (.bool (eq (and .i64 (shr .i64 n173 n132) 1) 1)) (.bool true) fun q37 =>
                    ifB (not q37) (
                      out .ret [(.bool false), (.int .i64 0), gv ws5 2, gv ws5 3] h26) (
                      asI .i64 (gv ws5 3) fun n174 =>
                      out .normal [gv ws5 0, gv ws5 1, gv ws5 2, (.int .i64 (add .i64 n174 1))] h26))) (
                  asI .i64 (gv ws5 3) fun n175 =>
                  out .normal [gv ws5 0, gv ws5 1, gv ws5 2, (.int .i64 (add .i64 n175 1))] h26))) (
              len v6 fun n176 =>
              asI .i64 (gv ws5 3) fun n177 =>
              sli Tryd.prog h22 102 v6 none (some (gv ws5 3)) none fun v49 =>
              calls rec h22 97 [v49, (.int .i64 n132)] fun v50 h27 =>
              asB v50 fun q38 =>
              ifB q38 (
                asI .i64 (gv ws0 4) fun n178 =>
                ifB (lt 0 n178) (
                  out .ret [(.bool false), (.int .i64 0), gv ws5 2, gv ws5 3] h27) (
                  len v6 fun n179 =>
                  asI .i64 (gv ws5 3) fun n180 =>
                  ifB (lt n180 (sub .i64 n179 1)) (
                    out .ret [(.bool false), (.int .i64 0), gv ws5 2, gv ws5 3] h27) (
                    asI .i64 (gv ws0 4) fun n181 =>
                    ifB (lt 0 n181) (
                      asI .i64 (gv ws0 3) fun n182 =>
                      nn n132 (
                        eqv Tryd.prog 4 (.bool (eq (and .i64 (shr .i64 n182 n132) 1) 1)) (.bool (eq n177 (sub .i64 n176 1))) fun q39 =>
                        ifB (not q39) (
                          out .ret [(.bool false), (.int .i64 0), gv ws5 2, gv ws5 3] h27) (
                          asI .i64 (gv ws5 3) fun n183 =>
                          out .normal [gv ws5 0, gv ws5 1, gv ws5 2, (.int .i64 (add .i64 n183 1))] h27))) (
                      asI .i64 (gv ws5 3) fun n184 =>
                      out .normal [gv ws5 0, gv ws5 1, gv ws5 2, (.int .i64 (add .i64 n184 1))] h27)))) (
                asI .i64 (gv ws0 4) fun n185 =>
                ifB (lt 0 n185) (
                  asI .i64 (gv ws0 3) fun n186 =>
                  nn n132 (
                    eqv Tryd.prog 4 (.bool (eq (and .i64 (shr .i64 n186 n132) 1) 1)) (.bool (eq n177 (sub .i64 n176 1))) fun q40 =>
                    ifB (not q40) (
                      out .ret [(.bool false), (.int .i64 0), gv ws5 2, gv ws5 3] h27) (
                      asI .i64 (gv ws5 3) fun n187 =>
                      out .normal [gv ws5 0, gv ws5 1, gv ws5 2, (.int .i64 (add .i64 n187 1))] h27))) (
                  asI .i64 (gv ws5 3) fun n188 =>
                  out .normal [gv ws5 0, gv ws5 1, gv ws5 2, (.int .i64 (add .i64 n188 1))] h27)))))) (
        asI .i64 (gv ws5 3) fun n189 =>
        ifB (lt 0 n189) (
          asI .i64 (gv ws5 3) fun n190 =>
          six v6 (sub .i64 n190 1) 1 fun b22 b23 =>
          ld Tryd.prog h21 3 b22 b23 fun v51 =>
          asI .i64 v51 fun n191 =>
          bld Tryd.prog 32 [(0, (.int .i64 n191)), (1, (.int .i64 n132))] fun v52 =>
          calls rec h21 87 [gv ws5 2, v52] fun v53 h28 =>
          asI .i64 (gv ws5 3) fun n192 =>
          ifB (eq n192 0) (
            sli Tryd.prog h28 102 v6 none (some (gv ws5 3)) none fun v54 =>
            calls rec h28 97 [v54, (.int .i64 n132)] fun v55 h29 =>
            asB v55 fun q41 =>
            ifB q41 (
              asI .i64 (gv ws0 4) fun n193 =>
              ifB (lt 0 n193) (
                out .ret [(.bool false), (.int .i64 0), v53, gv ws5 3] h29) (
                len v6 fun n194 =>
                asI .i64 (gv ws5 3) fun n195 =>
                ifB (lt n195 (sub .i64 n194 1)) (
                  out .ret [(.bool false), (.int .i64 0), v53, gv ws5 3] h29) (
                  asI .i64 (gv ws0 4) fun n196 =>
                  ifB (lt 0 n196) (
                    asI .i64 (gv ws0 3) fun n197 =>
                    nn n132 (
                      eqv Tryd.prog 4 (.bool (eq (and .i64 (shr .i64 n197 n132) 1) 1)) (.bool true) fun q42 =>
                      ifB (not q42) (
                        out .ret [(.bool false), (.int .i64 0), v53, gv ws5 3] h29) (
                        asI .i64 (gv ws5 3) fun n198 =>
                        out .normal [gv ws5 0, gv ws5 1, v53, (.int .i64 (add .i64 n198 1))] h29))) (
                    asI .i64 (gv ws5 3) fun n199 =>
                    out .normal [gv ws5 0, gv ws5 1, v53, (.int .i64 (add .i64 n199 1))] h29)))) (
              asI .i64 (gv ws0 4) fun n200 =>
              ifB (lt 0 n200) (
                asI .i64 (gv ws0 3) fun n201 =>
                nn n132 (
                  eqv Tryd.prog 4 (.bool (eq (and .i64 (shr .i64 n201 n132) 1) 1)) (.bool true) fun q43 =>
                  ifB (not q43) (
                    out .ret [(.bool false), (.int .i64 0), v53, gv ws5 3] h29) (
                    asI .i64 (gv ws5 3) fun n202 =>
                    out .normal [gv ws5 0, gv ws5 1, v53, (.int .i64 (add .i64 n202 1))] h29))) (
                asI .i64 (gv ws5 3) fun n203 =>
                out .normal [gv ws5 0, gv ws5 1, v53, (.int .i64 (add .i64 n203 1))] h29))) (
            len v6 fun n204 =>
            asI .i64 (gv ws5 3) fun n205 =>
            sli Tryd.prog h28 102 v6 none (some (gv ws5 3)) none fun v56 =>
            calls rec h28 97 [v56, (.int .i64 n132)] fun v57 h30 =>
            asB v57 fun q44 =>
            ifB q44 (
              asI .i64 (gv ws0 4) fun n206 =>
              ifB (lt 0 n206) (
                out .ret [(.bool false), (.int .i64 0), v53, gv ws5 3] h30) (
                len v6 fun n207 =>
                asI .i64 (gv ws5 3) fun n208 =>
                ifB (lt n208 (sub .i64 n207 1)) (
                  out .ret [(.bool false), (.int .i64 0), v53, gv ws5 3] h30) (
                  asI .i64 (gv ws0 4) fun n209 =>
                  ifB (lt 0 n209) (
                    asI .i64 (gv ws0 3) fun n210 =>
                    nn n132 (
                      eqv Tryd.prog 4 (.bool (eq (and .i64 (shr .i64 n210 n132) 1) 1)) (.bool (eq n205 (sub .i64 n204 1))) fun q45 =>
                      ifB (not q45) (
                        out .ret [(.bool false), (.int .i64 0), v53, gv ws5 3] h30) (
                        asI .i64 (gv ws5 3) fun n211 =>
                        out .normal [gv ws5 0, gv ws5 1, v53, (.int .i64 (add .i64 n211 1))] h30))) (
                    asI .i64 (gv ws5 3) fun n212 =>
                    out .normal [gv ws5 0, gv ws5 1, v53, (.int .i64 (add .i64 n212 1))] h30)))) (
              asI .i64 (gv ws0 4) fun n213 =>
              ifB (lt 0 n213) (
                asI .i64 (gv ws0 3) fun n214 =>
                nn n132 (
                  eqv Tryd.prog 4 (.bool (eq (and .i64 (shr .i64 n214 n132) 1) 1)) (.bool (eq n205 (sub .i64 n204 1))) fun q46 =>
                  ifB (not q46) (
                    out .ret [(.bool false), (.int .i64 0), v53, gv ws5 3] h30) (
                    asI .i64 (gv ws5 3) fun n215 =>
                    out .normal [gv ws5 0, gv ws5 1, v53, (.int .i64 (add .i64 n215 1))] h30))) (
                asI .i64 (gv ws5 3) fun n216 =>
                out .normal [gv ws5 0, gv ws5 1, v53, (.int .i64 (add .i64 n216 1))] h30)))) (
          asI .i64 (gv ws5 3) fun n217 =>
          ifB (eq n217 0) (
            sli Tryd.prog h21 102 v6 none (some (gv ws5 3)) none fun v58 =>
            calls rec h21 97 [v58, (.int .i64 n132)] fun v59 h31 =>
            asB v59 fun q47 =>
            ifB q47 (
              asI .i64 (gv ws0 4) fun n218 =>
              ifB (lt 0 n218) (
                out .ret [(.bool false), (.int .i64 0), gv ws5 2, gv ws5 3] h31) (
                len v6 fun n219 =>
                asI .i64 (gv ws5 3) fun n220 =>
                ifB (lt n220 (sub .i64 n219 1)) (
                  out .ret [(.bool false), (.int .i64 0), gv ws5 2, gv ws5 3] h31) (
                  asI .i64 (gv ws0 4) fun n221 =>
                  ifB (lt 0 n221) (
                    asI .i64 (gv ws0 3) fun n222 =>
                    nn n132 (
                      eqv Tryd.prog 4 (.bool (eq (and .i64 (shr .i64 n222 n132) 1) 1)) (.bool true) fun q48 =>
                      ifB (not q48) (
                        out .ret [(.bool false), (.int .i64 0), gv ws5 2, gv ws5 3] h31) (
                        asI .i64 (gv ws5 3) fun n223 =>
                        out .normal [gv ws5 0, gv ws5 1, gv ws5 2, (.int .i64 (add .i64 n223 1))] h31))) (
                    asI .i64 (gv ws5 3) fun n224 =>
                    out .normal [gv ws5 0, gv ws5 1, gv ws5 2, (.int .i64 (add .i64 n224 1))] h31)))) (
              asI .i64 (gv ws0 4) fun n225 =>
              ifB (lt 0 n225) (
                asI .i64 (gv ws0 3) fun n226 =>
                nn n132 (
                  eqv Tryd.prog 4 (.bool (eq (and .i64 (shr .i64 n226 n132) 1) 1)) (.bool true) fun q49 =>
                  ifB (not q49) (
                    out .ret [(.bool false), (.int .i64 0), gv ws5 2, gv ws5 3] h31) (
                    asI .i64 (gv ws5 3) fun n227 =>
                    out .normal [gv ws5 0, gv ws5 1, gv ws5 2, (.int .i64 (add .i64 n227 1))] h31))) (
                asI .i64 (gv ws5 3) fun n228 =>
                out .normal [gv ws5 0, gv ws5 1, gv ws5 2, (.int .i64 (add .i64 n228 1))] h31))) (
            len v6 fun n229 =>
            asI .i64 (gv ws5 3) fun n230 =>
            sli Tryd.prog h21 102 v6 none (some (gv ws5 3)) none fun v60 =>
            calls rec h21 97 [v60, (.int .i64 n132)] fun v61 h32 =>
            asB v61 fun q50 =>
            ifB q50 (
              asI .i64 (gv ws0 4) fun n231 =>
              ifB (lt 0 n231) (
                out .ret [(.bool false), (.int .i64 0), gv ws5 2, gv ws5 3] h32) (
                len v6 fun n232 =>
                asI .i64 (gv ws5 3) fun n233 =>
                ifB (lt n233 (sub .i64 n232 1)) (
                  out .ret [(.bool false), (.int .i64 0), gv ws5 2, gv ws5 3] h32) (
                  asI .i64 (gv ws0 4) fun n234 =>
                  ifB (lt 0 n234) (
                    asI .i64 (gv ws0 3) fun n235 =>
                    nn n132 (
                      eqv Tryd.prog 4 (.bool (eq (and .i64 (shr .i64 n235 n132) 1) 1)) (.bool (eq n230 (sub .i64 n229 1))) fun q51 =>
                      ifB (not q51) (
                        out .ret [(.bool false), (.int .i64 0), gv ws5 2, gv ws5 3] h32) (
                        asI .i64 (gv ws5 3) fun n236 =>
                        out .normal [gv ws5 0, gv ws5 1, gv ws5 2, (.int .i64 (add .i64 n236 1))] h32))) (
                    asI .i64 (gv ws5 3) fun n237 =>
                    out .normal [gv ws5 0, gv ws5 1, gv ws5 2, (.int .i64 (add .i64 n237 1))] h32)))) (
              asI .i64 (gv ws0 4) fun n238 =>
              ifB (lt 0 n238) (
                asI .i64 (gv ws0 3) fun n239 =>
                nn n132 (
                  eqv Tryd.prog 4 (.bool (eq (and .i64 (shr .i64 n239 n132) 1) 1)) (.bool (eq n230 (sub .i64 n229 1))) fun q52 =>
                  ifB (not q52) (
                    out .ret [(.bool false), (.int .i64 0), gv ws5 2, gv ws5 3] h32) (
                    asI .i64 (gv ws5 3) fun n240 =>
                    out .normal [gv ws5 0, gv ws5 1, gv ws5 2, (.int .i64 (add .i64 n240 1))] h32))) (
                asI .i64 (gv ws5 3) fun n241 =>
                out .normal [gv ws5 0, gv ws5 1, gv ws5 2, (.int .i64 (add .i64 n241 1))] h32))))))) (
    out (.exit 2) [gv ws5 0, gv ws5 1, gv ws5 2, gv ws5 3] h20)

noncomputable def f54_l5 (_rec : Rec) (_k : Nat) (v6 : Value) (n242 : Int) (ws7 : List Value) (h34 : H) : Option (Ex × List Value × H) :=
  asI .i64 (gv ws7 1) fun n243 =>
  ifB (lt n243 n242) (
    asK (gv ws7 1) fun n244 =>
    six v6 n244 1 fun b24 b25 =>
    ld Tryd.prog h34 3 b24 b25 fun v62 =>
    asI .i64 v62 fun n245 =>
    nn n245 (
      asI .i64 (gv ws7 0) fun n246 =>
      asI .i64 (gv ws7 1) fun n247 =>
      out .normal [(.int .i64 (or .i64 n246 (shl .i64 1 n245))), (.int .i64 (add .i64 n247 1))] h34)) (
    out (.exit 4) [gv ws7 0, gv ws7 1] h34)

noncomputable def f54_l1 (rec : Rec) (k : Nat) (v1 : Value) (v3 : Value) (n0 : Int) (ws0 : List Value) (h3 : H) : Option (Ex × List Value × H) :=
  asI .i64 (gv ws0 4) fun n1 =>
  ifB (lt n1 n0) (
    asK (gv ws0 4) fun n2 =>
    six v1 n2 1 fun b0 b1 =>
    ld Tryd.prog h3 102 b0 b1 fun v6 =>
    len v6 fun n3 =>
    ifB (lt n3 2) (
      out .ret [(.bool false), (.int .i64 0), gv ws0 2, gv ws0 3, gv ws0 4] h3) (
      asI .i64 (gv ws0 4) fun n4 =>
      ifB (eq n4 0) (
        len v6 fun n5 =>
        ifB (lt n5 4) (
          out .ret [(.bool false), (.int .i64 0), gv ws0 2, gv ws0 3, gv ws0 4] h3) (
          six v6 0 1 fun b2 b3 =>
          ld Tryd.prog h3 3 b2 b3 fun v7 =>
          asI .i64 v7 fun n6 =>
          len v6 fun n7 =>
          six v6 (sub .i64 n7 1) 1 fun b4 b5 =>
          ld Tryd.prog h3 3 b4 b5 fun v8 =>
          asI .i64 v8 fun n8 =>
          ifB (not (eq n6 n8)) (
            out .ret [(.bool false), (.int .i64 0), gv ws0 2, gv ws0 3, gv ws0 4] h3) (
            len v6 fun n9 =>
            lp k (f54_l2 rec k v3 ws0 v6 n9) [gv ws0 0, gv ws0 1, gv ws0 2, (.int .i64 0)] h3 fun e0 ws2 h17 =>
            onE e0 2 (
              len v6 fun n122 =>
              lp k (f54_l3 rec k v6 n122) [gv ws0 3, (.int .i64 0)] h17 fun e1 ws4 h19 =>
              onE e1 4 (
                asI .i64 (gv ws0 4) fun n128 =>
                out .normal [gv ws2 0, gv ws2 1, gv ws2 2, gv ws4 0, (.int .i64 (add .i64 n128 1))] h19) (
                none)) (
              onR e0 (
                out .ret [gv ws2 0, gv ws2 1, gv ws2 2, gv ws0 3, gv ws0 4] h17))))) (
        len v6 fun n129 =>
        lp k (f54_l4 rec k v3 ws0 v6 n129) [gv ws0 0, gv ws0 1, gv ws0 2, (.int .i64 0)] h3 fun e2 ws6 h33 =>
        onE e2 2 (
          len v6 fun n242 =>
          lp k (f54_l5 rec k v6 n242) [gv ws0 3, (.int .i64 0)] h33 fun e3 ws8 h35 =>
          onE e3 4 (
            asI .i64 (gv ws0 4) fun n248 =>
            out .normal [gv ws6 0, gv ws6 1, gv ws6 2, gv ws8 0, (.int .i64 (add .i64 n248 1))] h35) (
            none)) (
          onR e2 (
            out .ret [gv ws6 0, gv ws6 1, gv ws6 2, gv ws0 3, gv ws0 4] h33))))) (
    out (.exit 0) [gv ws0 0, gv ws0 1, gv ws0 2, gv ws0 3, gv ws0 4] h3)

noncomputable def f54 (rec : Rec) (k : Nat) (v0 : Value) (v1 : Value) (h0 : H) : Option (Value × H) :=
  calls rec h0 63 [v0] fun v2 h1 =>
  ext v2 0 fun v3 =>
  ext v2 1 fun v4 =>
  asB v4 fun q0 =>
  ifB (not q0) (
    some ((.tuple #[(.bool false), (.int .i64 2)]), h1)) (
    calls rec h1 85 [v3] fun v5 h2 =>
    len v1 fun n0 =>
    lp k (f54_l1 rec k v1 v3 n0) [(.bool false), (.int .i64 0), v5, (.int .i64 0), (.int .i64 0)] h2 fun e4 ws9 h36 =>
    onE e4 0 (
      calls rec h36 65 [v3] fun v63 h37 =>
      asI .i64 v63 fun n249 =>
      asI .i64 (gv ws9 3) fun n250 =>
      ifB (eq n250 n249) (
        calls rec h37 77 [gv ws9 2] fun v64 h38 =>
        len v64 fun n251 =>
        some ((.tuple #[(.bool (eq n251 0)), (.int .i64 0)]), h38)) (
        some ((.tuple #[(.bool false), (.int .i64 0)]), h37))) (
      onR e4 (
        some ((.tuple #[gv ws9 0, gv ws9 1]), h36))))

theorem e54 (rec : Rec) (k : Nat) (v0 : Value) (v1 : Value) (h : H) : bodyT Tryd.prog E0 SC (XC Tryd.prog rec k) 54 (Value × H) [.opq v0, .opq v1] h (fun v h => some (v, h)) = f54 rec k v0 v1 h := by kernel_rfl

theorem t54 {k : Nat} {v0 : Value} {v1 : Value} {h h1 : H} {v : Value} (hh : f54 rn k v0 v1 h = some (v, h1)) : rn 54 #[v0, v1] h = some (v, trunc Tryd.prog h h1 v) :=
  run_of_bodyT (args := [.opq v0, .opq v1]) rfl ((e54 _ _ _ _ _).trans hh)

theorem p54 {k : Nat} {v0 : Value} {v1 : Value} {h h1 : H} {v : Value} (hh : f54 rn k v0 v1 h = some (v, h1)) (hp : plainO v = true) (x : Ext h h1) : rn 54 #[v0, v1] h = some (v, h) := by rw [t54 hh, trunc_pure hp x]

end Go.AM

end

section

/- The program's check of ears. -/
namespace Go.AM
open Go.Proofs
variable {R : Type}
attribute [local simp] nx_eq nx_new nx_set blk_new blk_set asI_int asK_int asB_bool asP_ptr al_eq bx_eq len_slice onE_exit onE_ret onR_ret Value.cells cell_new cell_set rd_new rd_set off eq lt le ifB gv out ext20 ext21
theorem under102 : Tryd.prog.underlying 102 = some (.slice 3) := by kernel_rfl

theorem cellsI_take (x : List Int) (n : Nat) : (cellsI x).take n = cellsI (x.take n) := List.map_take.symm

theorem l4_eq54 : f54_l4 = f54_l2 := by kernel_rfl

theorem l5_eq54 : f54_l5 = f54_l3 := by kernel_rfl

theorem s111 {v : Value} {l : List Int} {z : Int} {h : H} (hs : SlR h 3 1 v (cellsI l)) : ∃ r, rn 111 #[v, iv z] h = some (iv r, h) ∧ (0 ≤ r ↔ z ∈ l) := by
  have hl62 := hs.lt62
  rw [List.length_map] at hl62
  have hn : ∀ {T : Type} (K : Int → Option T), len v K = K (l.length : Int) := fun K => by rw [hs.len, List.length_map]
  obtain ⟨e, ws', h', hl, rfl, hor⟩ := lp_range (F := f111_l1 rn (l.length + 1) v z l.length) (k := l.length + 1) (n := l.length)
    (fun i ws g => g = h ∧ ws = [iv 0, iv i] ∧ z ∉ l.take i)
    (fun e ws g => g = h ∧ ((e = .exit 0 ∧ z ∉ l) ∨ (e = .ret ∧ z ∈ l ∧ ∃ i : Nat, AM.gv ws 0 = iv i)))
    (by
      rintro i ws g hi ⟨rfl, rfl, hno⟩
      have hx := List.getElem?_eq_getElem hi
      generalize hxd : l[i] = x at hx
      have hadd : add .i64 (i : Int) 1 = ((i + 1 : Nat) : Int) := by rw [add64 (by omega) (by omega)]; omega
      by_cases hzx : z = x
      · refine ⟨.ret, [iv i, iv i], g, ?_, .inr ⟨by simp, rfl, .inr ⟨rfl, ?_, i, rfl⟩⟩⟩
        · unfold f111_l1
          rw [show AM.gv [iv 0, iv i] 1 = iv i from rfl, asI_int, lt_t (by omega), ifB_true, asK_int, getI hs hx, asI_int, hzx, show AM.eq x x = true by simp [AM.eq], ifB_true]
          rfl
        · rw [hzx]; exact List.mem_of_getElem? hx
      · refine ⟨.normal, [iv 0, iv ((i + 1 : Nat) : Int)], g, ?_, .inl ⟨rfl, rfl, rfl, ?_⟩⟩
        · unfold f111_l1
          rw [show AM.gv [iv 0, iv i] 1 = iv i from rfl, asI_int, lt_t (by omega), ifB_true, asK_int, getI hs hx, asI_int, show AM.eq z x = false by simp [AM.eq, hzx], ifB_false, asI_int, hadd]
          rfl
        · rw [List.take_add_one, hx, List.mem_append]
          simp [hno, hzx])
    (by
      rintro ws g ⟨rfl, rfl, hno⟩
      rw [List.take_length] at hno
      exact ⟨.exit 0, [iv 0, iv l.length], g, by simp [f111_l1], by simp, rfl, .inl ⟨rfl, hno⟩⟩)
    (ws := [iv 0, iv 0]) (h := h) (by omega) ⟨rfl, rfl, by simp⟩
  rcases hor with ⟨rfl, hno⟩ | ⟨rfl, hin, i, hw⟩
  · refine ⟨-1, p111 (k := l.length + 1) (h1 := h') ?_ rfl (.refl _), by simp [hno]⟩
    unfold f111
    rw [hn]
    exact (lp_eq hl).trans rfl
  · refine ⟨i, p111 (k := l.length + 1) (h1 := h') ?_ rfl (.refl _), by simp [hin]⟩
    unfold f111
    rw [hn]
    refine (lp_eq hl).trans ?_
    rw [onE_ret, onR_ret, hw]

theorem s97 {v : Value} {l : List Int} {z : Int} {h : H} (hs : SlR h 3 1 v (cellsI l)) : rn 97 #[v, iv z] h = some (.bool (decide (z ∈ l)), h) := by
  obtain ⟨r, e, hr⟩ := s111 (z := z) hs
  refine p97 (k := 0) (h1 := h) ?_ rfl (.refl _)
  unfold f97
  rw [calls_eq (xs := [v, iv z]) e, asI_int]
  have : AM.le 0 r = decide (z ∈ l) := by
    show decide (0 ≤ r) = _
    exact decide_eq_decide.2 hr
  rw [this]

/-! ### One ear -/
def CkAt (k there len : Nat) (m : List Nat) (j : Nat) : Prop := (0 < k ∨ j + 1 < len → nb m j ∉ m.take j) ∧ (0 < k → (there.testBit (nb m j) = true ↔ j = 0 ∨ j + 1 = len))

structure CkAll (k n : Nat) (left : List Nat) (there : Nat) (m : List Nat) : Prop where
  lt : ∀ x ∈ m, x < n
  tr : Tra left m
  at_ : ∀ j, j < m.length → CkAt k there m.length m j

theorem earK_ck {k n there : Nat} {left m : List Nat} : EarK k n left there m ↔ (2 ≤ m.length ∧ (k = 0 → 4 ≤ m.length ∧ nb m 0 = nb m (m.length - 1))) ∧ CkAll k n left there m := by
  constructor
  · intro e
    exact ⟨⟨e.len, e.first⟩, e.lt, e.tr, fun j hj => ⟨fun h => e.fresh j hj h, fun h => e.bits h j hj⟩⟩
  · rintro ⟨⟨h1, h2⟩, h3⟩
    exact ⟨h1, h2, h3.lt, h3.tr, fun j hj h => (h3.at_ j hj).1 h, fun h j hj => (h3.at_ j hj).2 h⟩

theorem ckAt_pre {k there len j : Nat} {m q : List Nat} (hj : j < m.length) : CkAt k there len (m ++ q) j ↔ CkAt k there len m j := by
  unfold CkAt
  rw [nb_app hj, List.take_append_of_le_length (by omega)]

set_option maxHeartbeats 4000000 in
theorem s54_l2 {K k there : Nat} {v3 v6 lv : Value} {ws0 : List Value} {G left : List Nat} {x : List Int} {h0 h : H} (hG : GrN G) (hs3 : SlR h0 3 1 v3 (cellsN G)) (hs6 : SlR h0 3 1 v6 (cellsI x)) (xh : Ext h0 h) (hgl : GrN left) (hll : left.length = G.length) (hl : SlR h 3 1 lv (cellsN left))
    (gv3 : AM.gv ws0 3 = iv there) (gv4 : AM.gv ws0 4 = iv k) (hth : there < 1024) (hk : k < 4611686018427387904) (hx1 : 1 ≤ x.length) (hK : x.length < K) :
    (∃ m : List Nat, x = m.map Int.ofNat ∧ CkAll k G.length left there m ∧ ∃ lv' z h', lpGo (f54_l2 rn K v3 ws0 v6 x.length) K [.bool false, iv 0, lv, iv 0] h = some (.exit 2, [.bool false, iv 0, lv', z], h') ∧ Ext h0 h' ∧ SlR h' 3 1 lv' (cellsN (delP left m))) ∨
    ((∀ m : List Nat, x = m.map Int.ofNat → ¬ CkAll k G.length left there m) ∧ ∃ a b h', lpGo (f54_l2 rn K v3 ws0 v6 x.length) K [.bool false, iv 0, lv, iv 0] h = some (.ret, [.bool false, iv 0, a, b], h') ∧ Ext h0 h') := by
  have hlen := hG.len
  have hx62 := hs6.lt62
  rw [List.length_map] at hx62
  obtain ⟨e, ws', h', hlp, xg, hor⟩ := lp_range (F := f54_l2 rn K v3 ws0 v6 x.length) (k := K) (n := x.length)
    (fun i ws g => ∃ (m : List Nat) (lv' : Value), ws = [.bool false, iv 0, lv', iv i] ∧ Ext h0 g ∧ x.take i = m.map Int.ofNat ∧ (∀ y ∈ m, y < G.length) ∧ Tra left m ∧ (∀ j, j < m.length → CkAt k there x.length m j) ∧ SlR g 3 1 lv' (cellsN (delP left m)))
    (fun e ws g => Ext h0 g ∧ ((e = .exit 2 ∧ ∃ (m : List Nat) (lv' z : Value), x = m.map Int.ofNat ∧ CkAll k G.length left there m ∧ ws = [.bool false, iv 0, lv', z] ∧ SlR g 3 1 lv' (cellsN (delP left m))) ∨ (e = .ret ∧ (∀ m : List Nat, x = m.map Int.ofNat → ¬ CkAll k G.length left there m) ∧ ∃ a b, ws = [.bool false, iv 0, a, b])))
    (by
      rintro i ws g hi ⟨m, lv', rfl, xg, hm, hmn, hT, hCk, hlv⟩
      have hx := List.getElem?_eq_getElem hi
      generalize hxd : x[i] = xi at hx
      have hml : m.length = i := by
        have := congrArg List.length hm
        rw [List.length_take, List.length_map] at this
        omega
      have hadd : add .i64 (i : Int) 1 = ((i + 1 : Nat) : Int) := by rw [add64 (by omega) (by omega)]; omega
      have hsg := hs6.ext xg
      have hs3g := hs3.ext xg
      have c79 := fun (Q : Value → H → Option (Ex × List Value × H)) => calls_eq (K := Q) (xs := [v3, iv xi]) (s79 (z := xi) hs3g)
      obtain ⟨w1, hw1⟩ : ∃ w1, w1 = [Value.bool false, iv 0, lv', iv i] := ⟨_, rfl⟩
      have g0 : AM.gv w1 0 = .bool false := by rw [hw1]; rfl
      have g1 : AM.gv w1 1 = iv 0 := by rw [hw1]; rfl
      have g2 : AM.gv w1 2 = lv' := by rw [hw1]; rfl
      have g3 : AM.gv w1 3 = iv i := by rw [hw1]; rfl
      rw [← hw1]
      -- whoever is a list that passes has this prefix
      have split : ∀ m' : List Nat, x = m'.map Int.ofNat → m'.take i = m ∧ m'[i]? = some (nb m' i) ∧ xi = (nb m' i : Nat) ∧ m'.length = x.length := fun m' hm' => by
        have h1 : m'.take i = m := map_inj (by rw [List.map_take, ← hm', hm])
        have h2 : m'.length = x.length := by rw [hm', List.length_map]
        have h3 : m'[i]? = some (nb m' i) := by unfold nb; rw [List.getD_eq_getElem?_getD, List.getElem?_eq_getElem (by omega)]; rfl
        refine ⟨h1, h3, ?_, h2⟩
        rw [hm', List.getElem?_map, h3] at hx
        exact (Option.some.inj hx).symm
      cases hnode : nodeB G xi with
      | false =>
        refine ⟨.ret, [.bool false, iv 0, lv', iv i], g, ?_, .inr ⟨by simp, xg, .inr ⟨rfl, fun m' hm' hc => ?_, _, _, rfl⟩⟩⟩
        · unfold f54_l2
          rw [g3, g2, asI_int, lt_t (by omega), ifB_true, asK_int, getI hsg hx, asI_int, c79, hnode, asB_bool, show (!false) = true from rfl, ifB_true]
          rfl
        · obtain ⟨_, h3, h4, h5⟩ := split m' hm'
          have := hc.lt _ (List.mem_of_getElem? h3)
          rw [h4] at hnode
          unfold nodeB at hnode
          rw [decide_eq_true (by omega), decide_eq_true (by omega)] at hnode
          cases hnode
      | true =>
        obtain ⟨a, rfl, han⟩ := nodeB_nat hnode
        have hnn : (0 : Int) ≤ (a : Int) := by omega
        have hbit : AM.eq (AM.and .i64 (shr .i64 (there : Int) (a : Int)) 1) 1 = there.testBit a := by
          rw [bit_nat (by omega) (by omega)]
          cases there.testBit a <;> rfl
        have htn : x.take (i + 1) = (m ++ [a]).map Int.ofNat := by rw [List.take_add_one, hx, hm, List.map_append]; rfl
        have hmn' : ∀ y ∈ m ++ [a], y < G.length := fun y hy => by
          rw [List.mem_append, List.mem_singleton] at hy
          rcases hy with hy | rfl
          · exact hmn y hy
          · exact han
        have hCk' : CkAt k there x.length (m ++ [a]) i → ∀ j, j < (m ++ [a]).length → CkAt k there x.length (m ++ [a]) j := fun hc j hj => by
          rw [List.length_append, List.length_singleton] at hj
          by_cases hji : j = i
          · rw [hji]; exact hc
          · exact (ckAt_pre (by omega)).2 (hCk j (by omega))
        have hat : CkAt k there x.length (m ++ [a]) i ↔ (0 < k ∨ i + 1 < x.length → a ∉ m) ∧ (0 < k → (there.testBit a = true ↔ i = 0 ∨ i + 1 = x.length)) := by
          unfold CkAt
          have e1 : nb (m ++ [a]) i = a := by rw [← hml]; exact nb_snoc m a
          have e2 : (m ++ [a]).take i = m := by rw [← hml, List.take_append_of_le_length (Nat.le_refl _), List.take_length]
          rw [e1, e2]
        -- a list that passes has this one here
        have here : ∀ m' : List Nat, x = m'.map Int.ofNat → CkAll k G.length left there m' → CkAt k there x.length (m ++ [a]) i ∧ Tra left (m ++ [a]) := fun m' hm' hc => by
          obtain ⟨h1, h3, h4, h5⟩ := split m' hm'
          have h4' : nb m' i = a := (Int.ofNat.inj h4).symm
          have h6 : m'.take (i + 1) = m ++ [a] := by rw [List.take_add_one, h3, h1, h4']; rfl
          have h7 : m' = (m ++ [a]) ++ m'.drop (i + 1) := by rw [← h6, List.take_append_drop]
          constructor
          · have := hc.at_ i (by omega)
            rw [h5] at this
            rw [h7] at this
            exact (ckAt_pre (by simp; omega)).1 this
          · refine tra_pre _ (m'.drop (i + 1)) left ?_
            rw [← h7]; exact hc.tr
        by_cases hi0 : i = 0
        · subst hi0
          have hm0 : m = [] := List.length_eq_zero_iff.1 hml
          subst hm0
          obtain ⟨v31, s31, esl⟩ := hsg.take (i := ((0 : Nat) : Int)) under102 sz3 (by omega) (by omega)
          have c97 := fun (Q : Value → H → Option (Ex × List Value × H)) => calls_eq (K := Q) (xs := [v31, iv a]) (s97 (h := g) (l := x.take 0) (z := (a : Int)) (by rw [Int.toNat_natCast, cellsI_take] at s31; exact s31))
          have hgood : CkAt k there x.length ([] ++ [a]) 0 → ∃ e ws' h', (f54_l2 rn K v3 ws0 v6 x.length w1 g = some (.normal, [.bool false, iv 0, lv', iv ((0 + 1 : Nat) : Int)], g)) ∧ e = Ex.normal ∧ ws' = w1 ∧ h' = g := fun hc => by
            refine ⟨_, _, _, ?_, rfl, rfl, rfl⟩
            unfold f54_l2
            rw [g3, g2, g1, g0, gv3, gv4, asI_int, lt_t (by omega), ifB_true, asK_int, getI hsg hx, asI_int, c79, hnode, asB_bool, show (!true) = false from rfl, ifB_false, asI_int, show AM.lt 0 ((0 : Nat) : Int) = false from rfl, ifB_false, asI_int, show AM.lt 0 ((0 : Nat) : Int) = false from rfl, ifB_false, asI_int, show AM.eq ((0 : Nat) : Int) 0 = true from rfl, ifB_true, esl, c97, asB_bool, List.take_zero, show decide ((a : Int) ∈ ([] : List Int)) = false from rfl, ifB_false, asI_int]
            by_cases hk0 : 0 < k
            · rw [lt_t (by omega), ifB_true, asI_int, nn_ge hnn, hbit, keqv4]
              have := ((hat.1 hc).2 hk0).2 (.inl rfl)
              rw [this, show (!(true == true)) = false from rfl, ifB_false, asI_int, hadd]
              rfl
            · rw [lt_f (by omega), ifB_false, asI_int, hadd]
              rfl
          by_cases hc : CkAt k there x.length ([] ++ [a]) 0
          · obtain ⟨_, _, _, k1, _⟩ := hgood hc
            exact ⟨.normal, _, g, k1, .inl ⟨rfl, [] ++ [a], lv', rfl, xg, htn, hmn', trivial, hCk' hc, hlv⟩⟩
          · have hk0 : 0 < k := Classical.byContradiction fun hk0 => hc (hat.2 ⟨fun _ => by simp, fun h => absurd h hk0⟩)
            have hbf : there.testBit a = false := Bool.eq_false_iff.2 fun hb => hc (hat.2 ⟨fun _ => by simp, fun _ => ⟨fun _ => .inl rfl, fun _ => hb⟩⟩)
            refine ⟨.ret, [.bool false, iv 0, lv', iv ((0 : Nat) : Int)], g, ?_, .inr ⟨by simp, xg, .inr ⟨rfl, fun m' hm' hcc => hc (here m' hm' hcc).1, _, _, rfl⟩⟩⟩
            unfold f54_l2
            rw [g3, g2, gv3, gv4, asI_int, lt_t (by omega), ifB_true, asK_int, getI hsg hx, asI_int, c79, hnode, asB_bool, show (!true) = false from rfl, ifB_false, asI_int, show AM.lt 0 ((0 : Nat) : Int) = false from rfl, ifB_false, asI_int, show AM.lt 0 ((0 : Nat) : Int) = false from rfl, ifB_false, asI_int, show AM.eq ((0 : Nat) : Int) 0 = true from rfl, ifB_true, esl, c97, asB_bool, List.take_zero, show decide ((a : Int) ∈ ([] : List Int)) = false from rfl, ifB_false, asI_int,
              lt_t (by omega), ifB_true, asI_int, nn_ge hnn, hbit, keqv4, hbf, show (!(false == true)) = true from rfl, ifB_true]
            rfl
        · obtain ⟨q, b0, rfl⟩ := snoc_of (m := m) (by rintro rfl; simp at hml; omega)
          rw [List.length_append, List.length_singleton] at hml
          have hq : x[i - 1]? = some (b0 : Int) := by
            have h1 : (x.take i)[i - 1]? = some (b0 : Int) := by
              rw [hm, List.getElem?_map, show i - 1 = q.length by omega, List.getElem?_append_right (Nat.le_refl _), Nat.sub_self]; rfl
            rw [List.getElem?_take_of_lt (by omega)] at h1
            exact h1
          have hb0n : b0 < G.length := hmn b0 (by simp)
          have hsub : AM.sub .i64 (i : Int) 1 = ((i - 1 : Nat) : Int) := by rw [sub64 (by omega) (by omega)]; omega
          have hgd := hgl.delP _ hT
          have hdl : (delP left (q ++ [b0])).length = G.length := (delP_len _ _).trans hll
          have c80 := fun (Q : Value → H → Option (Ex × List Value × H)) => calls_eq (K := Q) (xs := [lv', iv b0, iv a]) (s80 (a := b0) (b := a) hgd.toGrB hlv (by omega) (by omega))
          have hl0 : AM.lt 0 (i : Int) = true := lt_t (by omega)
          have he0 : AM.eq (i : Int) 0 = false := by simp [AM.eq]; omega
          cases hadj : adj (delP left (q ++ [b0])) b0 a with
          | false =>
            refine ⟨.ret, [.bool false, iv 0, lv', iv i], g, ?_, .inr ⟨by simp, xg, .inr ⟨rfl, fun m' hm' hc => ?_, _, _, rfl⟩⟩⟩
            · unfold f54_l2
              rw [g3, g2, asI_int, lt_t (by omega), ifB_true, asK_int, getI hsg hx, asI_int, c79, hnode, asB_bool, show (!true) = false from rfl, ifB_false, asI_int, hl0, ifB_true, asI_int, hsub, getI hsg hq, asI_int, c80, hadj, asB_bool, show (!false) = true from rfl, ifB_true]
              rfl
            · have := (here m' hm' hc).2
              rw [List.append_assoc] at this
              have := ((tra_snoc q left b0 a).1 this).2
              rw [hadj] at this; cases this
          | true =>
            have hne : b0 ≠ a := by rintro rfl; rw [hgd.irr] at hadj; cases hadj
            obtain ⟨v15, g7, e87, x7, bb, hbb, hia⟩ := s87 (a := b0) (b := a) hgd.toGrB (by omega) (by omega) hne hlv
            have hT' : Tra left (q ++ [b0] ++ [a]) := by rw [List.append_assoc]; exact (tra_snoc q left b0 a).2 ⟨hT, hadj⟩
            have hlv' : SlR g7 3 1 v15 (cellsN (delP left (q ++ [b0] ++ [a]))) := by
              rw [List.append_assoc, show [b0] ++ [a] = [b0, a] from rfl, delP_snoc]; exact hia.slN
            have xg7 := xg.trans x7.toExt
            have hsg7 := hs6.ext xg7
            have hn7 : ∀ {T : Type} (Q : Int → Option T), len v6 Q = Q (x.length : Int) := fun Q => by rw [hs6.len, List.length_map]
            obtain ⟨v18, s18', esl⟩ := hsg7.take (i := (i : Int)) under102 sz3 (by omega) (by rw [List.length_map]; omega)
            have hin : decide ((a : Int) ∈ x.take i) = decide (a ∈ q ++ [b0]) := decide_eq_decide.2 (by
              rw [hm]
              constructor
              · intro h
                obtain ⟨y, hy, he⟩ := List.mem_map.1 h
                rw [← Int.ofNat.inj he]; exact hy
              · intro h
                exact List.mem_map.2 ⟨a, h, rfl⟩)
            have c97 := fun (Q : Value → H → Option (Ex × List Value × H)) => calls_eq (K := Q) (xs := [v18, iv a]) (s97 (h := g7) (l := x.take i) (z := (a : Int)) (by rw [Int.toNat_natCast, cellsI_take] at s18'; exact s18'))
            rw [hin] at c97
            have hsubl : AM.sub .i64 (x.length : Int) 1 = ((x.length - 1 : Nat) : Int) := by rw [sub64 (by omega) (by omega)]; omega
            have hend : AM.eq (i : Int) ((x.length - 1 : Nat) : Int) = decide (i + 1 = x.length) := by
              rw [eqN]; exact decide_eq_decide.2 ⟨fun h => by omega, fun h => by omega⟩
            have start : ∀ r, (ifB (decide (a ∈ q ++ [b0])) (
                ifB (AM.lt 0 (k : Int)) (AM.out .ret [.bool false, iv 0, v15, iv i] g7) (
                  ifB (AM.lt (i : Int) ((x.length - 1 : Nat) : Int)) (AM.out .ret [.bool false, iv 0, v15, iv i] g7) (
                    ifB (AM.lt 0 (k : Int)) (
                      ifB (not (there.testBit a == decide (i + 1 = x.length))) (AM.out .ret [.bool false, iv 0, v15, iv i] g7) (AM.out .normal [.bool false, iv 0, v15, iv ((i + 1 : Nat) : Int)] g7)) (
                      AM.out .normal [.bool false, iv 0, v15, iv ((i + 1 : Nat) : Int)] g7)))) (
                ifB (AM.lt 0 (k : Int)) (
                  ifB (not (there.testBit a == decide (i + 1 = x.length))) (AM.out .ret [.bool false, iv 0, v15, iv i] g7) (AM.out .normal [.bool false, iv 0, v15, iv ((i + 1 : Nat) : Int)] g7)) (
                  AM.out .normal [.bool false, iv 0, v15, iv ((i + 1 : Nat) : Int)] g7))) = r → f54_l2 rn K v3 ws0 v6 x.length w1 g = r := by
              intro r hr
              unfold f54_l2
              rw [g3, g2, g1, g0, gv3, gv4, asI_int, lt_t (by omega), ifB_true, asK_int, getI hsg hx, asI_int, c79, hnode, asB_bool, show (!true) = false from rfl, ifB_false, asI_int, hl0, ifB_true, asI_int, hsub, getI hsg hq, asI_int, c80, hadj, asB_bool, show (!true) = false from rfl, ifB_false, asI_int, hl0, ifB_true, asI_int, hsub, getI hsg hq, asI_int, kbld32,
                calls_eq (xs := [lv', .agg #[iv b0, iv a]]) e87, asI_int, he0, ifB_false, hn7, asI_int, esl, c97, asB_bool, ← hr]
              simp only [asI_int, hn7, hsubl, nn_ge hnn, hbit, hend, keqv4, hadd]
            by_cases hc : CkAt k there x.length (q ++ [b0] ++ [a]) i
            · obtain ⟨hc1, hc2⟩ := hat.1 hc
              refine ⟨.normal, [.bool false, iv 0, v15, iv ((i + 1 : Nat) : Int)], g7, start _ ?_, .inl ⟨rfl, q ++ [b0] ++ [a], v15, rfl, xg7, htn, hmn', hT', hCk' hc, hlv'⟩⟩
              by_cases hk0 : 0 < k
              · have hnm := hc1 (.inl hk0)
                have hb := hc2 hk0
                have hbd : there.testBit a = decide (i + 1 = x.length) := by
                  rw [Bool.eq_iff_iff, decide_eq_true_iff, hb]
                  exact ⟨fun h => h.resolve_left hi0, .inr⟩
                rw [decide_eq_false hnm, ifB_false, lt_t (by omega), ifB_true, hbd, show (!(decide (i + 1 = x.length) == decide (i + 1 = x.length))) = false by simp, ifB_false]
                rfl
              · by_cases hmem : a ∈ q ++ [b0]
                · have : ¬ i + 1 < x.length := fun h => hc1 (.inr h) hmem
                  rw [decide_eq_true hmem, ifB_true, lt_f (by omega), ifB_false, lt_f (by omega), ifB_false, ifB_false]
                  rfl
                · rw [decide_eq_false hmem, ifB_false, lt_f (by omega), ifB_false]
                  rfl
            · refine ⟨.ret, [.bool false, iv 0, v15, iv i], g7, start _ ?_, .inr ⟨by simp, xg7, .inr ⟨rfl, fun m' hm' hcc => hc (here m' hm' hcc).1, _, _, rfl⟩⟩⟩
              by_cases hmem : a ∈ q ++ [b0]
              · rw [decide_eq_true hmem, ifB_true]
                by_cases hk0 : 0 < k
                · rw [lt_t (by omega), ifB_true]; rfl
                · have : i + 1 < x.length := Classical.byContradiction fun h => hc (hat.2 ⟨fun h2 => by omega, fun h2 => absurd h2 hk0⟩)
                  rw [lt_f (by omega), ifB_false, lt_t (by omega), ifB_true]; rfl
              · have hk0 : 0 < k := Classical.byContradiction fun hk0 => hc (hat.2 ⟨fun _ => hmem, fun h2 => absurd h2 hk0⟩)
                have hbd : (there.testBit a == decide (i + 1 = x.length)) = false := by
                  rw [Bool.eq_false_iff]
                  intro h
                  rw [beq_iff_eq] at h
                  exact hc (hat.2 ⟨fun _ => hmem, fun _ => by rw [h, decide_eq_true_iff]; exact ⟨.inr, fun h => h.resolve_left hi0⟩⟩)
                rw [decide_eq_false hmem, ifB_false, lt_t (by omega), ifB_true, hbd, show (!false) = true from rfl, ifB_true]; rfl)
    (by
      rintro ws g ⟨m, lv', rfl, xg, hm, hmn, hT, hCk, hlv⟩
      rw [List.take_length] at hm
      have hml : m.length = x.length := by rw [hm, List.length_map]
      refine ⟨.exit 2, [.bool false, iv 0, lv', iv x.length], g, ?_, by simp, xg, .inl ⟨rfl, m, lv', _, hm, ⟨hmn, hT, fun j hj => by rw [hml]; exact hCk j hj⟩, rfl, hlv⟩⟩
      unfold f54_l2
      rw [show AM.gv [.bool false, iv 0, lv', iv x.length] 3 = iv x.length from rfl, asI_int, lt_f (by omega), ifB_false]
      rfl)
    (ws := [.bool false, iv 0, lv, iv 0]) (h := h) hK ⟨[], lv, rfl, xh, rfl, by simp, trivial, by simp, hl⟩
  rcases hor with ⟨rfl, m, lv', z, h1, h2, rfl, h3⟩ | ⟨rfl, h1, a, b, rfl⟩
  · exact .inl ⟨m, h1, h2, lv', z, h', hlp, xg, h3⟩
  · exact .inr ⟨h1, a, b, h', hlp, xg⟩

theorem s54_l3 {K there : Nat} {v6 : Value} {m : List Nat} {h : H} (hm : ∀ x ∈ m, x < 10) (hth : there < 1024) (hs : SlR h 3 1 v6 (cellsN m)) (hK : m.length < K) :
    ∃ z, lpGo (f54_l3 rn K v6 m.length) K [iv there, iv 0] h = some (.exit 4, [iv (there ||| setOf m : Nat), z], h) := by
  have hl62 := hs.lt62
  rw [List.length_map] at hl62
  obtain ⟨e, ws', h', hl, rfl, rfl, z, rfl⟩ := lp_range (F := f54_l3 rn K v6 m.length) (k := K) (n := m.length)
    (fun j ws g => g = h ∧ ws = [iv (there ||| setOf (m.take j) : Nat), iv j])
    (fun e ws g => g = h ∧ e = .exit 4 ∧ ∃ z, ws = [iv (there ||| setOf m : Nat), z])
    (by
      rintro j ws g hj ⟨rfl, rfl⟩
      have hx10 := hm _ (nb_mem hj)
      have hgx : m[j]? = some (nb m j) := by unfold nb; rw [List.getD_eq_getElem?_getD, List.getElem?_eq_getElem hj]; rfl
      have hadd : add .i64 (j : Int) 1 = ((j + 1 : Nat) : Int) := by rw [add64 (by omega) (by omega)]; omega
      have hflt : there ||| setOf (m.take j) < 2 ^ 10 := Nat.or_lt_two_pow hth (setOf_lt (n := 10) fun y hy => hm y (List.mem_of_mem_take hy))
      have hor := or_calc2 (n := 10) (by omega) hflt hx10
      refine ⟨.normal, [iv (there ||| setOf (m.take (j + 1)) : Nat), iv ((j + 1 : Nat) : Int)], g, ?_, .inl ⟨rfl, rfl, rfl⟩⟩
      have hnext : setOf (m.take (j + 1)) = setOf (m.take j) ||| 2 ^ nb m j := by rw [List.take_add_one, hgx]; exact setOf_snoc _ _
      unfold f54_l3
      rw [show AM.gv [iv (there ||| setOf (m.take j) : Nat), iv j] 1 = iv j from rfl, show AM.gv [iv (there ||| setOf (m.take j) : Nat), iv j] 0 = iv (there ||| setOf (m.take j) : Nat) from rfl, asI_int, lt_t (by omega), ifB_true, asK_int]
      simp only [d3]
      rw [getN hs hj, asI_int, nn_ge (show (0 : Int) ≤ (nb m j : Int) by omega), asI_int, asI_int, hor, hadd, hnext, Nat.or_assoc]
      rfl)
    (by
      rintro ws g ⟨rfl, rfl⟩
      rw [List.take_length]
      refine ⟨.exit 4, [iv (there ||| setOf m : Nat), iv m.length], g, ?_, by simp, rfl, rfl, _, rfl⟩
      unfold f54_l3
      rw [show AM.gv [iv (there ||| setOf m : Nat), iv m.length] 1 = iv m.length from rfl, asI_int, lt_f (by omega), ifB_false]
      rfl)
    (ws := [iv there, iv 0]) (h := h) hK ⟨rfl, by simp [setOf]⟩
  exact ⟨z, hl⟩

end Go.AM

end

section

/- The program's check of ears: whole. -/
namespace Go.AM
open Go.Proofs
variable {R : Type}
attribute [local simp] nx_eq nx_new nx_set blk_new blk_set asI_int asK_int asB_bool asP_ptr al_eq bx_eq len_slice onE_exit onE_ret onR_ret Value.cells cell_new cell_set rd_new rd_set off eq lt le ifB gv out ext20 ext21
set_option maxHeartbeats 2000000 in
theorem s54_ear {K i there : Nat} {v1 v3 lv : Value} {p} {q r : Nat} {G left : List Nat} {es : List (List Nat)} {LL : List (List Int)} {vs : List Value} {x : List Int} {h0 g : H} (hG : GrN G) (hs3 : SlR h0 3 1 v3 (cellsN G)) (hs1 : SlR h0 102 1 v1 (cellsV vs)) (hvl : vs.length = LL.length)
    (hxv : vs[i]? = some (.slice p q r)) (hx : LL[i]? = some x) (hsx : SlR h0 3 1 (.slice p q r) (cellsI x)) (xg : Ext h0 g) (hl : SlR g 3 1 lv (cellsN left)) (hk : ElB G es left there) (hK : 200 ≤ K) (hxK : x.length < K) :
    (∃ m : List Nat, x = m.map Int.ofNat ∧ EarK i G.length left there m ∧ ∃ lv' g', f54_l1 rn K v1 v3 LL.length [.bool false, iv 0, lv, iv there, iv i] g = some (.normal, [.bool false, iv 0, lv', iv (there ||| setOf m : Nat), iv ((i + 1 : Nat) : Int)], g') ∧ Ext h0 g' ∧ SlR g' 3 1 lv' (cellsN (delP left m))) ∨
    ((∀ m : List Nat, x = m.map Int.ofNat → ¬ EarK i G.length left there m) ∧ ∃ ws' g', f54_l1 rn K v1 v3 LL.length [.bool false, iv 0, lv, iv there, iv i] g = some (.ret, .bool false :: iv 0 :: ws', g') ∧ Ext h0 g') := by
  have hlen := hG.len
  have hpow := hG.pow
  have hth := Nat.lt_of_lt_of_le hk.tn hpow
  have hil := (List.getElem?_eq_some_iff.1 hx).1
  have hv62 := hs1.lt62
  rw [List.length_map, hvl] at hv62
  have hx62 := hsx.lt62
  rw [List.length_map] at hx62
  have hsg := hsx.ext xg
  have hnx : ∀ {T : Type} (Q : Int → Option T), len (.slice p q r) Q = Q (x.length : Int) := fun Q => by rw [hsx.len, List.length_map]
  have hadd : add .i64 (i : Int) 1 = ((i + 1 : Nat) : Int) := by rw [add64 (by omega) (by omega)]; omega
  have e1 : ∀ (Q : Value → Option (Ex × List Value × H)), (six v1 (i : Int) 1 fun b o => ld Tryd.prog g 102 b o Q) = Q (.slice p q r) := fun Q =>
    (hs1.ext xg).ld0 ag102 (by omega) (x := [.slice p q r]) (by rw [Int.toNat_natCast, List.getElem?_map, hxv]; rfl) rfl Q
  obtain ⟨ws0, hws0⟩ : ∃ ws0, ws0 = [Value.bool false, iv 0, lv, iv there, iv i] := ⟨_, rfl⟩
  rw [← hws0]
  have w0 : AM.gv ws0 0 = .bool false := by rw [hws0]; rfl
  have w1 : AM.gv ws0 1 = iv 0 := by rw [hws0]; rfl
  have w2 : AM.gv ws0 2 = lv := by rw [hws0]; rfl
  have w3 : AM.gv ws0 3 = iv there := by rw [hws0]; rfl
  have w4 : AM.gv ws0 4 = iv i := by rw [hws0]; rfl
  by_cases hA : x.length < 2
  · refine .inr ⟨fun m hm e => ?_, [lv, iv there, iv i], g, ?_, xg⟩
    · have := e.len
      rw [hm, List.length_map] at hA
      omega
    · unfold f54_l1
      rw [w4, w3, w2, asI_int, lt_t (by omega), ifB_true, asK_int, e1, hnx, lt_t (by omega), ifB_true]
      rfl
  have hl2 := s54_l2 (K := K) (k := i) (there := there) (v3 := v3) (v6 := .slice p q r) (lv := lv) (ws0 := ws0) (x := x) hG hs3 hsx xg hk.gr hk.len hl w3 w4 hth (by omega) (by omega) hxK
  have hsubm : AM.sub .i64 (x.length : Int) 1 = ((x.length - 1 : Nat) : Int) := by rw [sub64 (by omega) (by omega)]; omega
  have hx0 := List.getElem?_eq_getElem (show 0 < x.length by omega)
  have hxL := List.getElem?_eq_getElem (show x.length - 1 < x.length by omega)
  generalize hz0 : x[0] = z0 at hx0
  generalize hzL : x[x.length - 1] = zL at hxL
  have gI0 := fun (Q : Value → Option (Ex × List Value × H)) => getI (R := Ex × List Value × H) hsg hx0 Q
  rw [show ((0 : Nat) : Int) = 0 from rfl] at gI0
  have gIL := fun (Q : Value → Option (Ex × List Value × H)) => getI (R := Ex × List Value × H) hsg hxL Q
  have hfirst : ∀ m : List Nat, x = m.map Int.ofNat → (nb m 0 = nb m (m.length - 1) ↔ z0 = zL) := fun m hm => by
    have hml : m.length = x.length := by rw [hm, List.length_map]
    have a0 : z0 = (nb m 0 : Nat) := by
      rw [hm, List.getElem?_map] at hx0
      unfold nb; rw [List.getD_eq_getElem?_getD, List.getElem?_eq_getElem (by omega)]
      rw [List.getElem?_eq_getElem (by omega)] at hx0
      exact (Option.some.inj hx0).symm
    have aL : zL = (nb m (m.length - 1) : Nat) := by
      rw [hml]
      rw [hm, List.getElem?_map, List.length_map, hml, List.getElem?_eq_getElem (by omega)] at hxL
      unfold nb; rw [List.getD_eq_getElem?_getD, List.getElem?_eq_getElem (by omega)]
      exact (Option.some.inj hxL).symm
    rw [a0, aL]
    omega
  -- what follows the check of all nodes
  have rest : ∀ (m : List Nat), x = m.map Int.ofNat → (∀ y ∈ m, y < G.length) → ∀ g', Ext h0 g' → ∃ z, lpGo (f54_l3 rn K (.slice p q r) x.length) K [iv there, iv 0] g' = some (.exit 4, [iv (there ||| setOf m : Nat), z], g') := fun m hm hmn g' x' => by
    have hml : m.length = x.length := by rw [hm, List.length_map]
    rw [← hml]
    refine s54_l3 (fun y hy => Nat.lt_of_lt_of_le (hmn y hy) hlen) hth ?_ (by omega)
    have := hsx.ext x'
    rw [hm, cellsN_eq] at this
    exact this
  by_cases hi0 : i = 0
  · have he0 : AM.eq (i : Int) 0 = true := by rw [hi0]; rfl
    by_cases h4 : x.length < 4
    · refine .inr ⟨fun m hm e => ?_, [lv, iv there, iv i], g, ?_, xg⟩
      · have := (e.first hi0).1
        rw [hm, List.length_map] at h4
        omega
      · unfold f54_l1
        rw [w4, w3, w2, asI_int, lt_t (by omega), ifB_true, asK_int, e1, hnx, lt_f (by omega), ifB_false, asI_int, he0, ifB_true, hnx, lt_t (by omega), ifB_true]
        rfl
    by_cases hfl : z0 = zL
    · have start : ∀ r', (lp K (f54_l2 rn K v3 ws0 (.slice p q r) x.length) [.bool false, iv 0, lv, iv 0] g fun e0 ws2 h17 =>
            onE e0 2 (
              lp K (f54_l3 rn K (.slice p q r) x.length) [iv there, iv 0] h17 fun e1 ws4 h19 =>
              onE e1 4 (
                AM.out .normal [AM.gv ws2 0, AM.gv ws2 1, AM.gv ws2 2, AM.gv ws4 0, iv ((i + 1 : Nat) : Int)] h19) (
                none)) (
              onR e0 (
                AM.out .ret [AM.gv ws2 0, AM.gv ws2 1, AM.gv ws2 2, iv there, iv i] h17))) = r' → f54_l1 rn K v1 v3 LL.length ws0 g = r' := by
        intro r' hr
        unfold f54_l1
        rw [w4, w3, w2, w1, w0, asI_int, lt_t (by omega), ifB_true, asK_int, e1, hnx, lt_f (by omega), ifB_false, asI_int, he0, ifB_true, hnx, lt_f (by omega), ifB_false, gI0, asI_int, hnx, hsubm, gIL, asI_int, hfl, show AM.eq zL zL = true by simp [AM.eq], show (!true) = false from rfl, ifB_false, hnx]
        simp only [hnx, asI_int, hadd]
        exact hr
      rcases hl2 with ⟨m, hm, hck, lv', z, g', el2, xg', hl'⟩ | ⟨hno, a, b, g', el2, xg'⟩
      · have hml : m.length = x.length := by rw [hm, List.length_map]
        obtain ⟨z', el3⟩ := rest m hm hck.lt g' xg'
        refine .inl ⟨m, hm, earK_ck.2 ⟨⟨by omega, fun _ => ⟨by omega, (hfirst m hm).2 hfl⟩⟩, hck⟩, lv', g', start _ ?_, xg', hl'⟩
        rw [lp_eq el2, onE_exit, if_pos rfl, lp_eq el3, onE_exit, if_pos rfl]
        rfl
      · refine .inr ⟨fun m hm e => hno m hm (earK_ck.1 e).2, [a, iv there, iv i], g', start _ ?_, xg'⟩
        rw [lp_eq el2, onE_ret, onR_ret]
        rfl
    · refine .inr ⟨fun m hm e => hfl ((hfirst m hm).1 (e.first hi0).2), [lv, iv there, iv i], g, ?_, xg⟩
      unfold f54_l1
      rw [w4, w3, w2, asI_int, lt_t (by omega), ifB_true, asK_int, e1, hnx, lt_f (by omega), ifB_false, asI_int, he0, ifB_true, hnx, lt_f (by omega), ifB_false, gI0, asI_int, hnx, hsubm, gIL, asI_int, show AM.eq z0 zL = false by simp [AM.eq, hfl], show (!false) = true from rfl, ifB_true]
      rfl
  · have he0 : AM.eq (i : Int) 0 = false := by simp [AM.eq]; omega
    have start : ∀ r', (lp K (f54_l2 rn K v3 ws0 (.slice p q r) x.length) [.bool false, iv 0, lv, iv 0] g fun e0 ws2 h17 =>
          onE e0 2 (
            lp K (f54_l3 rn K (.slice p q r) x.length) [iv there, iv 0] h17 fun e1 ws4 h19 =>
            onE e1 4 (
              AM.out .normal [AM.gv ws2 0, AM.gv ws2 1, AM.gv ws2 2, AM.gv ws4 0, iv ((i + 1 : Nat) : Int)] h19) (
              none)) (
            onR e0 (
              AM.out .ret [AM.gv ws2 0, AM.gv ws2 1, AM.gv ws2 2, iv there, iv i] h17))) = r' → f54_l1 rn K v1 v3 LL.length ws0 g = r' := by
      intro r' hr
      unfold f54_l1
      rw [w4, w3, w2, w1, w0, asI_int, lt_t (by omega), ifB_true, asK_int, e1, hnx, lt_f (by omega), ifB_false, asI_int, he0, ifB_false, hnx, l4_eq54, l5_eq54]
      simp only [hnx, asI_int, hadd]
      exact hr
    rcases hl2 with ⟨m, hm, hck, lv', z, g', el2, xg', hl'⟩ | ⟨hno, a, b, g', el2, xg'⟩
    · have hml : m.length = x.length := by rw [hm, List.length_map]
      obtain ⟨z', el3⟩ := rest m hm hck.lt g' xg'
      refine .inl ⟨m, hm, earK_ck.2 ⟨⟨by omega, fun h => absurd h hi0⟩, hck⟩, lv', g', start _ ?_, xg', hl'⟩
      rw [lp_eq el2, onE_exit, if_pos rfl, lp_eq el3, onE_exit, if_pos rfl]
      rfl
    · refine .inr ⟨fun m hm e => hno m hm (earK_ck.1 e).2, [a, iv there, iv i], g', start _ ?_, xg'⟩
      rw [lp_eq el2, onE_ret, onR_ret]
      rfl

theorem s54_l1 {K : Nat} {v1 v3 lv : Value} {G : List Nat} {LL : List (List Int)} {vs : List Value} {h : H} (hG : GrN G) (hs3 : SlR h 3 1 v3 (cellsN G)) (hs1 : SlR h 102 1 v1 (cellsV vs)) (hv : AllSl vs) (hLS : LSI h vs LL) (hl : SlR h 3 1 lv (cellsN G)) (hK : K = LL.length + (LL.map List.length).sum + 300) :
    (∃ (es : List (List Nat)) (left : List Nat) (there : Nat) (lv' : Value) (g : H) (z : Value), lpGo (f54_l1 rn K v1 v3 LL.length) K [.bool false, iv 0, lv, iv 0, iv 0] h = some (.exit 0, [.bool false, iv 0, lv', iv there, z], g) ∧ Ext h g ∧ SlR g 3 1 lv' (cellsN left) ∧ ELk G es left there ∧ LL = es.map (fun m => m.map Int.ofNat)) ∨
    (¬ EarsOk G LL ∧ ∃ ws' g, lpGo (f54_l1 rn K v1 v3 LL.length) K [.bool false, iv 0, lv, iv 0, iv 0] h = some (.ret, .bool false :: iv 0 :: ws', g) ∧ Ext h g) := by
  obtain ⟨e, ws', h', hlp, xg, hor⟩ := lp_range (F := f54_l1 rn K v1 v3 LL.length) (k := K) (n := LL.length)
    (fun i ws g => ∃ (es : List (List Nat)) (left : List Nat) (there : Nat) (lv' : Value), ws = [.bool false, iv 0, lv', iv there, iv i] ∧ Ext h g ∧ SlR g 3 1 lv' (cellsN left) ∧ ELk G es left there ∧ LL.take i = es.map (fun m => m.map Int.ofNat))
    (fun e ws g => Ext h g ∧ ((e = .exit 0 ∧ ∃ (es : List (List Nat)) (left : List Nat) (there : Nat) (lv' z : Value), ws = [.bool false, iv 0, lv', iv there, z] ∧ SlR g 3 1 lv' (cellsN left) ∧ ELk G es left there ∧ LL = es.map (fun m => m.map Int.ofNat)) ∨ (e = .ret ∧ ¬ EarsOk G LL ∧ ∃ ws', ws = .bool false :: iv 0 :: ws')))
    (by
      rintro i ws g hi ⟨es, left, there, lv', rfl, xg, hl', hk, ht⟩
      have hx := List.getElem?_eq_getElem hi
      generalize hxd : LL[i] = x at hx
      have hvl := hLS.1
      have hxv := List.getElem?_eq_getElem (show i < vs.length by omega)
      generalize hvd : vs[i] = xv at hxv
      obtain ⟨p, q, r, rfl⟩ := hv xv (List.mem_of_getElem? hxv)
      have hei : es.length = i := by
        have := congrArg List.length ht
        rw [List.length_take, List.length_map] at this
        omega
      have hxs := len_le_sum LL x (List.mem_of_getElem? hx)
      rcases s54_ear (K := K) hG hs3 hs1 hvl hxv hx (hLS.2 i _ x hxv hx) xg hl' (hk.base hG) (by omega) (by omega) with ⟨m, rfl, hE, lv2, g', e1, xg', hl2⟩ | ⟨hno, ws', g', e1, xg'⟩
      · refine ⟨.normal, _, g', e1, .inl ⟨rfl, es ++ [m], delP left m, there ||| setOf m, lv2, rfl, xg', hl2, hk.add (by rw [hei]; exact hE), ?_⟩⟩
        rw [List.take_add_one, hx, ht, List.map_append]; rfl
      · exact ⟨.ret, _, g', e1, .inr ⟨by simp, xg', .inr ⟨rfl, not_ok hk ht hx hno, _, rfl⟩⟩⟩)
    (by
      rintro ws g ⟨es, left, there, lv', rfl, xg, hl', hk, ht⟩
      rw [List.take_length] at ht
      refine ⟨.exit 0, [.bool false, iv 0, lv', iv there, iv LL.length], g, ?_, by simp, xg, .inl ⟨rfl, es, left, there, lv', _, rfl, hl', hk, ht⟩⟩
      unfold f54_l1
      rw [show AM.gv [.bool false, iv 0, lv', iv there, iv LL.length] 4 = iv LL.length from rfl, asI_int, lt_f (by omega), ifB_false]
      rfl)
    (ws := [.bool false, iv 0, lv, iv 0, iv 0]) (h := h) (by omega) ⟨[], G, 0, lv, rfl, .refl _, hl, .inl ⟨rfl, rfl, rfl⟩, rfl⟩
  rcases hor with ⟨rfl, es, left, there, lv', z, rfl, h1, h2, h3⟩ | ⟨rfl, h1, ws', rfl⟩
  · exact .inl ⟨es, left, there, lv', h', z, hlp, xg, h1, h2, h3⟩
  · exact .inr ⟨h1, ws', h', hlp, xg⟩

theorem s54_bad {v lv : Value} {l : List Int} {h : H} (hval : validG l = false) (hs : SlR h 3 1 v (cellsI l)) : rn 54 #[v, lv] h = some (.tuple #[.bool false, iv 2], h) := by
  have c63 := fun (K : Value → H → Option (Value × H)) => calls_eq (K := K) (xs := [v]) (s63 hs)
  rw [hval] at c63
  refine p54 (k := 0) (h1 := h) ?_ rfl (.refl _)
  unfold f54
  rw [c63]
  rfl

theorem s54 {v lv : Value} {g : List Nat} {vs : List Value} {LL : List (List Int)} {h : H} (hg : GrN g) (hval : validG (g.map Int.ofNat) = true) (hs : SlR h 3 1 v (cellsN g)) (hl : SlR h 102 1 lv (cellsV vs)) (hv : AllSl vs) (hLS : LSI h vs LL)
    (_hm : LL.length ≤ 100) (_hm2 : ∀ m ∈ LL, m.length ≤ 100) : ∃ q, rn 54 #[v, lv] h = some (.tuple #[.bool q, iv 0], h) ∧ (q = true ↔ EarsOk g LL) := by
  have hn : ∀ {T : Type} (Q : Int → Option T), len lv Q = Q (LL.length : Int) := fun Q => by rw [hl.len, List.length_map, hLS.1]
  have c63 := fun (K : Value → H → Option (Value × H)) => calls_eq (K := K) (xs := [v]) (s63 (l := g.map Int.ofNat) (h := h) (by rw [cellsN_eq]; exact hs))
  rw [if_pos hval] at c63
  have hg0 : g ≠ [] := by rintro rfl; have := hg.pos; simp at this
  refine s85 hg.toGrB hg0 hs fun v5 h2 bb e85 x2 hbb hia => ?_
  rcases s54_l1 (K := LL.length + (LL.map List.length).sum + 300) hg (hs.ext x2.toExt) (hl.ext x2.toExt) hv (hLS.ext x2.toExt) hia.slN rfl with ⟨es, left, there, lv', g1, z, e1, xg, hl', hk, ht⟩ | ⟨hno, ws', g1, e1, xg⟩
  · have hb := hk.base hg
    have xg1 := x2.toExt.trans xg
    have hs2 := hs.ext xg1
    obtain ⟨v64, g2, e77, x3, a64⟩ := s77 hb.gr.toGrB hl'
    have hn64 : ∀ {T : Type} (Q : Int → Option T), len v64 Q = Q ((edgesP left).length : Int) := fun Q => by rw [a64.slR.len]; simp
    have hok : EarsOk g LL ↔ there = allN g ∧ (edgesP left).length = 0 := by
      constructor
      · rintro ⟨es', left', hLL, hEL, hE⟩
        have : es' = es := map2_inj (hLL.symm.trans ht)
        subst this
        obtain ⟨rfl, rfl⟩ := ELk.fun_ (.inr hEL) hk
        exact ⟨rfl, by rw [hE]; rfl⟩
      · rintro ⟨rfl, hE⟩
        rcases hk with ⟨_, _, h0⟩ | hk
        · exact absurd h0 (all_ne hg)
        · exact ⟨es, left, ht, hk, List.length_eq_zero_iff.1 hE⟩
    by_cases hm : there = allN g
    · refine ⟨decide ((edgesP left).length = 0), p54 (k := LL.length + (LL.map List.length).sum + 300) (h1 := g2) ?_ rfl (xg1.trans x3.toExt), by rw [hok, decide_eq_true_iff]; exact ⟨fun h => ⟨hm, h⟩, fun h => h.2⟩⟩
      unfold f54
      rw [c63, ext20, ext21, asB_bool, show (!true) = false from rfl, ifB_false, calls_eq (xs := [v]) e85, hn]
      refine (lp_eq e1).trans ?_
      rw [onE_exit, if_pos rfl, calls_eq (xs := [v]) (s65 hg.toGrB hs2), asI_int, show AM.gv [.bool false, iv 0, lv', iv there, z] 3 = iv there from rfl, asI_int, hm, show AM.eq (allN g : Int) (allN g : Int) = true by simp [AM.eq], ifB_true, show AM.gv [.bool false, iv 0, lv', iv (allN g : Nat), z] 2 = lv' from rfl, calls_eq (xs := [lv']) e77, hn64]
      have : AM.eq ((edgesP left).length : Int) 0 = decide ((edgesP left).length = 0) := eqN (b := 0)
      rw [this]
    · refine ⟨false, p54 (k := LL.length + (LL.map List.length).sum + 300) (h1 := g1) ?_ rfl xg1, by rw [hok]; simp [hm]⟩
      unfold f54
      rw [c63, ext20, ext21, asB_bool, show (!true) = false from rfl, ifB_false, calls_eq (xs := [v]) e85, hn]
      refine (lp_eq e1).trans ?_
      rw [onE_exit, if_pos rfl, calls_eq (xs := [v]) (s65 hg.toGrB hs2), asI_int, show AM.gv [.bool false, iv 0, lv', iv there, z] 3 = iv there from rfl, asI_int, show AM.eq (there : Int) (allN g : Int) = false by simp [AM.eq]; omega, ifB_false]
  · refine ⟨false, p54 (k := LL.length + (LL.map List.length).sum + 300) (h1 := g1) ?_ rfl (x2.toExt.trans xg), by simp [hno]⟩
    unfold f54
    rw [c63, ext20, ext21, asB_bool, show (!true) = false from rfl, ifB_false, calls_eq (xs := [v]) e85, hn]
    refine (lp_eq e1).trans ?_
    rw [onE_ret, onR_ret]
    rfl

end Go.AM

end

section

/- EarsTakes. -/
namespace Go.AM
open Go.Proofs
variable {R : Type}
theorem s13 (hawake : ∀ h, rn 20 #[] h = some (.bool true, h)) {h : H} {v w : Value} {l : List Int} {vs : List Value} {LL : List (List Int)} (hs : SlR h 3 1 v (cellsI l)) (hw : SlR h 22 1 w (cellsV vs)) (hvs : AllSl vs) (hLL : LSI h vs LL) :
    ∃ h', rn 13 #[v, w] h = some (.bool true, h') := by
  have c20 := fun (g : H) (K : Value → H → Option (Value × H)) => calls_eq (K := K) (xs := []) (hawake g)
  have q0 : AM.eq (0 : Int) 0 = true := rfl
  obtain ⟨v1, h1, e18, x1, hs1⟩ := s18 hs
  by_cases hval : validG l = true
  · obtain ⟨g, rfl, hg⟩ := valid_nat hval
    have hlen := hg.len
    have htk : (g.map Int.ofNat).take 14 = g.map Int.ofNat := List.take_of_length_le (by simp; omega)
    rw [htk, cellsN_eq] at hs1
    have hcl : ((LL.take 50).map fun m => m.take 16).length ≤ 100 := by rw [List.length_map, List.length_take]; omega
    have hcl2 : ∀ m ∈ (LL.take 50).map (fun m => m.take 16), m.length ≤ 100 := fun m hm => by
      obtain ⟨y, _, rfl⟩ := List.mem_map.1 hm
      rw [List.length_take]; omega
    cases hd : doubleP g with
    | true =>
      obtain ⟨v4, h2, us, es, left, e42, x2, hEL, hle, hs4, hus, husl, hse⟩ := s42 hg hval hs1 hd
      obtain ⟨v6, h3, e18b, x3, hs6⟩ := s18 (hs.ext (x1.tr x2).toExt)
      rw [htk, cellsN_eq] at hs6
      have x123 := (x1.tr x2).tr x3
      obtain ⟨v7, h4, ws, e55, x4, hs7, hws, hl7⟩ := s55 (hw.ext x123.toExt) hvs (hLL.ext x123.toExt)
      have x14 := x123.tr x4
      obtain ⟨q, e54, hq⟩ := s54 hg hval (hs6.ext x4.toExt) hs7 hws hl7 hcl hcl2
      rw [EarsOk.cut hg] at hq
      have hsv := hs.ext x14.toExt
      have e19 := s19 hsv
      rw [hval] at e19
      rw [cellsN_eq] at hsv
      obtain ⟨q3, e56, hq3⟩ := s56 hg hsv (hw.ext x14.toExt) hvs (hLL.ext x14.toExt)
      have hqq : q3 = q := by rw [Bool.eq_iff_iff, hq3, hq]
      subst hqq
      have e39 := s39 hg hsv
      rw [hd] at e39
      have hLS4 : LSI h2 us (es.map fun m => m.map Int.ofNat) := ⟨by rw [List.length_map]; exact husl, fun i x m hx hm => by
        rw [List.getElem?_map] at hm
        obtain ⟨m', hm', rfl⟩ := Option.map_eq_some_iff.1 hm
        rw [cellsN_eq]
        exact hse i x m' hx hm'⟩
      have hok : EarsOk g (es.map fun m => m.map Int.ofNat) := ⟨es, left, rfl, hEL, hle⟩
      obtain ⟨sm1, _⟩ := hok.small hg
      rw [List.length_map] at sm1
      have x24 := x3.tr x4
      obtain ⟨v16, h5, e57, x5, hs16⟩ := s57 (hs4.ext x24.toExt) hus (by omega)
      obtain ⟨q7, e56b, hq7⟩ := s56 hg (hsv.ext x5.toExt) hs16 hus (hLS4.ext (x24.tr x5).toExt)
      have hq7t := hq7.2 hok
      subst hq7t
      refine ⟨_, t13 (k := 0) (v := .bool true) (h1 := h5) ?_⟩
      unfold f13
      rw [calls_eq (xs := [v]) e18, calls_eq (xs := [v1]) e42, ext20, ext21, asI_int, calls_eq (xs := [v]) e18b, calls_eq (xs := [w]) e55, calls_eq (xs := [v6, v7]) e54, ext20, asB_bool, ext21, asI_int, calls_eq (xs := [v]) e19, asB_bool, show (!true) = false from rfl, ifB_false,
        calls_eq (xs := [v, w]) e56, asB_bool, keqv4, show (q3 == q3) = true by simp, show (!true) = false from rfl, ifB_false, q0, show (!true) = false from rfl, ifB_false, c20, asB_bool, show (!true) = false from rfl, ifB_false, calls_eq (xs := [v]) e39, asB_bool, show (!true) = false from rfl, ifB_false, ifB_true,
        calls_eq (xs := [v4]) e57, calls_eq (xs := [v, v16]) e56b, asB_bool]
    | false =>
      have e42 := s42_single hg hval hs1 hd
      obtain ⟨v6, h3, e18b, x3, hs6⟩ := s18 (hs.ext x1.toExt)
      rw [htk, cellsN_eq] at hs6
      have x13 := x1.tr x3
      obtain ⟨v7, h4, ws, e55, x4, hs7, hws, hl7⟩ := s55 (hw.ext x13.toExt) hvs (hLL.ext x13.toExt)
      have x14 := x13.tr x4
      obtain ⟨q, e54, hq⟩ := s54 hg hval (hs6.ext x4.toExt) hs7 hws hl7 hcl hcl2
      rw [EarsOk.cut hg] at hq
      have hsv := hs.ext x14.toExt
      have e19 := s19 hsv
      rw [hval] at e19
      rw [cellsN_eq] at hsv
      obtain ⟨q3, e56, hq3⟩ := s56 hg hsv (hw.ext x14.toExt) hvs (hLL.ext x14.toExt)
      have hqq : q3 = q := by rw [Bool.eq_iff_iff, hq3, hq]
      subst hqq
      have e39 := s39 hg hsv
      rw [hd] at e39
      refine ⟨_, t13 (k := 0) (v := .bool true) (h1 := h4) ?_⟩
      unfold f13
      rw [calls_eq (xs := [v]) e18, calls_eq (xs := [v1]) e42, ext20, ext21, asI_int, calls_eq (xs := [v]) e18b, calls_eq (xs := [w]) e55, calls_eq (xs := [v6, v7]) e54, ext20, asB_bool, ext21, asI_int, calls_eq (xs := [v]) e19, asB_bool, show (!true) = false from rfl, ifB_false,
        calls_eq (xs := [v, w]) e56, asB_bool, keqv4, show (q3 == q3) = true by simp, show (!true) = false from rfl, ifB_false, q0, show (!true) = false from rfl, ifB_false, c20, asB_bool, show (!true) = false from rfl, ifB_false, calls_eq (xs := [v]) e39, asB_bool, show (!false) = true from rfl, ifB_true]
      rfl
  · have hv' : validG l = false := by simpa using hval
    have hv14 : validG (l.take 14) = false := by rw [validG_take]; exact hv'
    obtain ⟨v6, h3, e18b, x3, hs6⟩ := s18 (hs.ext x1.toExt)
    have x13 := x1.tr x3
    obtain ⟨v7, h4, ws, e55, x4, hs7, hws, hl7⟩ := s55 (hw.ext x13.toExt) hvs (hLL.ext x13.toExt)
    have e19 := s19 (hs.ext (x13.tr x4).toExt)
    rw [hv'] at e19
    refine ⟨_, t13 (k := 0) (v := .bool true) (h1 := h4) ?_⟩
    unfold f13
    rw [calls_eq (xs := [v]) e18, calls_eq (xs := [v1]) (s42_bad hv14 hs1), ext20, ext21, asI_int, calls_eq (xs := [v]) e18b, calls_eq (xs := [w]) e55, calls_eq (xs := [v6, v7]) (s54_bad hv14 (hs6.ext x4.toExt)), ext20, asB_bool, ext21, asI_int, calls_eq (xs := [v]) e19, asB_bool, show (!false) = true from rfl, ifB_true, len_slice,
      show AM.eq ((0 : Nat) : Int) 0 = true from rfl, ifB_true, ifB_true, show AM.eq (2 : Int) 2 = true from rfl, ifB_true, ifB_true, c20]
    rfl

end Go.AM

end

section

/- It is awake: by the kernel's own run. -/
namespace Go.AM
open Go.Proofs
noncomputable def awakeOk : Bool := match call Tryd.prog E0 60 20 #[] ⟨fun _ => none, 0, 0⟩ with
  | some (.bool b, _) => b
  | _ => false

theorem awake_run : awakeOk = true := by decide +kernel

theorem s20 (h : H) : rn 20 #[] h = some (.bool true, h) := by
  have ht := awake_run
  unfold awakeOk at ht
  split at ht
  · rename_i b h' hc
    subst ht
    exact run_iso (n := 59) (by rfl) (iso_any (by rfl) hc)
  · cases ht

end Go.AM

end

section

/- Slices of numbers that a statement is handed, in the abstract heap. -/
namespace Go.AM
open Go.Proofs Go.ChangeShapes
variable {HH : Type} {enc : TypeId × Value → HH} {w : World} {base : Nat} {held : Bool}
theorem flat3 (n : Nat) (cs : List Value) (x : DataW HH × List MemPlace) (h : DataW.trod enc Tryd.prog w base (fun _ => true) held n 3 cs = some x) : ∃ z : Int, cs = [iv z] := by
  obtain ⟨z, h1, _⟩ := DataW.trod_int (show Tryd.prog.underlying 3 = some (.int .i64) from by kernel_rfl) h
  exact ⟨z, h1⟩

theorem cellsOf3 : Tryd.prog.cellsOf 3 = 1 := by kernel_rfl

theorem under3 : Tryd.prog.underlying 3 = some (.int .i64) := by kernel_rfl

theorem bytes3 : Tryd.prog.bytesOf 3 = 8 := by kernel_rfl

theorem ints_of : ∀ (l : List (List Value)), (∀ x ∈ l, ∃ z : Int, x = [iv z]) → ∃ l' : List Int, l = l'.map fun z => [iv z] := by
  intro l
  induction l with
  | nil => intro _; exact ⟨[], rfl⟩
  | cons x l ih =>
    intro h
    obtain ⟨c, hc⟩ := h x (by simp)
    obtain ⟨l', hl⟩ := ih (fun y hy => h y (List.mem_cons_of_mem _ hy))
    exact ⟨c :: l', by rw [hc, hl]; rfl⟩

set_option maxRecDepth 100000 in
/-- A graph that came in. -/
theorem open_graph {rr : Reach} {b0 : Nat} {v : Value} {d : DataW HH} {ps : List MemPlace} (hv : Value.okWide Tryd.prog w rr b0 23 v) (hwt : ∀ x ∈ d.weights Tryd.prog 23, x ≤ reachBytes)
    (hd : DataW.Trod enc Tryd.prog w base (fun _ => true) held 23 v d ps) {ι : Nat → Emb} {h : H} (r : Rel Tryd.prog E0 ι h w) (hro : ∀ b k, h.blk b = some k → k.own = false) :
    ∃ (v0 : Value) (ι' : Nat → Emb) (h' : H) (l : List Int), Rel Tryd.prog E0 ι' h' w ∧ (∀ b k, h'.blk b = some k → k.own = false) ∧ Ext h h' ∧ (∀ b, b < h.nx → ι' b = ι b) ∧
      VR ι' h'.nx v0 v ∧ SlR h' 3 1 v0 (l.map fun z => [iv z]) := by
  have hu : Tryd.prog.underlying 23 = some (.slice 3) := by kernel_rfl
  simp only [Value.okWide, hu] at hv
  have hy : ∃ a len cap, v = .slice a len cap := by
    simp only [Cell.okWide, hu] at hv
    cases v <;> simp_all [Cell.ok]
  obtain ⟨a, len, cap, rfl⟩ := hy
  obtain ⟨ι', h', v0, l, g1, g2, g3, g4, g5, g6, g7⟩ := open_flat r hro hu sz3 cellsOf3 (by decide) (Q := fun x => ∃ z : Int, x = [iv z]) flat3 (by
    rintro cs ⟨c, rfl⟩
    exact ⟨rfl, fun v hv => by simp at hv; subst hv; exact ⟨_, _, rfl⟩⟩) (by rw [bytes3]; exact Nat.succ_pos _) hwt (okWide_has hu hv) hd
  obtain ⟨l', rfl⟩ := ints_of l g7
  exact ⟨v0, ι', h', l', g1, g2, g3, g4, g5, g6⟩

/-! ### Streets and numbers that came in -/
/-! ### The table -/
open Go.Proofs.YtakhklelgcfgjaaDoor
theorem glTab : Tryd.prog.globalNamed "math/bits.deBruijn64tab" = some 1 := by kernel_rfl

theorem tyTab : (Tryd.prog.globals[1]?).map (·.type) = some 136 := by kernel_rfl

theorem under136 : Tryd.prog.underlying 136 = some (.array 64 5) := by kernel_rfl

theorem under5 : Tryd.prog.underlying 5 = some (.int .u8) := by kernel_rfl

theorem cellsOf5 : Tryd.prog.cellsOf 5 = 1 := by kernel_rfl

/-- What the rows say of the package-level variables. -/
def laidT : List (String × DataW Unit) := [("math/bits.deBruijn32tab", Rows.laid_math_bits_deBruijn32tab), ("math/bits.deBruijn64tab", Rows.laid_math_bits_deBruijn64tab)]

theorem laid64_eq : (Rows.laid_math_bits_deBruijn64tab : DataW Unit) = .agg (tab64.map fun n => .lit (.int .u8 n)) := by kernel_rfl

theorem tab_len : tab64.length = 64 := by decide

set_option maxRecDepth 100000 in
/-- What the condition gives: each cell of the table. -/
theorem of_laid {W : World} (h : laidMetH Tryd.prog laidT W) (i : Nat) (z : Int) (hz : tab64[i]? = some z) : W.cell? ⟨1, i, none⟩ = some (.int .u8 z) := by
  rw [MakeChecks.laidMetH_plain _ _ _ (by kernel_rfl)] at h
  obtain ⟨ps, ⟨g0, t0, cs0, f0, p0, q0, hg0, ht0, hv0, hd0, ⟨g1, t1, cs1, f1, p1, q1, hg1, ht1, hv1, hd1, _, _⟩, _⟩, _, _⟩ := h
  obtain rfl := Option.some.inj (glTab.symm.trans hg1)
  obtain rfl := Option.some.inj (tyTab.symm.trans ht1)
  obtain ⟨xs, m1, rfl, hx1, hlen, hn3, hel⟩ := DataW.trod_array under136 hd1
  have hi : i < 64 := by rw [← tab_len]; exact (List.getElem?_eq_some_iff.1 hz).1
  have h0 := hel i hi
  rw [cellsOf5, Nat.mul_one] at h0
  have hxi : xs[i]? = some xs[i] := List.getElem?_eq_getElem (by omega)
  rw [hxi] at h0
  obtain ⟨k, e1, e2, _⟩ := DataW.trod_int under5 h0
  have hx2 : DataW.agg (tab64.map fun n => DataW.lit (.int .u8 n)) = DataW.agg (xs.map (·.1)) := by
    rw [← laid64_eq]
    exact congrArg Prod.fst hx1
  have hx3 : (tab64.map fun n => (DataW.lit (.int .u8 n) : DataW Unit)) = xs.map (·.1) := by
    exact DataW.agg.inj hx2
  have hx4 := congrArg (·[i]?) hx3
  simp only [List.getElem?_map, hz, hxi, Option.map_some, Option.some.injEq] at hx4
  rw [e2] at hx4
  have hk : z = k := by
    have h5 : (DataW.lit (Lit.int .u8 z) : DataW Unit) = DataW.lit (Lit.int .u8 k) := hx4
    exact (Lit.int.inj (DataW.lit.inj h5)).2
  subst hk
  rw [World.var?_cell hg1 hv1 i]
  have hcl : cs1.toList[i]? = some (.int .u8 z) := by
    have := congrArg (·[0]?) e1
    simpa [List.getElem?_take, List.getElem?_drop] using this
  simpa using hcl

/-- The beginning: the table alone. -/
def hTab : H := ⟨fun b => if b = 1 then some (.row (tab64.map fun n => .int .u8 n) 5 false) else none, 2, 0⟩

def ιTab : Nat → Emb := fun g => ⟨g, 0, 64, 1⟩

set_option maxRecDepth 100000 in
theorem rel_tab {W : World} (h : laidMetH Tryd.prog laidT W) : Rel Tryd.prog E0 ιTab hTab W := by
  have hc := of_laid h
  have h0 := hc 0 0 (by decide)
  have hsz : 1 < W.heap.size := by
    unfold World.cell? at h0
    split at h0
    · rename_i hb
      rcases Nat.lt_or_ge 1 W.heap.size with h1 | h1
      · exact h1
      · rw [Array.getElem?_eq_none h1] at hb; cases hb
    · cases h0
  have hrow : ∀ n, BlkR Tryd.prog ιTab n W 1 (.row (tab64.map fun n => .int .u8 n) 5 false) := by
    intro n
    refine ⟨hsz, sz5, fun i v hv => ?_⟩
    rw [List.getElem?_map] at hv
    obtain ⟨z, hz, rfl⟩ := Option.map_eq_some_iff.1 hv
    refine ⟨.int .u8 z, ?_, .int .u8 z⟩
    have := hc i z hz
    simpa [ιTab] using this
  refine ⟨fun b k hb => ?_, fun b k hb => ?_, fun b b' k k' hb _ _ ho => ?_, Nat.le_refl _, fun g _ => ⟨rfl, rfl⟩, fun g hg => ?_, fun g k hg hk => ?_⟩
  · simp only [hTab] at hb ⊢
    split at hb
    · omega
    · cases hb
  · simp only [hTab] at hb
    split at hb
    · rename_i h1
      subst h1
      cases hb
      exact hrow _
    · cases hb
  · simp only [hTab] at hb
    split at hb
    · cases hb; cases ho
    · cases hb
  · simp only [hTab, E0]
  · simp only [E0] at hk
    split at hk
    · rename_i h1
      subst h1
      cases hk
      exact ⟨rfl, hrow _⟩
    · cases hk

theorem ro_tab : ∀ b k, hTab.blk b = some k → k.own = false := by
  intro b k hb
  simp only [hTab] at hb
  split at hb
  · cases hb; rfl
  · cases hb

end Go.AM

end

section

/- Slices of slices of numbers that a statement is handed, in the abstract heap. -/
namespace Go.AM
open Go.Proofs Go.ChangeShapes Go.WideShapes Go.Deep
variable {HH : Type} {enc : TypeId × Value → HH} {w : World} {base : Nat} {held : Bool}
theorem weights_all {P : Program} {e : TypeId} {n : Nat} {d : DataW HH} : ∀ (l : List (DataW HH)), d ∈ l → n ∈ d.weights P e → n ∈ DataW.weightsAll P e l := by
  intro l
  induction l with
  | nil => intro h; cases h
  | cons x l ih =>
    intro h hn
    unfold DataW.weightsAll
    rw [List.mem_append]
    rcases List.mem_cons.1 h with rfl | h
    · exact .inl hn
    · exact .inr (ih h hn)

/-- One row. -/
theorem open_row {ι : Nat → Emb} {h : H} (r : Rel Tryd.prog E0 ι h w) (hro : ∀ b k, h.blk b = some k → k.own = false) {A : Option Addr} {L C : Nat} {zs : List Int} {gb : Nat} (hgb : gb < w.heap.size) (hLC : L ≤ C) (hz : zs.length = C) (hU : C < U)
    (hnone : A = none → C = 0) (hcell : ∀ a', A = some a' → ∀ c, c < C → w.cell? (a'.add c) = some (.int .i64 (zs.getD c 0))) :
    ∃ (ι' : Nat → Emb) (h' : H) (v0 : Value), Rel Tryd.prog E0 ι' h' w ∧ (∀ b k, h'.blk b = some k → k.own = false) ∧ Ext h h' ∧ (∀ b, b < h.nx → ι' b = ι b) ∧ VR ι' h'.nx v0 (.slice A L C) ∧ SlR h' 3 1 v0 (cellsI (zs.take L)) ∧ ∃ a n c, v0 = .slice a n c := by
  cases A with
  | none =>
    have := hnone rfl
    subst this
    obtain rfl : L = 0 := by omega
    exact ⟨ι, h, .slice none 0 0, r, hro, .refl _, fun _ _ => rfl, .slNil, by rw [List.take_zero]; exact .nil, _, _, _, rfl⟩
  | some a' =>
    by_cases hC : C = 0
    · subst hC
      obtain rfl : L = 0 := by omega
      have hnew := r.addRO hro (cs := []) (e := 3) (m := ⟨gb, 0, 0, 1⟩) hgb sz3 (by intro i v hv; simp at hv)
      refine ⟨_, _, .slice (some ⟨h.nx, 0, none⟩) 0 0, hnew.1, hnew.2, .new _ _, fun b hb => Emb.new_lt ι _ _ hb, .sl0 (Nat.lt_succ_self _) (by decide), ?_, _, _, _, rfl⟩
      rw [List.take_zero]
      exact SlR.at_ (l := []) (Nat.lt_succ_self _) (blk_new_self _ _) (by decide) (by decide) (by simp) (fun i x hx => by simp at hx)
    · obtain ⟨hlt, hsp⟩ := cell_lt (hcell a' rfl 0 (by omega))
      have h0 : a'.add 0 = a' := by simp [Addr.add]
      rw [h0] at hlt hsp
      have hadd : ∀ c, (a'.add c) = ⟨a'.block, a'.off + c, none⟩ := fun c => by
        unfold Addr.add
        obtain ⟨ab, ao, asp⟩ := a'
        simp only at hsp
        subst hsp
        by_cases hc : c = 0 <;> simp [hc]
      have hrow : (cellsI (zs.take L)).flatten = (zs.take L).map iv := by
        generalize zs.take L = q
        induction q with
        | nil => rfl
        | cons x q ih => simp at ih ⊢; exact ih
      have hnew := r.addRO hro (cs := (cellsI (zs.take L)).flatten) (e := 3) (m := ⟨a'.block, a'.off, a'.off + C * 1, 1⟩) hlt sz3 (by
        intro i v hv
        rw [hrow, List.getElem?_map] at hv
        obtain ⟨z, hz1, rfl⟩ := Option.map_eq_some_iff.1 hv
        have hi := (List.getElem?_eq_some_iff.1 hz1).1
        rw [List.length_take] at hi
        rw [List.getElem?_take_of_lt (by omega)] at hz1
        have := hcell a' rfl i (by omega)
        rw [hadd, List.getD_eq_getElem?_getD, hz1] at this
        exact ⟨_, this, .int _ _⟩)
      have hLl : (zs.take L).length = L := by rw [List.length_take]; omega
      refine ⟨_, _, .slice (some ⟨h.nx, 0, none⟩) L (U + L), hnew.1, hnew.2, .new _ _, fun b hb => Emb.new_lt ι _ _ hb, ?_, ?_, _, _, _, rfl⟩
      · have := VR.sl (ι := Emb.new ι h.nx ⟨a'.block, a'.off, a'.off + C * 1, 1⟩) (n := h.nx + 1) (b := h.nx) (o := 0) (l := L) (c := U + L) (c' := C) (Nat.lt_succ_self _) (.inr ⟨Nat.le_add_right _ _, by omega⟩)
          (by rw [capK_U]; exact Nat.le_refl _) (by rw [Emb.new_at]; simp)
        rw [Emb.new_at] at this
        obtain ⟨ab, ao, asp⟩ := a'
        simp only at hsp
        subst hsp
        exact this
      · have := SlR.at_ (h := h.new (.row (cellsI (zs.take L)).flatten 3 false)) (e := 3) (s := 1) (b := h.nx) (o := 0) (c := U + L) (l := cellsI (zs.take L)) (Nat.lt_succ_self _) (blk_new_self _ _)
          (by rw [capK_U, List.length_map, hLl]; exact Nat.le_refl _) (by rw [capK_U]; omega) (by rw [List.length_map, hLl, hrow, List.length_map, hLl]; omega) (fun i x hi => by
            rw [List.getElem?_map] at hi
            obtain ⟨z, hz1, rfl⟩ := Option.map_eq_some_iff.1 hi
            refine ⟨rfl, fun j hj => ?_⟩
            obtain rfl : j = 0 := by simpa using hj
            rw [hrow, Nat.zero_add, Nat.mul_one, Nat.add_zero, List.getElem?_map, hz1]; rfl)
        rw [List.length_map, hLl] at this
        exact this

theorem flat_one : ∀ q : List Value, (q.map fun x => [x]).flatten = q
  | [] => rfl
  | x :: q => by rw [List.map_cons, List.flatten_cons, flat_one q]; rfl

theorem under68 : Tryd.prog.underlying 68 = some (.slice 22) := by kernel_rfl

theorem cellsOf22 : Tryd.prog.cellsOf 22 = 1 := by kernel_rfl

set_option maxRecDepth 100000 in
/-- A slice of slices that came in. -/
theorem open_rows {rr : Reach} {b0 : Nat} {v : Value} {d : DataW HH} {ps : List MemPlace} (hv : Value.okWide Tryd.prog w rr b0 68 v) (hwt : ∀ x ∈ d.weights Tryd.prog 68, x ≤ reachBytes)
    (hd : DataW.Trod enc Tryd.prog w base (fun _ => true) held 68 v d ps) {ι : Nat → Emb} {h : H} (r : Rel Tryd.prog E0 ι h w) (hro : ∀ b k, h.blk b = some k → k.own = false) :
    ∃ (v0 : Value) (ι' : Nat → Emb) (h' : H) (vs : List Value) (LL : List (List Int)), Rel Tryd.prog E0 ι' h' w ∧ (∀ b k, h'.blk b = some k → k.own = false) ∧ Ext h h' ∧ (∀ b, b < h.nx → ι' b = ι b) ∧
      VR ι' h'.nx v0 v ∧ SlR h' 22 1 v0 (cellsV vs) ∧ AllSl vs ∧ LSI h' vs LL := by
  simp only [Value.okWide, under68] at hv
  have hy : ∃ a len cap, v = .slice a len cap := by
    simp only [Cell.okWide, under68] at hv
    cases v <;> simp_all [Cell.ok]
  obtain ⟨a, len, cap, rfl⟩ := hy
  have hhas := okWide_has under68 hv
  obtain ⟨fuel, hf⟩ := hd
  rcases open_int_rows under68 under22 under3 cellsOf22 cellsOf3 hf with ⟨hcs, _⟩ | ⟨a', len', cap', A, L, C, Z, hcs, hb, hlc, hcm, hx, each⟩
  · simp [Value.cells] at hcs
    obtain ⟨rfl, rfl, rfl⟩ := hcs
    exact ⟨.slice none 0 0, ι, h, [], [], r, hro, .refl _, fun _ _ => rfl, .slNil, .nil, (fun x hx => by cases hx), rfl, fun i x m hi => by simp at hi⟩
  · simp [Value.cells] at hcs
    obtain ⟨rfl, rfl, rfl⟩ := hcs
    obtain ⟨hsp, hgl⟩ := hhas a' rfl
    have hdd : d = _ := congrArg Prod.fst hx
    have hr22 : reachBytes < U := by decide
    have hlen : len < U := by
      have h1 := hwt ((((List.range len).map fun r => intRow (H := HH) .i64 (A r) (L r) (Z r)).length + ((List.range (cap - len)).map fun j => intRow (H := HH) .i64 (A (len + j)) (L (len + j)) (Z (len + j))).length) * Tryd.prog.bytesOf 22) (by rw [hdd]; simp [DataW.weights, under68])
      rw [List.length_map, List.length_range] at h1
      have h2 : Tryd.prog.bytesOf 22 = 24 := by kernel_rfl
      rw [h2] at h1
      omega
    have hC : ∀ r, r < len → C r < U := by
      intro i hi
      obtain ⟨_, e2, e3, e4, _, e6, _⟩ := each i (by omega)
      cases hA : A i with
      | none => rw [e6 hA]; decide
      | some ai =>
        have h1 := hwt ((lits (H := HH) .i64 ((Z i).take (L i))).length * 8 + (lits (H := HH) .i64 ((Z i).drop (L i))).length * 8) (by
          rw [hdd]
          simp only [DataW.weights, under68]
          refine List.mem_cons_of_mem _ (List.mem_append_left _ (weights_all _ (List.mem_map.2 ⟨i, List.mem_range.2 hi, rfl⟩) ?_))
          rw [hA]
          simp only [intRow, DataW.weights, under22, bytes3]
          rw [← Nat.add_mul]
          exact List.mem_cons_self)
        have hl1 : ∀ q : List Int, (lits (H := HH) .i64 q).length = q.length := fun q => by simp [lits]
        rw [hl1, hl1, List.length_take, List.length_drop, e4] at h1
        omega
    have key : ∀ n, n ≤ len → ∃ (ι' : Nat → Emb) (h' : H) (vs : List Value), Rel Tryd.prog E0 ι' h' w ∧ (∀ b k, h'.blk b = some k → k.own = false) ∧ Ext h h' ∧ (∀ b, b < h.nx → ι' b = ι b) ∧ vs.length = n ∧ AllSl vs ∧
        ∀ i, i < n → ∃ x, vs[i]? = some x ∧ VR ι' h'.nx x (.slice (A i) (L i) (C i)) ∧ SlR h' 3 1 x (cellsI ((Z i).take (L i))) := by
      intro n
      induction n with
      | zero => intro _; exact ⟨ι, h, [], r, hro, .refl _, fun _ _ => rfl, rfl, (fun x hx => by cases hx), fun i hi => by omega⟩
      | succ n ih =>
        intro hn
        obtain ⟨ι1, h1, vs, a1, a2, a3, a4, a5, a6, a7⟩ := ih (by omega)
        obtain ⟨e1, e2, e3, e4, e5, e6, e7⟩ := each n (by omega)
        obtain ⟨ι2, h2, v0, c1, c2, c3, c4, c5, c6, c7⟩ := open_row a1 a2 (A := A n) (L := L n) (C := C n) (zs := Z n) hgl e2 e4 (hC n (by omega)) e6 (fun a' ha' c hc => (e7 a' ha').2 c hc)
        refine ⟨ι2, h2, vs ++ [v0], c1, c2, a3.trans c3, fun b hb => (c4 b (Nat.lt_of_lt_of_le hb a3.nx)).trans (a4 b hb), by rw [List.length_append, a5]; rfl, ?_, ?_⟩
        · intro x hx
          rw [List.mem_append, List.mem_singleton] at hx
          rcases hx with hx | rfl
          · exact a6 x hx
          · exact c7
        · intro i hi
          by_cases hin : i < n
          · obtain ⟨x, b1, b2, b3⟩ := a7 i hin
            exact ⟨x, by rw [List.getElem?_append_left (by omega)]; exact b1, b2.mono c3.nx c4, b3.ext c3⟩
          · obtain rfl : i = n := by omega
            refine ⟨v0, ?_, c5, c6⟩
            rw [← a5, List.getElem?_append_right (Nat.le_refl _), Nat.sub_self]; rfl
    obtain ⟨ι1, h1, vs, a1, a2, a3, a4, a5, a6, a7⟩ := key len (Nat.le_refl _)
    have hflat : (cellsV vs).flatten = vs := flat_one vs
    have hadd : ∀ c, (a'.add c) = ⟨a'.block, a'.off + c, none⟩ := fun c => by
      unfold Addr.add
      obtain ⟨ab, ao, asp⟩ := a'
      simp only at hsp
      subst hsp
      by_cases hc : c = 0 <;> simp [hc]
    have hnew := a1.addRO a2 (cs := (cellsV vs).flatten) (e := 22) (m := ⟨a'.block, a'.off, a'.off + cap * 1, 1⟩) hgl sz22 (by
      intro i v hv
      rw [hflat] at hv
      have hi := (List.getElem?_eq_some_iff.1 hv).1
      obtain ⟨x, b1, b2, _⟩ := a7 i (by omega)
      rw [hv] at b1
      cases b1
      have := (each i (by omega)).1
      rw [hadd] at this
      exact ⟨_, this, b2⟩)
    have xn := Ext.new h1 (.row (cellsV vs).flatten 22 false)
    refine ⟨.slice (some ⟨h1.nx, 0, none⟩) len (U + len), _, _, vs, (List.range len).map fun r => (Z r).take (L r), hnew.1, hnew.2, a3.trans xn, fun b hb => (Emb.new_lt ι1 _ _ (Nat.lt_of_lt_of_le hb a3.nx)).trans (a4 b hb), ?_, ?_, a6, ?_, ?_⟩
    · have := VR.sl (ι := Emb.new ι1 h1.nx ⟨a'.block, a'.off, a'.off + cap * 1, 1⟩) (n := h1.nx + 1) (b := h1.nx) (o := 0) (l := len) (c := U + len) (c' := cap) (Nat.lt_succ_self _) (.inr ⟨Nat.le_add_right _ _, by omega⟩)
        (by rw [capK_U]; exact Nat.le_refl _) (by rw [Emb.new_at]; simp)
      rw [Emb.new_at] at this
      obtain ⟨ab, ao, asp⟩ := a'
      simp only at hsp
      subst hsp
      exact this
    · have := SlR.at_ (h := h1.new (.row (cellsV vs).flatten 22 false)) (e := 22) (s := 1) (b := h1.nx) (o := 0) (c := U + len) (l := cellsV vs) (Nat.lt_succ_self _) (blk_new_self _ _)
        (by rw [capK_U, List.length_map, a5]; exact Nat.le_refl _) (by rw [capK_U]; exact hlen) (by rw [hflat, List.length_map, a5]; omega) (fun i x hi => by
          rw [List.getElem?_map] at hi
          obtain ⟨z, hz1, rfl⟩ := Option.map_eq_some_iff.1 hi
          refine ⟨rfl, fun j hj => ?_⟩
          obtain rfl : j = 0 := by simpa using hj
          rw [hflat, Nat.zero_add, Nat.mul_one, Nat.add_zero, hz1]; rfl)
      rw [List.length_map, a5] at this
      exact this
    · rw [List.length_map, List.length_range, a5]
    · intro i x m hx hm
      have hi : i < len := by rw [← a5]; exact (List.getElem?_eq_some_iff.1 hx).1
      obtain ⟨y, b1, _, b3⟩ := a7 i hi
      rw [hx] at b1
      cases b1
      rw [List.getElem?_map, List.getElem?_range hi] at hm
      cases hm
      exact b3.ext xn

end Go.AM

end
