/- Parts of the proof, put together: the abstract machine, what the functions of the program answer, and plain laws. -/
import Derived.Test.YtakhklelgcfgjaaDoorRows
import Derived.LaidMore
import Derived.Stop.Joined
import Derived.ProofKit
import Derived.OpenShut
import Derived.Test.YtakhklelgcfgjaaDoorWy6

section
namespace Go.AM
open Go.Proofs
variable {R : Type}
/-- A valid graph and two nodes. -/
def okW (l : List Int) (a b : Int) : Bool := validG l && ((decide (0 ≤ a) && decide (a < (l.length : Int))) && ((decide (0 ≤ b) && decide (b < (l.length : Int))) && !decide (a = b)))
theorem okW_nat {l : List Int} {a b : Int} (h : okW l a b = true) : ∃ (g : List Nat) (s t : Nat), l = g.map Int.ofNat ∧ GrN g ∧ validG (g.map Int.ofNat) = true ∧ a = (s : Int) ∧ b = (t : Int) ∧ s < g.length ∧ t < g.length ∧ s ≠ t := by
  unfold okW at h
  simp only [Bool.and_eq_true, decide_eq_true_eq, Bool.not_eq_true', decide_eq_false_iff_not] at h
  obtain ⟨hv, ⟨h1, h2⟩, ⟨h3, h4⟩, h5⟩ := h
  obtain ⟨g, rfl, hg⟩ := valid_nat hv
  rw [List.length_map] at h2 h4
  exact ⟨g, a.toNat, b.toNat, rfl, hg, hv, by omega, by omega, by omega, by omega, by omega⟩
theorem decEq (a b : Int) : AM.eq a b = decide (a = b) := rfl
section
variable {h : H} {v : Value} {l : List Int} {n0 n1 : Int}
theorem s58_bad (hs0 : SlR h 3 1 v (cellsI l)) (hok : okW l n0 n1 = false) : f58 rcG 100 v n0 n1 h = some (.tuple #[.slice none 0 0, iv 2], h) := by
  have e63 := s63 hs0
  have c63 := fun (K : Value → H → Option (Value × H)) => (rcG_ne (by decide) (by decide)).trans (calls_eq (K := K) (xs := [v]) e63)
  cases hv : validG l with
  | false =>
    rw [hv] at c63
    unfold f58
    rw [c63]
    rfl
  | true =>
    obtain ⟨g, rfl, hg⟩ := valid_nat hv
    rw [cellsN_eq] at hs0
    rw [hv, if_pos rfl] at c63
    have c79 := fun (z : Int) (K : Value → H → Option (Value × H)) => (rcG_ne (by decide) (by decide)).trans (calls_eq (K := K) (xs := [v, iv z]) (s79 (z := z) hs0))
    unfold f58
    rw [c63, ext20, ext21, asB_bool, Bool.not_true, ifB_false, c79, asB_bool]
    unfold okW at hok
    rw [hv, Bool.true_and, List.length_map, show (decide (0 ≤ n0) && decide (n0 < (g.length : Int))) = nodeB g n0 from rfl, show (decide (0 ≤ n1) && decide (n1 < (g.length : Int))) = nodeB g n1 from rfl] at hok
    cases h0 : nodeB g n0 with
    | false => rfl
    | true =>
      rw [Bool.not_true, ifB_false, c79, asB_bool]
      rw [h0, Bool.true_and] at hok
      cases h1 : nodeB g n1 with
      | false => rfl
      | true =>
        rw [Bool.not_true, ifB_false, decEq]
        rw [h1, Bool.true_and] at hok
        rw [show decide (n0 = n1) = true by simpa using hok, ifB_true]
theorem s59_bad (hs0 : SlR h 3 1 v (cellsI l)) (hok : okW l n0 n1 = false) : rn 59 #[v, iv n0, iv n1] h = some (.tuple #[iv 0, iv 2], h) := by
  have e63 := s63 hs0
  have c63 := fun (K : Value → H → Option (Value × H)) => calls_eq (K := K) (xs := [v]) e63
  refine p59 (k := 2000) (h1 := h) ?_ rfl (.refl _)
  cases hv : validG l with
  | false =>
    rw [hv] at c63
    unfold f59
    rw [c63]
    rfl
  | true =>
    obtain ⟨g, rfl, hg⟩ := valid_nat hv
    rw [cellsN_eq] at hs0
    rw [hv, if_pos rfl] at c63
    have c79 := fun (z : Int) (K : Value → H → Option (Value × H)) => calls_eq (K := K) (xs := [v, iv z]) (s79 (z := z) hs0)
    unfold f59
    rw [c63, ext20, ext21, asB_bool, Bool.not_true, ifB_false, c79, asB_bool]
    unfold okW at hok
    rw [hv, Bool.true_and, List.length_map, show (decide (0 ≤ n0) && decide (n0 < (g.length : Int))) = nodeB g n0 from rfl, show (decide (0 ≤ n1) && decide (n1 < (g.length : Int))) = nodeB g n1 from rfl] at hok
    cases h0 : nodeB g n0 with
    | false => rfl
    | true =>
      rw [Bool.not_true, ifB_false, c79, asB_bool]
      rw [h0, Bool.true_and] at hok
      cases h1 : nodeB g n1 with
      | false => rfl
      | true =>
        rw [Bool.not_true, ifB_false, decEq]
        rw [h1, Bool.true_and] at hok
        rw [show decide (n0 = n1) = true by simpa using hok, ifB_true]
/-- The program's Cut. -/
noncomputable def cutA (g : List Nat) (s t : Nat) : Int × Int := if adj g s t = true then (0, 2) else ((cutP g s t : Nat), 0)
theorem s59 {g : List Nat} {s t : Nat} (hg : GrN g) (hval : validG (g.map Int.ofNat) = true) (hs0 : SlR h 3 1 v (cellsN g)) (hs : s < g.length) (ht : t < g.length) (hst : s ≠ t) : rn 59 #[v, iv s, iv t] h = some (.tuple #[iv (cutA g s t).1, iv (cutA g s t).2], h) := by
  have hlen := hg.len
  have hpow := hg.pow
  have e63 := s63 (v := v) (l := g.map Int.ofNat) (h := h) (by rw [cellsN_eq]; exact hs0)
  rw [if_pos hval] at e63
  have nd : ∀ {z : Nat}, z < g.length → nodeB g (z : Int) = true := fun {z} hz => by unfold nodeB; simp; omega
  have e79s := s79 (z := (s : Int)) hs0
  have e79t := s79 (z := (t : Int)) hs0
  rw [nd hs] at e79s
  rw [nd ht] at e79t
  have hn : ∀ {T : Type} (K : Int → Option T), len v K = K (g.length : Int) := fun K => by rw [hs0.len]; simp
  have c63 := fun (K : Value → H → Option (Value × H)) => calls_eq (K := K) (xs := [v]) e63
  have c79s := fun (K : Value → H → Option (Value × H)) => calls_eq (K := K) (xs := [v, iv s]) e79s
  have c79t := fun (K : Value → H → Option (Value × H)) => calls_eq (K := K) (xs := [v, iv t]) e79t
  have c80 := fun (K : Value → H → Option (Value × H)) => calls_eq (K := K) (xs := [v, iv s, iv t]) (s80 hg.toGrB hs0 hs ht)
  have c65 := fun (K : Value → H → Option (Value × H)) => calls_eq (K := K) (xs := [v]) (s65 hg.toGrB hs0)
  refine p59 (k := 2000) (h1 := h) ?_ rfl (.refl _)
  unfold f59 cutA
  rw [c63, ext20, ext21, asB_bool, Bool.not_true, ifB_false, c79s, asB_bool, Bool.not_true, ifB_false, c79t, asB_bool, Bool.not_true, ifB_false, eqN', decide_eq_false hst, ifB_false, c80, asB_bool]
  cases ha : adj g s t with
  | true => rfl
  | false => rw [ifB_false, c65, asI_int, hn, nn_ge (by omega), lp_eq (s59c hg hs0 hs ht), onE_exit, if_pos rfl, gv20, if_neg (by simp)]
open Classical in
/-- Ways, told. -/
noncomputable def g58 (args : Array Value) (h : H) : Option (Value × H) :=
  match args.toList with
  | [v0, .int .i64 n0, .int .i64 n1] =>
    match f58 rcG 100 v0 n0 n1 h with
    | some (v, h1) => if Ext h h1 then some (v, ⟨h1.blk, h1.nx, h.wr⟩) else none
    | none => none
  | _ => none
theorem g58_of {v0 v : Value} {h1 : H} (e : f58 rcG 100 v0 n0 n1 h = some (v, h1)) (x : Ext h h1) : g58 #[v0, iv n0, iv n1] h = some (v, ⟨h1.blk, h1.nx, h.wr⟩) := by
  unfold g58
  simp only [e, if_pos x]
theorem g58_sure (hmix : Tryd.prog.follows .mixedOrders = true) {args : Array Value} {h h' : H} {v : Value} (e : g58 args h = some (v, h')) : Sure Tryd.prog E0 58 args h v h' := by
  unfold g58 at e
  split at e
  · rename_i v0 n0 n1 ha
    split at e
    · rename_i v1 h1 e1
      split at e
      · rename_i x
        simp only [Option.some.injEq, Prod.mk.injEq] at e
        obtain ⟨rfl, rfl⟩ := e
        have ea : args = #[v0, iv n0, iv n1] := by
          cases args
          simp only at ha
          rw [ha]
        rw [ea]
        rw [← e58] at e1
        obtain ⟨v2, h2, g1, g2⟩ := bodyT_some e1
        cases g2
        have b := body_sound (rcG_sound hmix) (draw_ok hmix (rcG_sound hmix)) g1
        refine ⟨b.1, ⟨x.nx, Nat.le_refl _, fun _ q hq => x.blk q hq, b.2.1.2.2.2⟩, fun ι w args' r ha => (b.2.2 ι w args' r ha).mono ?_⟩
        rintro e2 w' ⟨v', ι', rfl, t, r1, hv⟩
        exact ⟨v', ι', rfl, ⟨t.nx, t.ext, t.os, t.tape, t.output, t.size, t.fr, t.own⟩, ⟨r1.dom, r1.blk, r1.inj, r1.ng, r1.glob, r1.globB, r1.globO⟩, hv⟩
      · cases e
    · cases e
  · cases e
/-- All told. -/
noncomputable def rcH : Rec := over rcG 58 g58
theorem rcH_sound (hmix : Tryd.prog.follows .mixedOrders = true) : SoundR Tryd.prog E0 rcH := over_sound (rcG_sound hmix) fun _ _ _ _ e => g58_sure hmix e
theorem rcH_ne {f : FuncId} (h1 : f ≠ 114) (h2 : f ≠ 101) (h3 : f ≠ 58) {h : H} {xs : List Value} {R : Type} {K : Value → H → Option R} : calls rcH h f xs K = calls rn h f xs K := (calls_over h3).trans (rcG_ne h1 h2)
theorem k58_bad (hs0 : SlR h 3 1 v (cellsI l)) (hok : okW l n0 n1 = false) (K : Value → H → Option R) : calls rcH h 58 [v, iv n0, iv n1] K = K (.tuple #[.slice none 0 0, iv 2]) h :=
  calls_at (g58_of (s58_bad hs0 hok) (.refl _))
theorem k58 (hmix : Tryd.prog.follows .mixedOrders = true) {g : List Nat} {s t : Nat} (hg : GrN g) (hval : validG (g.map Int.ofNat) = true) (hs0 : SlR h 3 1 v (cellsN g)) (hs : s < g.length) (ht : t < g.length) (hst : s ≠ t) :
    ∃ ov h' vs first w, (∀ {R : Type} (K : Value → H → Option R), calls rcH h 58 [v, iv s, iv t] K = K (.tuple #[ov, iv 0]) h') ∧ Exw h h' ∧ SlR h' 22 1 ov (cellsV vs) ∧ AllSl vs ∧ LSI h' vs ((elts first).map fun u => (s :: u :: w u).map Int.ofNat) ∧ WaysR g s t first w := by
  obtain ⟨ov, h1, vs, first, w, e, x, q1, q2, q3, q4⟩ := s58 hmix hg hval hs0 hs ht hst
  have x' : Ext h1 ⟨h1.blk, h1.nx, h.wr⟩ := ⟨Nat.le_refl _, fun _ _ => rfl⟩
  exact ⟨ov, ⟨h1.blk, h1.nx, h.wr⟩, vs, first, w, fun K => calls_at (g58_of e x), ⟨x.trans x', rfl⟩, q1.ext x', q2, q3.ext x', q4⟩
end
section
variable {g : List Nat} {s t first : Nat} {w : Nat → List Nat}
/-- As many ways as_ can be. -/
theorem WaysR.most (r : WaysR g s t first w) (hg : GrB g) (hs : s < g.length) (ht : t < g.length) (hst : s ≠ t) : mostP g s t = (elts first).length := by
  obtain ⟨F, Rr, f, e, hF, _⟩ := r.ex
  have hc : cntN g.length (F s) = pop first := by
    rw [← cnt_pop hg r.fb]
    exact cnt_congr fun u _ => hF u
  obtain ⟨m0, m1⟩ := flow_min hg e f hs ht hst
  rw [elts_len, ← hc]
  unfold mostP
  by_cases ha : adj g s t = true
  · rw [if_pos ha]
    obtain ⟨k, hk, m⟩ := m1 ha
    have hl := delE_len g s t
    have ha' : adj (delE g s t) s t = false := by rw [adj_delE hs ht hst]; simp
    rw [m.pop (hg.delE s t) (by omega) hst ha', hk]
    omega
  · rw [if_neg ha]
    have ha' := Bool.eq_false_iff.2 ha
    exact (m0 ha').pop hg hs hst ha'
end
set_option maxHeartbeats 1000000 in
theorem s15 (hmix : Tryd.prog.follows .mixedOrders = true) (hawake : ∀ h, rn 20 #[] h = some (.bool true, h)) {h : H} {v : Value} {l : List Int} {n0 n1 : Int} (hs : SlR h 3 1 v (cellsI l)) : ∃ h', f15 rcH 0 v n0 n1 h = some (.bool true, h') := by
  obtain ⟨va, h1, e18a, x1, sa⟩ := s18 hs
  have k20 : ∀ (h : H) (K : Value → H → Option (Value × H)), calls rcH h 20 [] K = K (.bool true) h := fun h K => (rcH_ne (by decide) (by decide) (by decide)).trans (calls_eq (xs := []) (hawake h))
  have c18a := fun (K : Value → H → Option (Value × H)) => (rcH_ne (by decide) (by decide) (by decide)).trans (calls_eq (K := K) (xs := [v]) e18a)
  have hlv : ∀ {T : Type} {h' : H}, Ext h h' → ∀ (K : Int → Option T), len v K = K (l.length : Int) := fun x K => by rw [hs.len]; simp
  by_cases hok : okW l n0 n1 = true
  · obtain ⟨g, s, t, rfl, hg, hval, rfl, rfl, hsn, htn, hst⟩ := okW_nat hok
    have hlen := hg.len
    have hnb : nb g s < 1024 := Nat.lt_of_lt_of_le (hg.nb_lt s) hg.pow
    have htk : (g.map Int.ofNat).take 14 = g.map Int.ofNat := List.take_of_length_le (by rw [List.length_map]; omega)
    rw [htk] at sa
    rw [cellsN_eq] at sa hs
    obtain ⟨ov, h2, vs, first, w, k58, x2, q1, q2, q3, q4⟩ := k58 hmix hg hval sa hsn htn hst
    obtain ⟨vb, h3, e18b, x3, sb⟩ := s18 (h := h2) (v := v) (l := g.map Int.ofNat) (by rw [cellsN_eq]; exact (hs.ext x1.toExt).ext x2.toExt)
    rw [htk, cellsN_eq] at sb
    have x03 := (x1.toExt.trans x2.toExt).trans x3.toExt
    have hs3 := hs.ext x03
    have wI := q4.toI hg.toGrB hst
    have hmost := q4.most hg.toGrB hsn htn hst
    have hpl : (elts first).length ≤ 10 := by rw [elts_len]; exact pop_le_n (n := 10) (Nat.le_refl _) (Nat.lt_of_lt_of_le q4.fb hg.pow)
    have hvl : vs.length = (elts first).length := by rw [q3.1, List.length_map]
    have c18b := fun (K : Value → H → Option (Value × H)) => (rcH_ne (by decide) (by decide) (by decide)).trans (calls_eq (K := K) (xs := [v]) e18b)
    have c59 := fun (K : Value → H → Option (Value × H)) => (rcH_ne (by decide) (by decide) (by decide)).trans (calls_eq (K := K) (xs := [vb, iv s, iv t]) (s59 hg hval sb hsn htn hst))
    have c19 := fun (K : Value → H → Option (Value × H)) => (rcH_ne (by decide) (by decide) (by decide)).trans (calls_eq (K := K) (xs := [v]) (s19 (h := h3) (v := v) (l := g.map Int.ofNat) (by rw [cellsN_eq]; exact hs3)))
    have e38 : ∀ {z : Nat}, z < g.length → rn 38 #[v, iv z] h3 = some (.bool true, h3) := fun {z} hz => by
      rw [s38 (tv := v) (l := g.map Int.ofNat) (z := (z : Int)) (h := h3) (by rw [cellsN_eq]; exact hs3), List.length_map]
      simp [hz]
    have c38s := fun (K : Value → H → Option (Value × H)) => (rcH_ne (by decide) (by decide) (by decide)).trans (calls_eq (K := K) (xs := [v, iv s]) (e38 hsn))
    have c38t := fun (K : Value → H → Option (Value × H)) => (rcH_ne (by decide) (by decide) (by decide)).trans (calls_eq (K := K) (xs := [v, iv t]) (e38 htn))
    have c60 := fun (K : Value → H → Option (Value × H)) => (rcH_ne (by decide) (by decide) (by decide)).trans (calls_eq (K := K) (xs := [v, iv s, iv t, ov]) (s60 hg hs3 wI (by omega) (q1.ext x3.toExt) q2 (q3.ext x3.toExt) hsn))
    have c61 := fun (K : Value → H → Option (Value × H)) => (rcH_ne (by decide) (by decide) (by decide)).trans (calls_eq (K := K) (xs := [v, iv s, iv t]) (s61 hg hs3 hsn htn hst))
    have hlo : ∀ {T : Type} (K : Int → Option T), len ov K = K ((elts first).length : Nat) := fun K => by rw [q1.len, List.length_map, hvl]
    refine ⟨h3, ?_⟩
    unfold f15
    simp only [d3]
    rw [c18a, k58, ext20, ext21, asI_int, c18b, c59, ext20, asI_int, ext21, asI_int, c19, asB_bool, hval, Bool.not_true, ifB_false, c38s, asB_bool, Bool.not_true, ifB_false, c38t, asB_bool, Bool.not_true, ifB_false, eqN', decide_eq_false hst, ifB_false, show (!AM.eq 0 0) = false from rfl, ifB_false, c60, asB_bool, Bool.not_true, ifB_false, hlo, c61, asI_int, hmost, eqN', decide_eq_true rfl, Bool.not_true, ifB_false, k20, asB_bool, Bool.not_true, ifB_false, getN hs3 hsn, asI_int, nn_ge (by omega), bit1 (by omega) (by omega)]
    unfold cutA
    cases ha : adj g s t with
    | true => rw [show (nb g s).testBit t = true from ha]; rfl
    | false =>
      have c62 := fun (K : Value → H → Option (Value × H)) => (rcH_ne (by decide) (by decide) (by decide)).trans (calls_eq (K := K) (xs := [v, iv s, iv t]) (s62c hg.toGrB hs3 hsn htn hst ha))
      rw [show (nb g s).testBit t = false from ha, ifB_false, c62, asI_int, if_neg (by simp), decEq, decide_eq_true rfl, ifB_true]
      rfl
  · have hok' : okW l n0 n1 = false := Bool.eq_false_iff.2 hok
    have hokt : okW (l.take 14) n0 n1 = false := by
      cases hv : validG l with
      | false =>
        unfold okW
        rw [validG_take, hv]; rfl
      | true =>
        obtain ⟨g, rfl, hg⟩ := valid_nat hv
        have hlen := hg.len
        rw [List.take_of_length_le (by rw [List.length_map]; omega)]
        exact hok'
    have k58 := fun (K : Value → H → Option (Value × H)) => k58_bad sa hokt K
    obtain ⟨vb, h3, e18b, x3, sb⟩ := s18 (hs.ext x1.toExt)
    have c18b := fun (K : Value → H → Option (Value × H)) => (rcH_ne (by decide) (by decide) (by decide)).trans (calls_eq (K := K) (xs := [v]) e18b)
    have c59 := fun (K : Value → H → Option (Value × H)) => (rcH_ne (by decide) (by decide) (by decide)).trans (calls_eq (K := K) (xs := [vb, iv n0, iv n1]) (s59_bad sb hokt))
    have hs3 := (hs.ext x1.toExt).ext x3.toExt
    have c19 := fun (K : Value → H → Option (Value × H)) => (rcH_ne (by decide) (by decide) (by decide)).trans (calls_eq (K := K) (xs := [v]) (s19 hs3))
    have c38 := fun (z : Int) (K : Value → H → Option (Value × H)) => (rcH_ne (by decide) (by decide) (by decide)).trans (calls_eq (K := K) (xs := [v, iv z]) (s38 (z := z) hs3))
    refine ⟨h3, ?_⟩
    unfold f15
    rw [c18a, k58, ext20, ext21, asI_int, c18b, c59, ext20, asI_int, ext21, asI_int, c19, asB_bool]
    unfold okW at hok'
    have fin : ∀ (x : Option (Value × H)), x = (calls rcH h3 20 [] fun v10 h6 => asB v10 fun q1 => some ((.bool q1), h6)) → x = some (.bool true, h3) := fun x hx => by rw [hx, k20]; rfl
    cases hv : validG l with
    | false => exact fin _ rfl
    | true =>
      rw [hv, Bool.true_and] at hok'
      rw [Bool.not_true, ifB_false, c38, asB_bool]
      cases ha : (decide (0 ≤ n0) && decide (n0 < (l.length : Int))) with
      | false => exact fin _ rfl
      | true =>
        rw [ha, Bool.true_and] at hok'
        rw [Bool.not_true, ifB_false, c38, asB_bool]
        cases hb : (decide (0 ≤ n1) && decide (n1 < (l.length : Int))) with
        | false => exact fin _ rfl
        | true =>
          rw [hb, Bool.true_and] at hok'
          rw [Bool.not_true, ifB_false, decEq, show decide (n0 = n1) = true by simpa using hok']
          exact fin _ rfl
end Go.AM
end

section
namespace Go.AM
open Go.Proofs
noncomputable def awakeOk : Bool := match call Tryd.prog E0 60 20 #[] ⟨fun _ => none, 0, 0⟩ with
  | some (.bool b, _) => b
  | _ => false
theorem awake_run : awakeOk = true := by decide +kernel
theorem s20 (h : H) : rn 20 #[] h = some (.bool true, h) := by
  have ht := awake_run
  unfold awakeOk at ht
  split at ht
  · rename_i b h' hc
    subst ht
    exact run_iso (n := 59) (by rfl) (iso_any (by rfl) hc)
  · cases ht
end Go.AM
end

section
namespace Go.AM
open Go.Proofs Go.ChangeShapes
variable {HH : Type} {enc : TypeId × Value → HH} {w : World} {base : Nat} {held : Bool}
theorem flat3 (n : Nat) (cs : List Value) (x : DataW HH × List MemPlace) (h : DataW.trod enc Tryd.prog w base (fun _ => true) held n 3 cs = some x) : ∃ z : Int, cs = [iv z] := by
  obtain ⟨z, h1, _⟩ := DataW.trod_int (show Tryd.prog.underlying 3 = some (.int .i64) from by kernel_rfl) h
  exact ⟨z, h1⟩
theorem cellsOf3 : Tryd.prog.cellsOf 3 = 1 := by kernel_rfl
theorem under3 : Tryd.prog.underlying 3 = some (.int .i64) := by kernel_rfl
theorem bytes3 : Tryd.prog.bytesOf 3 = 8 := by kernel_rfl
theorem ints_of : ∀ (l : List (List Value)), (∀ x ∈ l, ∃ z : Int, x = [iv z]) → ∃ l' : List Int, l = l'.map fun z => [iv z] := by
  intro l
  induction l with
  | nil => intro _; exact ⟨[], rfl⟩
  | cons x l ih =>
    intro h
    obtain ⟨c, hc⟩ := h x (by simp)
    obtain ⟨l', hl⟩ := ih (fun y hy => h y (List.mem_cons_of_mem _ hy))
    exact ⟨c :: l', by rw [hc, hl]; rfl⟩
set_option maxRecDepth 100000 in
/-- A graph that came in. -/
theorem open_graph {rr : Reach} {b0 : Nat} {v : Value} {d : DataW HH} {ps : List MemPlace} (hv : Value.okWide Tryd.prog w rr b0 23 v) (hwt : ∀ x ∈ d.weights Tryd.prog 23, x ≤ reachBytes)
    (hd : DataW.Trod enc Tryd.prog w base (fun _ => true) held 23 v d ps) {ι : Nat → Emb} {h : H} (r : Rel Tryd.prog E0 ι h w) (hro : ∀ b k, h.blk b = some k → k.own = false) :
    ∃ (v0 : Value) (ι' : Nat → Emb) (h' : H) (l : List Int), Rel Tryd.prog E0 ι' h' w ∧ (∀ b k, h'.blk b = some k → k.own = false) ∧ Ext h h' ∧ (∀ b, b < h.nx → ι' b = ι b) ∧
      VR ι' h'.nx v0 v ∧ SlR h' 3 1 v0 (l.map fun z => [iv z]) := by
  have hu : Tryd.prog.underlying 23 = some (.slice 3) := by kernel_rfl
  simp only [Value.okWide, hu] at hv
  have hy : ∃ a len cap, v = .slice a len cap := by
    simp only [Cell.okWide, hu] at hv
    cases v <;> simp_all [Cell.ok]
  obtain ⟨a, len, cap, rfl⟩ := hy
  obtain ⟨ι', h', v0, l, g1, g2, g3, g4, g5, g6, g7⟩ := open_flat r hro hu sz3 cellsOf3 (by decide) (Q := fun x => ∃ z : Int, x = [iv z]) flat3 (by
    rintro cs ⟨c, rfl⟩
    exact ⟨rfl, fun v hv => by simp at hv; subst hv; exact ⟨_, _, rfl⟩⟩) (by rw [bytes3]; exact Nat.succ_pos _) hwt (okWide_has hu hv) hd
  obtain ⟨l', rfl⟩ := ints_of l g7
  exact ⟨v0, ι', h', l', g1, g2, g3, g4, g5, g6⟩
open Go.Proofs.YtakhklelgcfgjaaDoor
theorem glTab : Tryd.prog.globalNamed "math/bits.deBruijn64tab" = some 1 := by kernel_rfl
theorem tyTab : (Tryd.prog.globals[1]?).map (·.type) = some 136 := by kernel_rfl
theorem under136 : Tryd.prog.underlying 136 = some (.array 64 5) := by kernel_rfl
theorem under5 : Tryd.prog.underlying 5 = some (.int .u8) := by kernel_rfl
theorem cellsOf5 : Tryd.prog.cellsOf 5 = 1 := by kernel_rfl
/-- What the rows say of the package-level variables. -/
def laidT : List (String × DataW Unit) := [("math/bits.deBruijn32tab", Rows.laid_math_bits_deBruijn32tab), ("math/bits.deBruijn64tab", Rows.laid_math_bits_deBruijn64tab)]
theorem laid64_eq : (Rows.laid_math_bits_deBruijn64tab : DataW Unit) = .agg (tab64.map fun n => .lit (.int .u8 n)) := by kernel_rfl
theorem tab_len : tab64.length = 64 := by decide
set_option maxRecDepth 100000 in
/-- What the condition gives: each cell of the table. -/
theorem of_laid {W : World} (h : laidMetH Tryd.prog laidT W) (i : Nat) (z : Int) (hz : tab64[i]? = some z) : W.cell? ⟨1, i, none⟩ = some (.int .u8 z) := by
  rw [MakeChecks.laidMetH_plain _ _ _ (by kernel_rfl)] at h
  obtain ⟨ps, ⟨g0, t0, cs0, f0, p0, q0, hg0, ht0, hv0, hd0, ⟨g1, t1, cs1, f1, p1, q1, hg1, ht1, hv1, hd1, _, _⟩, _⟩, _, _⟩ := h
  obtain rfl := Option.some.inj (glTab.symm.trans hg1)
  obtain rfl := Option.some.inj (tyTab.symm.trans ht1)
  obtain ⟨xs, m1, rfl, hx1, hlen, hn3, hel⟩ := DataW.trod_array under136 hd1
  have hi : i < 64 := by rw [← tab_len]; exact (List.getElem?_eq_some_iff.1 hz).1
  have h0 := hel i hi
  rw [cellsOf5, Nat.mul_one] at h0
  have hxi : xs[i]? = some xs[i] := List.getElem?_eq_getElem (by omega)
  rw [hxi] at h0
  obtain ⟨k, e1, e2, _⟩ := DataW.trod_int under5 h0
  have hx2 : DataW.agg (tab64.map fun n => DataW.lit (.int .u8 n)) = DataW.agg (xs.map (·.1)) := by
    rw [← laid64_eq]
    exact congrArg Prod.fst hx1
  have hx3 : (tab64.map fun n => (DataW.lit (.int .u8 n) : DataW Unit)) = xs.map (·.1) := by
    exact DataW.agg.inj hx2
  have hx4 := congrArg (·[i]?) hx3
  simp only [List.getElem?_map, hz, hxi, Option.map_some, Option.some.injEq] at hx4
  rw [e2] at hx4
  have hk : z = k := by
    have h5 : (DataW.lit (Lit.int .u8 z) : DataW Unit) = DataW.lit (Lit.int .u8 k) := hx4
    exact (Lit.int.inj (DataW.lit.inj h5)).2
  subst hk
  rw [World.var?_cell hg1 hv1 i]
  have hcl : cs1.toList[i]? = some (.int .u8 z) := by
    have := congrArg (·[0]?) e1
    simpa [List.getElem?_take, List.getElem?_drop] using this
  simpa using hcl
/-- The beginning: the table alone. -/
def hTab : H := ⟨fun b => if b = 1 then some (.row (tab64.map fun n => .int .u8 n) 5 false) else none, 2, 0⟩
def ιTab : Nat → Emb := fun g => ⟨g, 0, 64, 1⟩
set_option maxRecDepth 100000 in
theorem rel_tab {W : World} (h : laidMetH Tryd.prog laidT W) : Rel Tryd.prog E0 ιTab hTab W := by
  have hc := of_laid h
  have h0 := hc 0 0 (by decide)
  have hsz : 1 < W.heap.size := by
    unfold World.cell? at h0
    split at h0
    · rename_i hb
      rcases Nat.lt_or_ge 1 W.heap.size with h1 | h1
      · exact h1
      · rw [Array.getElem?_eq_none h1] at hb; cases hb
    · cases h0
  have hrow : ∀ n, BlkR Tryd.prog ιTab n W 1 (.row (tab64.map fun n => .int .u8 n) 5 false) := by
    intro n
    refine ⟨hsz, sz5, fun i v hv => ?_⟩
    rw [List.getElem?_map] at hv
    obtain ⟨z, hz, rfl⟩ := Option.map_eq_some_iff.1 hv
    refine ⟨.int .u8 z, ?_, .int .u8 z⟩
    have := hc i z hz
    simpa [ιTab] using this
  refine ⟨fun b k hb => ?_, fun b k hb => ?_, fun b b' k k' hb _ _ ho => ?_, Nat.le_refl _, fun g _ => ⟨rfl, rfl⟩, fun g hg => ?_, fun g k hg hk => ?_⟩
  · simp only [hTab] at hb ⊢
    split at hb
    · omega
    · cases hb
  · simp only [hTab] at hb
    split at hb
    · rename_i h1
      subst h1
      cases hb
      exact hrow _
    · cases hb
  · simp only [hTab] at hb
    split at hb
    · cases hb; cases ho
    · cases hb
  · simp only [hTab, E0]
  · simp only [E0] at hk
    split at hk
    · rename_i h1
      subst h1
      cases hk
      exact ⟨rfl, hrow _⟩
    · cases hk
theorem ro_tab : ∀ b k, hTab.blk b = some k → k.own = false := by
  intro b k hb
  simp only [hTab] at hb
  split at hb
  · cases hb; rfl
  · cases hb
end Go.AM
end
