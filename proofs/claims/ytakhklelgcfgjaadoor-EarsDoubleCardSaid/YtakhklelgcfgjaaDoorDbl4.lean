/- Parts of the proof, put together: what the functions of the program answer, and plain laws. -/
import Derived.Test.YtakhklelgcfgjaaDoorAmRun
import Derived.Test.YtakhklelgcfgjaaDoorRows
import Derived.LaidMore
import Derived.Stop.Joined
import Derived.ProofKit
import Derived.OpenShut
import Derived.Deep.Matrix
import Derived.Test.YtakhklelgcfgjaaDoorDbl3

section

/- EarsDouble. -/
namespace Go.AM
open Go.Proofs
variable {R : Type}
/-- The end of the statement: numberings. -/
noncomputable def tail14 (v0 : Value) (n0 n1 : Int) (dq : Bool) (h0 : H) : Option (Value × H) :=
  calls rn h0 38 [v0, (.int .i64 n0)] fun v106 h63 =>
  asB v106 fun q39 =>
  ifB (not q39) (
    calls rn h63 20 [] fun v107 h64 =>
    asB v107 fun q40 =>
    some ((.bool q40), h64)) (
    calls rn h63 38 [v0, (.int .i64 n1)] fun v108 h65 =>
    asB v108 fun q41 =>
    ifB (not q41) (
      calls rn h65 20 [] fun v109 h66 =>
      asB v109 fun q42 =>
      some ((.bool q42), h66)) (
      six v0 n0 1 fun b24 b25 =>
      ld Tryd.prog h65 3 b24 b25 fun v110 =>
      asI .i64 v110 fun n46 =>
      nn n1 (
        ifB (eq (and .i64 (shr .i64 n46 n1) 1) 0) (
          calls rn h65 20 [] fun v111 h67 =>
          asB v111 fun q43 =>
          some ((.bool q43), h67)) (
          calls rn h65 18 [v0] fun v112 h68 =>
          calls rn h68 34 [v112, (.int .i64 n0), (.int .i64 n1)] fun v113 h69 =>
          ext v113 0 fun v114 =>
          ext v113 1 fun v115 =>
          asI .i64 v115 fun n47 =>
          ifB (not dq) (
            ifB (eq n47 5) (
              calls rn h69 20 [] fun v116 h70 =>
              asB v116 fun q44 =>
              some ((.bool q44), h70)) (
              some ((.bool false), h69))) (
            calls rn h69 18 [v0] fun v117 h71 =>
            calls rn h71 35 [v117, v114] fun v118 h72 =>
            ext v118 0 fun v119 =>
            asB v119 fun q45 =>
            ext v118 1 fun v120 =>
            asI .i64 v120 fun n48 =>
            ifB (eq n47 0) (
              ifB q45 (
                ifB (eq n48 0) (
                  len v114 fun n49 =>
                  len v0 fun n50 =>
                  ifB (eq n49 n50) (
                    six v114 0 1 fun b26 b27 =>
                    ld Tryd.prog h72 3 b26 b27 fun v121 =>
                    asI .i64 v121 fun n51 =>
                    ifB (eq n51 n0) (
                      len v114 fun n52 =>
                      six v114 (sub .i64 n52 1) 1 fun b28 b29 =>
                      ld Tryd.prog h72 3 b28 b29 fun v122 =>
                      asI .i64 v122 fun n53 =>
                      ifB (eq n53 n1) (
                        calls rn h72 20 [] fun v123 h73 =>
                        asB v123 fun q46 =>
                        some ((.bool q46), h73)) (
                        some ((.bool false), h72))) (
                      some ((.bool false), h72))) (
                    some ((.bool false), h72))) (
                  some ((.bool false), h72))) (
                some ((.bool false), h72))) (
              some ((.bool false), h72)))))))

theorem eq_nat {a b : Nat} : AM.eq (a : Int) (b : Int) = decide (a = b) := eqN

theorem adj_zeroB {g : List Nat} (hg : GrB g) {a b : Nat} (hb : b ≤ 64) : AM.eq (AM.and .i64 (shr .i64 (nb g a : Int) (b : Int)) 1) 0 = !adj g a b := by
  rw [adj_bit hg hb]
  cases adj g a b <;> rfl

/-- The beginning of the end: two neighbours, or nothing to say. -/
theorem tail_node (hawake : ∀ h, rn 20 #[] h = some (.bool true, h)) {v : Value} {g : List Nat} {s t : Int} {dq : Bool} {h : H} (hg : GrN g) (hs : SlR h 3 1 v (cellsN g))
    (hk : ∀ a b : Nat, s = a → t = b → a < g.length → b < g.length → adj g a b = true → ∃ h', tail14 v a b dq h = some (.bool true, h')) : ∃ h', tail14 v s t dq h = some (.bool true, h') := by
  have c20 := fun (g : H) (K : Value → H → Option (Value × H)) => calls_eq (K := K) (xs := []) (hawake g)
  have hlen := hg.len
  have c38 := fun (z : Int) (K : Value → H → Option (Value × H)) => calls_eq (K := K) (xs := [v, iv z]) (s38 (l := g.map Int.ofNat) (z := z) (h := h) (by rw [cellsN_eq]; exact hs))
  simp only [List.length_map] at c38
  have nd : ∀ z : Int, (decide (0 ≤ z) && decide (z < (g.length : Int))) = false ∨ ∃ a : Nat, z = a ∧ a < g.length ∧ (decide (0 ≤ z) && decide (z < (g.length : Int))) = true := fun z => by
    by_cases h1 : 0 ≤ z ∧ z < (g.length : Int)
    · exact .inr ⟨z.toNat, by omega, by omega, by rw [decide_eq_true h1.1, decide_eq_true h1.2]; rfl⟩
    · left
      rw [Bool.and_eq_false_iff, decide_eq_false_iff_not, decide_eq_false_iff_not]
      omega
  rcases nd s with h1 | ⟨a, rfl, ha, h1⟩
  · refine ⟨h, ?_⟩
    unfold tail14
    rw [c38, h1, asB_bool, show (!false) = true from rfl, ifB_true, c20]; rfl
  · rcases nd t with h2 | ⟨b, rfl, hb, h2⟩
    · refine ⟨h, ?_⟩
      unfold tail14
      rw [c38, h1, asB_bool, show (!true) = false from rfl, ifB_false, c38, h2, asB_bool, show (!false) = true from rfl, ifB_true, c20]; rfl
    · cases hab : adj g a b with
      | true => exact hk a b rfl rfl ha hb hab
      | false =>
        refine ⟨h, ?_⟩
        unfold tail14
        rw [c38, h1, asB_bool, show (!true) = false from rfl, ifB_false, c38, h2, asB_bool, show (!true) = false from rfl, ifB_false]
        simp only [d3]
        rw [getN hs ha, asI_int, nn_ge (show (0 : Int) ≤ (b : Int) by omega), adj_zeroB hg.toGrB (by omega), hab, show (!false) = true from rfl, ifB_true, c20]; rfl

theorem tail_start {v : Value} {g : List Nat} {a b : Nat} {dq : Bool} {h : H} (hg : GrN g) (hs : SlR h 3 1 v (cellsN g)) (ha : a < g.length) (hb : b < g.length) (hab : adj g a b = true) {h1 h2 : H} {v1 v2 : Value} {e : Int} (e18 : rn 18 #[v] h = some (v1, h1))
    (e34 : rn 34 #[v1, iv a, iv b] h1 = some (.tuple #[v2, iv e], h2)) : ∀ r, (ifB (not dq) (
            ifB (AM.eq e 5) (
              calls rn h2 20 [] fun v116 h70 =>
              asB v116 fun q44 =>
              some ((.bool q44), h70)) (
              some ((.bool false), h2))) (
            calls rn h2 18 [v] fun v117 h71 =>
            calls rn h71 35 [v117, v2] fun v118 h72 =>
            ext v118 0 fun v119 =>
            asB v119 fun q45 =>
            ext v118 1 fun v120 =>
            asI .i64 v120 fun n48 =>
            ifB (AM.eq e 0) (
              ifB q45 (
                ifB (AM.eq n48 0) (
                  len v2 fun n49 =>
                  len v fun n50 =>
                  ifB (AM.eq n49 n50) (
                    six v2 0 1 fun b26 b27 =>
                    ld Tryd.prog h72 3 b26 b27 fun v121 =>
                    asI .i64 v121 fun n51 =>
                    ifB (AM.eq n51 a) (
                      len v2 fun n52 =>
                      six v2 (sub .i64 n52 1) 1 fun b28 b29 =>
                      ld Tryd.prog h72 3 b28 b29 fun v122 =>
                      asI .i64 v122 fun n53 =>
                      ifB (AM.eq n53 b) (
                        calls rn h72 20 [] fun v123 h73 =>
                        asB v123 fun q46 =>
                        some ((.bool q46), h73)) (
                        some ((.bool false), h72))) (
                      some ((.bool false), h72))) (
                    some ((.bool false), h72))) (
                  some ((.bool false), h72))) (
                some ((.bool false), h72))) (
              some ((.bool false), h72)))) = r → tail14 v a b dq h = r := by
  intro r hr
  have hlen := hg.len
  have c38 := fun (z : Int) (K : Value → H → Option (Value × H)) => calls_eq (K := K) (xs := [v, iv z]) (s38 (l := g.map Int.ofNat) (z := z) (h := h) (by rw [cellsN_eq]; exact hs))
  simp only [List.length_map] at c38
  have nd : ∀ z : Nat, z < g.length → (decide ((0 : Int) ≤ (z : Int)) && decide ((z : Int) < (g.length : Int))) = true := fun z hz => by
    rw [decide_eq_true (by omega), decide_eq_true (by omega)]; rfl
  unfold tail14
  rw [c38, nd a ha, asB_bool, show (!true) = false from rfl, ifB_false, c38, nd b hb, asB_bool, show (!true) = false from rfl, ifB_false]
  simp only [d3]
  rw [getN hs ha, asI_int, nn_ge (show (0 : Int) ≤ (b : Int) by omega), adj_zeroB hg.toGrB (by omega), hab, show (!true) = false from rfl, ifB_false, calls_eq (xs := [v]) e18, calls_eq (xs := [v1, iv a, iv b]) e34, ext20, ext21, asI_int]
  simp only [d3] at hr
  exact hr

theorem tail_f (hawake : ∀ h, rn 20 #[] h = some (.bool true, h)) {v : Value} {g : List Nat} {s t : Int} {h : H} (hg : GrN g) (hval : validG (g.map Int.ofNat) = true) (hs : SlR h 3 1 v (cellsN g)) (hd : doubleP g = false) : ∃ h', tail14 v s t false h = some (.bool true, h') := by
  refine tail_node hawake hg hs fun a b _ _ ha hb hab => ?_
  have hlen := hg.len
  have htk : (g.map Int.ofNat).take 14 = g.map Int.ofNat := List.take_of_length_le (by simp; omega)
  obtain ⟨v1, h1, e18, x1, hs1⟩ := s18 (l := g.map Int.ofNat) (h := h) (v := v) (by rw [cellsN_eq]; exact hs)
  rw [htk, cellsN_eq] at hs1
  refine ⟨h1, tail_start hg hs ha hb hab e18 (s34_single hg hval hs1 ha hb hab hd) _ ?_⟩
  rw [show (!false) = true from rfl, ifB_true, show AM.eq (5 : Int) 5 = true from rfl, ifB_true, calls_eq (xs := []) (hawake h1)]
  rfl

theorem tail_t (hawake : ∀ h, rn 20 #[] h = some (.bool true, h)) {v : Value} {g : List Nat} {s t : Int} {h : H} (hg : GrN g) (hval : validG (g.map Int.ofNat) = true) (hs : SlR h 3 1 v (cellsN g)) (hd : doubleP g = true) : ∃ h', tail14 v s t true h = some (.bool true, h') := by
  refine tail_node hawake hg hs fun a b _ _ ha hb hab => ?_
  have hlen := hg.len
  have htk : (g.map Int.ofNat).take 14 = g.map Int.ofNat := List.take_of_length_le (by simp; omega)
  obtain ⟨v1, h1, e18, x1, hs1⟩ := s18 (l := g.map Int.ofNat) (h := h) (v := v) (by rw [cellsN_eq]; exact hs)
  rw [htk, cellsN_eq] at hs1
  obtain ⟨v2, h2, r, e34, x2, hr, hs2⟩ := s34 hg hval hs1 ha hb hab hd
  obtain ⟨k1, k2, k3⟩ := gr_check hg ha hb hab hr
  obtain ⟨v3, h3, e18b, x3, hs3⟩ := s18 (l := g.map Int.ofNat) (h := h2) (v := v) (by rw [cellsN_eq]; exact hs.ext (x1.tr x2).toExt)
  rw [htk, cellsN_eq] at hs3
  have hs2' := hs2.ext x3.toExt
  have e35 := s35 (l := (a :: r).map Int.ofNat) hg hval hs3 (by rw [cellsN_eq]; exact hs2') (by rw [List.length_map, k2]; omega)
  rw [k1] at e35
  have hn2 : ∀ {T : Type} (K : Int → Option T), len v2 K = K (g.length : Int) := fun K => by rw [hs2.len, List.length_map, k2]
  have hn : ∀ {T : Type} (K : Int → Option T), len v K = K (g.length : Int) := fun K => by rw [hs.len]; simp
  have hl1 : 0 < g.length := by omega
  refine ⟨h3, tail_start hg hs ha hb hab e18 e34 _ ?_⟩
  rw [show (!true) = false from rfl, ifB_false, calls_eq (xs := [v]) e18b, calls_eq (xs := [v3, v2]) e35, ext20, asB_bool, ext21, asI_int, show AM.eq (0 : Int) 0 = true from rfl, ifB_true, ifB_true, ifB_true, hn2, hn, eq_nat, decide_eq_true rfl, ifB_true]
  simp only [d3]
  have g0 := fun (K : Value → Option (Value × H)) => getN (R := Value × H) hs2' (i := 0) (by omega) K
  rw [show ((0 : Nat) : Int) = 0 from rfl] at g0
  rw [g0, show nb (a :: r) 0 = a from rfl, asI_int, eq_nat, decide_eq_true rfl, ifB_true, hn2, sub64 (by omega) (by omega), show (g.length : Int) - 1 = ((g.length - 1 : Nat) : Int) by omega, getN hs2' (by omega), asI_int]
  rw [k2] at k3
  rw [k3, eq_nat, decide_eq_true rfl, ifB_true, calls_eq (xs := []) (hawake h3)]
  rfl

theorem double_parts {g : List Nat} : doubleP g = (decide (3 ≤ g.length) && connS g (allN g) && decide (cutsP g (allN g) = 0)) := rfl

set_option maxHeartbeats 4000000 in
theorem s14 (hawake : ∀ h, rn 20 #[] h = some (.bool true, h)) {h : H} {v w : Value} {z z1 : Int} {l : List Int} {vs : List Value} {LL : List (List Int)} (hs : SlR h 3 1 v (cellsI l)) (hw : SlR h 22 1 w (cellsV vs)) (hvs : AllSl vs) (hLL : LSI h vs LL) :
    ∃ h', rn 14 #[v, iv z, iv z1, w] h = some (.bool true, h') := by
  have c20 := fun (g : H) (K : Value → H → Option (Value × H)) => calls_eq (K := K) (xs := []) (hawake g)
  obtain ⟨v1, h1, e18, x1, hs1⟩ := s18 hs
  by_cases hval : validG l = true
  · obtain ⟨g, rfl, hg⟩ := valid_nat hval
    have hlen := hg.len
    have htk : (g.map Int.ofNat).take 14 = g.map Int.ofNat := List.take_of_length_le (by simp; omega)
    rw [htk, cellsN_eq] at hs1
    have hn : ∀ {T : Type} (K : Int → Option T), len v K = K (g.length : Int) := fun K => by rw [hs.len]; simp
    have hsh : AM.sub .i64 (AM.shl .i64 1 (g.length : Int)) 1 = (allN g : Int) := shl_all hlen
    have hcl : ((LL.take 50).map fun m => m.take 16).length ≤ 100 := by rw [List.length_map, List.length_take]; omega
    have hcl2 : ∀ m ∈ (LL.take 50).map (fun m => m.take 16), m.length ≤ 100 := fun m hm => by
      obtain ⟨y, _, rfl⟩ := List.mem_map.1 hm
      rw [List.length_take]; omega
    have hrc : AM.eq (rch g (allN g) 0 : Int) (allN g : Int) = connS g (allN g) := by rw [eqN, rch_all hg]
    cases hd : doubleP g with
    | true =>
      have hd' := hd
      rw [double_parts, Bool.and_eq_true, Bool.and_eq_true, decide_eq_true_iff, decide_eq_true_iff] at hd'
      obtain ⟨⟨h3, hcon⟩, hcut⟩ := hd'
      obtain ⟨v4, h2, us, es, left, e42, x2, hEL, hle, hs4, hus, husl, hse⟩ := s42 hg hval hs1 hd
      obtain ⟨v6, h3', e18b, x3, hs6⟩ := s18 (hs.ext (x1.tr x2).toExt)
      rw [htk, cellsN_eq] at hs6
      have e24 := s24 hg hval hs6
      have x123 := (x1.tr x2).tr x3
      have hsv := hs.ext x123.toExt
      rw [cellsN_eq] at hsv
      have e33 := s33 (v := 0) hg.toGrB hsv hg.pos (allN_lt g)
      obtain ⟨v12, h7, e18c, x7, hs12⟩ := s18 (hs.ext x123.toExt)
      rw [htk, cellsN_eq] at hs12
      obtain ⟨v13, h8, ws, e55, x8, hs13, hws, hl13⟩ := s55 (hw.ext (x123.tr x7).toExt) hvs (hLL.ext (x123.tr x7).toExt)
      obtain ⟨q, e54, hq⟩ := s54 hg hval (hs12.ext x8.toExt) hs13 hws hl13 hcl hcl2
      have x18 := (x123.tr x7).tr x8
      obtain ⟨v17, h10, e18d, x10, hs17⟩ := s18 (hs.ext x18.toExt)
      rw [htk, cellsN_eq] at hs17
      have x210 := ((x3.tr x7).tr x8).tr x10
      have hLS4 : LSI h2 us (es.map fun m => m.map Int.ofNat) := ⟨by rw [List.length_map]; exact husl, fun i x m hx hm => by
        rw [List.getElem?_map] at hm
        obtain ⟨m', hm', rfl⟩ := Option.map_eq_some_iff.1 hm
        rw [cellsN_eq]
        exact hse i x m' hx hm'⟩
      have hok : EarsOk g (es.map fun m => m.map Int.ofNat) := ⟨es, left, rfl, hEL, hle⟩
      obtain ⟨sm1, sm2⟩ := hok.small hg
      obtain ⟨q2, e54b, hq2⟩ := s54 hg hval hs17 (hs4.ext x210.toExt) hus (hLS4.ext x210.toExt) (by omega) (fun m hm => by have := sm2 m hm; omega)
      have hq2t : q2 = true := hq2.2 hok
      subst hq2t
      have hsv10 := hs.ext (x18.tr x10).toExt
      rw [cellsN_eq] at hsv10
      obtain ⟨h', et⟩ := tail_t (s := z) (t := z1) hawake hg hval hsv10 hd
      have q0 : AM.eq (0 : Int) 0 = true := rfl
      refine ⟨_, t14 (k := 0) (v := .bool true) (h1 := h') ?_⟩
      unfold f14
      rw [calls_eq (xs := [v]) e18, calls_eq (xs := [v1]) e42, ext20, ext21, asI_int, calls_eq (xs := [v]) e18b, calls_eq (xs := [v6]) e24, ext20, asI_int, ext21, asI_int, q0, show (!true) = false from rfl, ifB_false, hn, le_t (by omega), ifB_true,
        hcut, show AM.eq ((0 : Nat) : Int) 0 = true from rfl, ifB_true, hn, nn_ge (show (0 : Int) ≤ (g.length : Int) by omega), hsh, calls_eq (xs := [v, iv (allN g : Nat), iv 0]) e33, asI_int, hn, nn_ge (show (0 : Int) ≤ (g.length : Int) by omega), keqv4, hsh, hrc, hcon,
        show (!(true == true)) = false from rfl, ifB_false, show (!true) = false from rfl, ifB_false, calls_eq (xs := [v]) e18c, calls_eq (xs := [w]) e55, calls_eq (xs := [v12, v13]) e54, ext20, asB_bool, ext21, asI_int, q0, show (!true) = false from rfl, ifB_false]
      cases q with
      | true =>
        rw [ifB_true, ifB_false, ifB_true, calls_eq (xs := [v]) e18d, calls_eq (xs := [v17, v4]) e54b, ext20, asB_bool, ext21, asI_int, show (!true) = false from rfl, ifB_false, q0, show (!true) = false from rfl, ifB_false]
        exact et
      | false =>
        rw [ifB_false, ifB_true, calls_eq (xs := [v]) e18d, calls_eq (xs := [v17, v4]) e54b, ext20, asB_bool, ext21, asI_int, show (!true) = false from rfl, ifB_false, q0, show (!true) = false from rfl, ifB_false]
        exact et
    | false =>
      have e42 := s42_single hg hval hs1 hd
      obtain ⟨v6, h3', e18b, x3, hs6⟩ := s18 (hs.ext x1.toExt)
      rw [htk, cellsN_eq] at hs6
      have e24 := s24 hg hval hs6
      have x13 := x1.tr x3
      have hsv := hs.ext x13.toExt
      rw [cellsN_eq] at hsv
      have e33 := s33 (v := 0) hg.toGrB hsv hg.pos (allN_lt g)
      obtain ⟨v12, h7, e18c, x7, hs12⟩ := s18 (hs.ext x13.toExt)
      rw [htk, cellsN_eq] at hs12
      obtain ⟨v13, h8, ws, e55, x8, hs13, hws, hl13⟩ := s55 (hw.ext (x13.tr x7).toExt) hvs (hLL.ext (x13.tr x7).toExt)
      obtain ⟨q, e54, hq⟩ := s54 hg hval (hs12.ext x8.toExt) hs13 hws hl13 hcl hcl2
      have hqf : q = false := Bool.eq_false_iff.2 fun hqt => by
        have := (hq.1 hqt).double hg
        rw [hd] at this; cases this
      subst hqf
      have x18 := (x13.tr x7).tr x8
      have hsv8 := hs.ext x18.toExt
      rw [cellsN_eq] at hsv8
      obtain ⟨h', et⟩ := tail_f (s := z) (t := z1) hawake hg hval hsv8 hd
      have q5 : AM.eq (5 : Int) 0 = false := rfl
      have q55 : AM.eq (5 : Int) 5 = true := rfl
      have q0 : AM.eq (0 : Int) 0 = true := rfl
      refine ⟨_, t14 (k := 0) (v := .bool true) (h1 := h') ?_⟩
      unfold f14
      rw [calls_eq (xs := [v]) e18, calls_eq (xs := [v1]) e42, ext20, ext21, asI_int, calls_eq (xs := [v]) e18b, calls_eq (xs := [v6]) e24, ext20, asI_int, ext21, asI_int, q0, show (!true) = false from rfl, ifB_false, hn]
      by_cases h3 : 3 ≤ g.length
      · rw [le_t (by omega), ifB_true]
        by_cases hcut : cutsP g (allN g) = 0
        · have hcon : connS g (allN g) = false := by
            rw [double_parts, decide_eq_true h3, decide_eq_true hcut] at hd
            simpa using hd
          rw [hcut, show AM.eq ((0 : Nat) : Int) 0 = true from rfl, ifB_true, hn, nn_ge (show (0 : Int) ≤ (g.length : Int) by omega), hsh, calls_eq (xs := [v, iv (allN g : Nat), iv 0]) e33, asI_int, hn, nn_ge (show (0 : Int) ≤ (g.length : Int) by omega), keqv4, hsh, hrc, hcon, q5,
            show (!(false == false)) = false from rfl, ifB_false, show (!false) = true from rfl, ifB_true, q55, show (!true) = false from rfl, ifB_false, calls_eq (xs := [v]) e18c, calls_eq (xs := [w]) e55, calls_eq (xs := [v12, v13]) e54, ext20, asB_bool, ext21, asI_int, q0, show (!true) = false from rfl, ifB_false, ifB_false, ifB_false]
          exact et
        · rw [show AM.eq (cutsP g (allN g) : Int) 0 = false by simp [AM.eq]; omega, ifB_false, keqv4, q5, show (!(false == false)) = false from rfl, ifB_false, show (!false) = true from rfl, ifB_true, q55, show (!true) = false from rfl, ifB_false, calls_eq (xs := [v]) e18c, calls_eq (xs := [w]) e55, calls_eq (xs := [v12, v13]) e54, ext20, asB_bool, ext21, asI_int, q0, show (!true) = false from rfl, ifB_false, ifB_false, ifB_false]
          exact et
      · rw [show AM.le (3 : Int) (g.length : Int) = false by simp [AM.le]; omega, ifB_false, keqv4, q5, show (!(false == false)) = false from rfl, ifB_false, show (!false) = true from rfl, ifB_true, q55, show (!true) = false from rfl, ifB_false, calls_eq (xs := [v]) e18c, calls_eq (xs := [w]) e55, calls_eq (xs := [v12, v13]) e54, ext20, asB_bool, ext21, asI_int, q0, show (!true) = false from rfl, ifB_false, ifB_false, ifB_false]
        exact et
  · have hv' : validG l = false := by simpa using hval
    have hv14 : validG (l.take 14) = false := by rw [validG_take]; exact hv'
    obtain ⟨v6, h3, e18b, x3, hs6⟩ := s18 (hs.ext x1.toExt)
    refine ⟨_, t14 (k := 0) (v := .bool true) (h1 := h3) ?_⟩
    unfold f14
    rw [calls_eq (xs := [v]) e18, calls_eq (xs := [v1]) (s42_bad hv14 hs1), ext20, ext21, asI_int, calls_eq (xs := [v]) e18b, calls_eq (xs := [v6]) (s24_bad hv14 hs6), ext20, asI_int, ext21, asI_int, show (!(AM.eq (2 : Int) 0)) = true from rfl, ifB_true, show AM.eq (2 : Int) 2 = true from rfl, ifB_true, ifB_true, c20]
    rfl

end Go.AM

end

section

/- It is awake: by the kernel's own run. -/
namespace Go.AM
open Go.Proofs
noncomputable def awakeOk : Bool := match call Tryd.prog E0 60 20 #[] ⟨fun _ => none, 0, 0⟩ with
  | some (.bool b, _) => b
  | _ => false

theorem awake_run : awakeOk = true := by decide +kernel

theorem s20 (h : H) : rn 20 #[] h = some (.bool true, h) := by
  have ht := awake_run
  unfold awakeOk at ht
  split at ht
  · rename_i b h' hc
    subst ht
    exact run_iso (n := 59) (by rfl) (iso_any (by rfl) hc)
  · cases ht

end Go.AM

end

section

/- Slices of numbers that a statement is handed, in the abstract heap. -/
namespace Go.AM
open Go.Proofs Go.ChangeShapes
variable {HH : Type} {enc : TypeId × Value → HH} {w : World} {base : Nat} {held : Bool}
theorem flat3 (n : Nat) (cs : List Value) (x : DataW HH × List MemPlace) (h : DataW.trod enc Tryd.prog w base (fun _ => true) held n 3 cs = some x) : ∃ z : Int, cs = [iv z] := by
  obtain ⟨z, h1, _⟩ := DataW.trod_int (show Tryd.prog.underlying 3 = some (.int .i64) from by kernel_rfl) h
  exact ⟨z, h1⟩

theorem cellsOf3 : Tryd.prog.cellsOf 3 = 1 := by kernel_rfl

theorem under3 : Tryd.prog.underlying 3 = some (.int .i64) := by kernel_rfl

theorem bytes3 : Tryd.prog.bytesOf 3 = 8 := by kernel_rfl

theorem ints_of : ∀ (l : List (List Value)), (∀ x ∈ l, ∃ z : Int, x = [iv z]) → ∃ l' : List Int, l = l'.map fun z => [iv z] := by
  intro l
  induction l with
  | nil => intro _; exact ⟨[], rfl⟩
  | cons x l ih =>
    intro h
    obtain ⟨c, hc⟩ := h x (by simp)
    obtain ⟨l', hl⟩ := ih (fun y hy => h y (List.mem_cons_of_mem _ hy))
    exact ⟨c :: l', by rw [hc, hl]; rfl⟩

set_option maxRecDepth 100000 in
/-- A graph that came in. -/
theorem open_graph {rr : Reach} {b0 : Nat} {v : Value} {d : DataW HH} {ps : List MemPlace} (hv : Value.okWide Tryd.prog w rr b0 23 v) (hwt : ∀ x ∈ d.weights Tryd.prog 23, x ≤ reachBytes)
    (hd : DataW.Trod enc Tryd.prog w base (fun _ => true) held 23 v d ps) {ι : Nat → Emb} {h : H} (r : Rel Tryd.prog E0 ι h w) (hro : ∀ b k, h.blk b = some k → k.own = false) :
    ∃ (v0 : Value) (ι' : Nat → Emb) (h' : H) (l : List Int), Rel Tryd.prog E0 ι' h' w ∧ (∀ b k, h'.blk b = some k → k.own = false) ∧ Ext h h' ∧ (∀ b, b < h.nx → ι' b = ι b) ∧
      VR ι' h'.nx v0 v ∧ SlR h' 3 1 v0 (l.map fun z => [iv z]) := by
  have hu : Tryd.prog.underlying 23 = some (.slice 3) := by kernel_rfl
  simp only [Value.okWide, hu] at hv
  have hy : ∃ a len cap, v = .slice a len cap := by
    simp only [Cell.okWide, hu] at hv
    cases v <;> simp_all [Cell.ok]
  obtain ⟨a, len, cap, rfl⟩ := hy
  obtain ⟨ι', h', v0, l, g1, g2, g3, g4, g5, g6, g7⟩ := open_flat r hro hu sz3 cellsOf3 (by decide) (Q := fun x => ∃ z : Int, x = [iv z]) flat3 (by
    rintro cs ⟨c, rfl⟩
    exact ⟨rfl, fun v hv => by simp at hv; subst hv; exact ⟨_, _, rfl⟩⟩) (by rw [bytes3]; exact Nat.succ_pos _) hwt (okWide_has hu hv) hd
  obtain ⟨l', rfl⟩ := ints_of l g7
  exact ⟨v0, ι', h', l', g1, g2, g3, g4, g5, g6⟩

/-! ### Streets and numbers that came in -/
/-! ### The table -/
open Go.Proofs.YtakhklelgcfgjaaDoor
theorem glTab : Tryd.prog.globalNamed "math/bits.deBruijn64tab" = some 1 := by kernel_rfl

theorem tyTab : (Tryd.prog.globals[1]?).map (·.type) = some 136 := by kernel_rfl

theorem under136 : Tryd.prog.underlying 136 = some (.array 64 5) := by kernel_rfl

theorem under5 : Tryd.prog.underlying 5 = some (.int .u8) := by kernel_rfl

theorem cellsOf5 : Tryd.prog.cellsOf 5 = 1 := by kernel_rfl

/-- What the rows say of the package-level variables. -/
def laidT : List (String × DataW Unit) := [("math/bits.deBruijn32tab", Rows.laid_math_bits_deBruijn32tab), ("math/bits.deBruijn64tab", Rows.laid_math_bits_deBruijn64tab)]

theorem laid64_eq : (Rows.laid_math_bits_deBruijn64tab : DataW Unit) = .agg (tab64.map fun n => .lit (.int .u8 n)) := by kernel_rfl

theorem tab_len : tab64.length = 64 := by decide

set_option maxRecDepth 100000 in
/-- What the condition gives: each cell of the table. -/
theorem of_laid {W : World} (h : laidMetH Tryd.prog laidT W) (i : Nat) (z : Int) (hz : tab64[i]? = some z) : W.cell? ⟨1, i, none⟩ = some (.int .u8 z) := by
  rw [MakeChecks.laidMetH_plain _ _ _ (by kernel_rfl)] at h
  obtain ⟨ps, ⟨g0, t0, cs0, f0, p0, q0, hg0, ht0, hv0, hd0, ⟨g1, t1, cs1, f1, p1, q1, hg1, ht1, hv1, hd1, _, _⟩, _⟩, _, _⟩ := h
  obtain rfl := Option.some.inj (glTab.symm.trans hg1)
  obtain rfl := Option.some.inj (tyTab.symm.trans ht1)
  obtain ⟨xs, m1, rfl, hx1, hlen, hn3, hel⟩ := DataW.trod_array under136 hd1
  have hi : i < 64 := by rw [← tab_len]; exact (List.getElem?_eq_some_iff.1 hz).1
  have h0 := hel i hi
  rw [cellsOf5, Nat.mul_one] at h0
  have hxi : xs[i]? = some xs[i] := List.getElem?_eq_getElem (by omega)
  rw [hxi] at h0
  obtain ⟨k, e1, e2, _⟩ := DataW.trod_int under5 h0
  have hx2 : DataW.agg (tab64.map fun n => DataW.lit (.int .u8 n)) = DataW.agg (xs.map (·.1)) := by
    rw [← laid64_eq]
    exact congrArg Prod.fst hx1
  have hx3 : (tab64.map fun n => (DataW.lit (.int .u8 n) : DataW Unit)) = xs.map (·.1) := by
    exact DataW.agg.inj hx2
  have hx4 := congrArg (·[i]?) hx3
  simp only [List.getElem?_map, hz, hxi, Option.map_some, Option.some.injEq] at hx4
  rw [e2] at hx4
  have hk : z = k := by
    have h5 : (DataW.lit (Lit.int .u8 z) : DataW Unit) = DataW.lit (Lit.int .u8 k) := hx4
    exact (Lit.int.inj (DataW.lit.inj h5)).2
  subst hk
  rw [World.var?_cell hg1 hv1 i]
  have hcl : cs1.toList[i]? = some (.int .u8 z) := by
    have := congrArg (·[0]?) e1
    simpa [List.getElem?_take, List.getElem?_drop] using this
  simpa using hcl

/-- The beginning: the table alone. -/
def hTab : H := ⟨fun b => if b = 1 then some (.row (tab64.map fun n => .int .u8 n) 5 false) else none, 2, 0⟩

def ιTab : Nat → Emb := fun g => ⟨g, 0, 64, 1⟩

set_option maxRecDepth 100000 in
theorem rel_tab {W : World} (h : laidMetH Tryd.prog laidT W) : Rel Tryd.prog E0 ιTab hTab W := by
  have hc := of_laid h
  have h0 := hc 0 0 (by decide)
  have hsz : 1 < W.heap.size := by
    unfold World.cell? at h0
    split at h0
    · rename_i hb
      rcases Nat.lt_or_ge 1 W.heap.size with h1 | h1
      · exact h1
      · rw [Array.getElem?_eq_none h1] at hb; cases hb
    · cases h0
  have hrow : ∀ n, BlkR Tryd.prog ιTab n W 1 (.row (tab64.map fun n => .int .u8 n) 5 false) := by
    intro n
    refine ⟨hsz, sz5, fun i v hv => ?_⟩
    rw [List.getElem?_map] at hv
    obtain ⟨z, hz, rfl⟩ := Option.map_eq_some_iff.1 hv
    refine ⟨.int .u8 z, ?_, .int .u8 z⟩
    have := hc i z hz
    simpa [ιTab] using this
  refine ⟨fun b k hb => ?_, fun b k hb => ?_, fun b b' k k' hb _ _ ho => ?_, Nat.le_refl _, fun g _ => ⟨rfl, rfl⟩, fun g hg => ?_, fun g k hg hk => ?_⟩
  · simp only [hTab] at hb ⊢
    split at hb
    · omega
    · cases hb
  · simp only [hTab] at hb
    split at hb
    · rename_i h1
      subst h1
      cases hb
      exact hrow _
    · cases hb
  · simp only [hTab] at hb
    split at hb
    · cases hb; cases ho
    · cases hb
  · simp only [hTab, E0]
  · simp only [E0] at hk
    split at hk
    · rename_i h1
      subst h1
      cases hk
      exact ⟨rfl, hrow _⟩
    · cases hk

theorem ro_tab : ∀ b k, hTab.blk b = some k → k.own = false := by
  intro b k hb
  simp only [hTab] at hb
  split at hb
  · cases hb; rfl
  · cases hb

end Go.AM

end

section

/- Slices of slices of numbers that a statement is handed, in the abstract heap. -/
namespace Go.AM
open Go.Proofs Go.ChangeShapes Go.WideShapes Go.Deep
variable {HH : Type} {enc : TypeId × Value → HH} {w : World} {base : Nat} {held : Bool}
theorem weights_all {P : Program} {e : TypeId} {n : Nat} {d : DataW HH} : ∀ (l : List (DataW HH)), d ∈ l → n ∈ d.weights P e → n ∈ DataW.weightsAll P e l := by
  intro l
  induction l with
  | nil => intro h; cases h
  | cons x l ih =>
    intro h hn
    unfold DataW.weightsAll
    rw [List.mem_append]
    rcases List.mem_cons.1 h with rfl | h
    · exact .inl hn
    · exact .inr (ih h hn)

/-- One row. -/
theorem open_row {ι : Nat → Emb} {h : H} (r : Rel Tryd.prog E0 ι h w) (hro : ∀ b k, h.blk b = some k → k.own = false) {A : Option Addr} {L C : Nat} {zs : List Int} {gb : Nat} (hgb : gb < w.heap.size) (hLC : L ≤ C) (hz : zs.length = C) (hU : C < U)
    (hnone : A = none → C = 0) (hcell : ∀ a', A = some a' → ∀ c, c < C → w.cell? (a'.add c) = some (.int .i64 (zs.getD c 0))) :
    ∃ (ι' : Nat → Emb) (h' : H) (v0 : Value), Rel Tryd.prog E0 ι' h' w ∧ (∀ b k, h'.blk b = some k → k.own = false) ∧ Ext h h' ∧ (∀ b, b < h.nx → ι' b = ι b) ∧ VR ι' h'.nx v0 (.slice A L C) ∧ SlR h' 3 1 v0 (cellsI (zs.take L)) ∧ ∃ a n c, v0 = .slice a n c := by
  cases A with
  | none =>
    have := hnone rfl
    subst this
    obtain rfl : L = 0 := by omega
    exact ⟨ι, h, .slice none 0 0, r, hro, .refl _, fun _ _ => rfl, .slNil, by rw [List.take_zero]; exact .nil, _, _, _, rfl⟩
  | some a' =>
    by_cases hC : C = 0
    · subst hC
      obtain rfl : L = 0 := by omega
      have hnew := r.addRO hro (cs := []) (e := 3) (m := ⟨gb, 0, 0, 1⟩) hgb sz3 (by intro i v hv; simp at hv)
      refine ⟨_, _, .slice (some ⟨h.nx, 0, none⟩) 0 0, hnew.1, hnew.2, .new _ _, fun b hb => Emb.new_lt ι _ _ hb, .sl0 (Nat.lt_succ_self _) (by decide), ?_, _, _, _, rfl⟩
      rw [List.take_zero]
      exact SlR.at_ (l := []) (Nat.lt_succ_self _) (blk_new_self _ _) (by decide) (by decide) (by simp) (fun i x hx => by simp at hx)
    · obtain ⟨hlt, hsp⟩ := cell_lt (hcell a' rfl 0 (by omega))
      have h0 : a'.add 0 = a' := by simp [Addr.add]
      rw [h0] at hlt hsp
      have hadd : ∀ c, (a'.add c) = ⟨a'.block, a'.off + c, none⟩ := fun c => by
        unfold Addr.add
        obtain ⟨ab, ao, asp⟩ := a'
        simp only at hsp
        subst hsp
        by_cases hc : c = 0 <;> simp [hc]
      have hrow : (cellsI (zs.take L)).flatten = (zs.take L).map iv := by
        generalize zs.take L = q
        induction q with
        | nil => rfl
        | cons x q ih => simp at ih ⊢; exact ih
      have hnew := r.addRO hro (cs := (cellsI (zs.take L)).flatten) (e := 3) (m := ⟨a'.block, a'.off, a'.off + C * 1, 1⟩) hlt sz3 (by
        intro i v hv
        rw [hrow, List.getElem?_map] at hv
        obtain ⟨z, hz1, rfl⟩ := Option.map_eq_some_iff.1 hv
        have hi := (List.getElem?_eq_some_iff.1 hz1).1
        rw [List.length_take] at hi
        rw [List.getElem?_take_of_lt (by omega)] at hz1
        have := hcell a' rfl i (by omega)
        rw [hadd, List.getD_eq_getElem?_getD, hz1] at this
        exact ⟨_, this, .int _ _⟩)
      have hLl : (zs.take L).length = L := by rw [List.length_take]; omega
      refine ⟨_, _, .slice (some ⟨h.nx, 0, none⟩) L (U + L), hnew.1, hnew.2, .new _ _, fun b hb => Emb.new_lt ι _ _ hb, ?_, ?_, _, _, _, rfl⟩
      · have := VR.sl (ι := Emb.new ι h.nx ⟨a'.block, a'.off, a'.off + C * 1, 1⟩) (n := h.nx + 1) (b := h.nx) (o := 0) (l := L) (c := U + L) (c' := C) (Nat.lt_succ_self _) (.inr ⟨Nat.le_add_right _ _, by omega⟩)
          (by rw [capK_U]; exact Nat.le_refl _) (by rw [Emb.new_at]; simp)
        rw [Emb.new_at] at this
        obtain ⟨ab, ao, asp⟩ := a'
        simp only at hsp
        subst hsp
        exact this
      · have := SlR.at_ (h := h.new (.row (cellsI (zs.take L)).flatten 3 false)) (e := 3) (s := 1) (b := h.nx) (o := 0) (c := U + L) (l := cellsI (zs.take L)) (Nat.lt_succ_self _) (blk_new_self _ _)
          (by rw [capK_U, List.length_map, hLl]; exact Nat.le_refl _) (by rw [capK_U]; omega) (by rw [List.length_map, hLl, hrow, List.length_map, hLl]; omega) (fun i x hi => by
            rw [List.getElem?_map] at hi
            obtain ⟨z, hz1, rfl⟩ := Option.map_eq_some_iff.1 hi
            refine ⟨rfl, fun j hj => ?_⟩
            obtain rfl : j = 0 := by simpa using hj
            rw [hrow, Nat.zero_add, Nat.mul_one, Nat.add_zero, List.getElem?_map, hz1]; rfl)
        rw [List.length_map, hLl] at this
        exact this

theorem flat_one : ∀ q : List Value, (q.map fun x => [x]).flatten = q
  | [] => rfl
  | x :: q => by rw [List.map_cons, List.flatten_cons, flat_one q]; rfl

theorem under68 : Tryd.prog.underlying 68 = some (.slice 22) := by kernel_rfl

theorem cellsOf22 : Tryd.prog.cellsOf 22 = 1 := by kernel_rfl

set_option maxRecDepth 100000 in
/-- A slice of slices that came in. -/
theorem open_rows {rr : Reach} {b0 : Nat} {v : Value} {d : DataW HH} {ps : List MemPlace} (hv : Value.okWide Tryd.prog w rr b0 68 v) (hwt : ∀ x ∈ d.weights Tryd.prog 68, x ≤ reachBytes)
    (hd : DataW.Trod enc Tryd.prog w base (fun _ => true) held 68 v d ps) {ι : Nat → Emb} {h : H} (r : Rel Tryd.prog E0 ι h w) (hro : ∀ b k, h.blk b = some k → k.own = false) :
    ∃ (v0 : Value) (ι' : Nat → Emb) (h' : H) (vs : List Value) (LL : List (List Int)), Rel Tryd.prog E0 ι' h' w ∧ (∀ b k, h'.blk b = some k → k.own = false) ∧ Ext h h' ∧ (∀ b, b < h.nx → ι' b = ι b) ∧
      VR ι' h'.nx v0 v ∧ SlR h' 22 1 v0 (cellsV vs) ∧ AllSl vs ∧ LSI h' vs LL := by
  simp only [Value.okWide, under68] at hv
  have hy : ∃ a len cap, v = .slice a len cap := by
    simp only [Cell.okWide, under68] at hv
    cases v <;> simp_all [Cell.ok]
  obtain ⟨a, len, cap, rfl⟩ := hy
  have hhas := okWide_has under68 hv
  obtain ⟨fuel, hf⟩ := hd
  rcases open_int_rows under68 under22 under3 cellsOf22 cellsOf3 hf with ⟨hcs, _⟩ | ⟨a', len', cap', A, L, C, Z, hcs, hb, hlc, hcm, hx, each⟩
  · simp [Value.cells] at hcs
    obtain ⟨rfl, rfl, rfl⟩ := hcs
    exact ⟨.slice none 0 0, ι, h, [], [], r, hro, .refl _, fun _ _ => rfl, .slNil, .nil, (fun x hx => by cases hx), rfl, fun i x m hi => by simp at hi⟩
  · simp [Value.cells] at hcs
    obtain ⟨rfl, rfl, rfl⟩ := hcs
    obtain ⟨hsp, hgl⟩ := hhas a' rfl
    have hdd : d = _ := congrArg Prod.fst hx
    have hr22 : reachBytes < U := by decide
    have hlen : len < U := by
      have h1 := hwt ((((List.range len).map fun r => intRow (H := HH) .i64 (A r) (L r) (Z r)).length + ((List.range (cap - len)).map fun j => intRow (H := HH) .i64 (A (len + j)) (L (len + j)) (Z (len + j))).length) * Tryd.prog.bytesOf 22) (by rw [hdd]; simp [DataW.weights, under68])
      rw [List.length_map, List.length_range] at h1
      have h2 : Tryd.prog.bytesOf 22 = 24 := by kernel_rfl
      rw [h2] at h1
      omega
    have hC : ∀ r, r < len → C r < U := by
      intro i hi
      obtain ⟨_, e2, e3, e4, _, e6, _⟩ := each i (by omega)
      cases hA : A i with
      | none => rw [e6 hA]; decide
      | some ai =>
        have h1 := hwt ((lits (H := HH) .i64 ((Z i).take (L i))).length * 8 + (lits (H := HH) .i64 ((Z i).drop (L i))).length * 8) (by
          rw [hdd]
          simp only [DataW.weights, under68]
          refine List.mem_cons_of_mem _ (List.mem_append_left _ (weights_all _ (List.mem_map.2 ⟨i, List.mem_range.2 hi, rfl⟩) ?_))
          rw [hA]
          simp only [intRow, DataW.weights, under22, bytes3]
          rw [← Nat.add_mul]
          exact List.mem_cons_self)
        have hl1 : ∀ q : List Int, (lits (H := HH) .i64 q).length = q.length := fun q => by simp [lits]
        rw [hl1, hl1, List.length_take, List.length_drop, e4] at h1
        omega
    have key : ∀ n, n ≤ len → ∃ (ι' : Nat → Emb) (h' : H) (vs : List Value), Rel Tryd.prog E0 ι' h' w ∧ (∀ b k, h'.blk b = some k → k.own = false) ∧ Ext h h' ∧ (∀ b, b < h.nx → ι' b = ι b) ∧ vs.length = n ∧ AllSl vs ∧
        ∀ i, i < n → ∃ x, vs[i]? = some x ∧ VR ι' h'.nx x (.slice (A i) (L i) (C i)) ∧ SlR h' 3 1 x (cellsI ((Z i).take (L i))) := by
      intro n
      induction n with
      | zero => intro _; exact ⟨ι, h, [], r, hro, .refl _, fun _ _ => rfl, rfl, (fun x hx => by cases hx), fun i hi => by omega⟩
      | succ n ih =>
        intro hn
        obtain ⟨ι1, h1, vs, a1, a2, a3, a4, a5, a6, a7⟩ := ih (by omega)
        obtain ⟨e1, e2, e3, e4, e5, e6, e7⟩ := each n (by omega)
        obtain ⟨ι2, h2, v0, c1, c2, c3, c4, c5, c6, c7⟩ := open_row a1 a2 (A := A n) (L := L n) (C := C n) (zs := Z n) hgl e2 e4 (hC n (by omega)) e6 (fun a' ha' c hc => (e7 a' ha').2 c hc)
        refine ⟨ι2, h2, vs ++ [v0], c1, c2, a3.trans c3, fun b hb => (c4 b (Nat.lt_of_lt_of_le hb a3.nx)).trans (a4 b hb), by rw [List.length_append, a5]; rfl, ?_, ?_⟩
        · intro x hx
          rw [List.mem_append, List.mem_singleton] at hx
          rcases hx with hx | rfl
          · exact a6 x hx
          · exact c7
        · intro i hi
          by_cases hin : i < n
          · obtain ⟨x, b1, b2, b3⟩ := a7 i hin
            exact ⟨x, by rw [List.getElem?_append_left (by omega)]; exact b1, b2.mono c3.nx c4, b3.ext c3⟩
          · obtain rfl : i = n := by omega
            refine ⟨v0, ?_, c5, c6⟩
            rw [← a5, List.getElem?_append_right (Nat.le_refl _), Nat.sub_self]; rfl
    obtain ⟨ι1, h1, vs, a1, a2, a3, a4, a5, a6, a7⟩ := key len (Nat.le_refl _)
    have hflat : (cellsV vs).flatten = vs := flat_one vs
    have hadd : ∀ c, (a'.add c) = ⟨a'.block, a'.off + c, none⟩ := fun c => by
      unfold Addr.add
      obtain ⟨ab, ao, asp⟩ := a'
      simp only at hsp
      subst hsp
      by_cases hc : c = 0 <;> simp [hc]
    have hnew := a1.addRO a2 (cs := (cellsV vs).flatten) (e := 22) (m := ⟨a'.block, a'.off, a'.off + cap * 1, 1⟩) hgl sz22 (by
      intro i v hv
      rw [hflat] at hv
      have hi := (List.getElem?_eq_some_iff.1 hv).1
      obtain ⟨x, b1, b2, _⟩ := a7 i (by omega)
      rw [hv] at b1
      cases b1
      have := (each i (by omega)).1
      rw [hadd] at this
      exact ⟨_, this, b2⟩)
    have xn := Ext.new h1 (.row (cellsV vs).flatten 22 false)
    refine ⟨.slice (some ⟨h1.nx, 0, none⟩) len (U + len), _, _, vs, (List.range len).map fun r => (Z r).take (L r), hnew.1, hnew.2, a3.trans xn, fun b hb => (Emb.new_lt ι1 _ _ (Nat.lt_of_lt_of_le hb a3.nx)).trans (a4 b hb), ?_, ?_, a6, ?_, ?_⟩
    · have := VR.sl (ι := Emb.new ι1 h1.nx ⟨a'.block, a'.off, a'.off + cap * 1, 1⟩) (n := h1.nx + 1) (b := h1.nx) (o := 0) (l := len) (c := U + len) (c' := cap) (Nat.lt_succ_self _) (.inr ⟨Nat.le_add_right _ _, by omega⟩)
        (by rw [capK_U]; exact Nat.le_refl _) (by rw [Emb.new_at]; simp)
      rw [Emb.new_at] at this
      obtain ⟨ab, ao, asp⟩ := a'
      simp only at hsp
      subst hsp
      exact this
    · have := SlR.at_ (h := h1.new (.row (cellsV vs).flatten 22 false)) (e := 22) (s := 1) (b := h1.nx) (o := 0) (c := U + len) (l := cellsV vs) (Nat.lt_succ_self _) (blk_new_self _ _)
        (by rw [capK_U, List.length_map, a5]; exact Nat.le_refl _) (by rw [capK_U]; exact hlen) (by rw [hflat, List.length_map, a5]; omega) (fun i x hi => by
          rw [List.getElem?_map] at hi
          obtain ⟨z, hz1, rfl⟩ := Option.map_eq_some_iff.1 hi
          refine ⟨rfl, fun j hj => ?_⟩
          obtain rfl : j = 0 := by simpa using hj
          rw [hflat, Nat.zero_add, Nat.mul_one, Nat.add_zero, hz1]; rfl)
      rw [List.length_map, a5] at this
      exact this
    · rw [List.length_map, List.length_range, a5]
    · intro i x m hx hm
      have hi : i < len := by rw [← a5]; exact (List.getElem?_eq_some_iff.1 hx).1
      obtain ⟨y, b1, _, b3⟩ := a7 i hi
      rw [hx] at b1
      cases b1
      rw [List.getElem?_map, List.getElem?_range hi] at hm
      cases hm
      exact b3.ext xn

end Go.AM

end
