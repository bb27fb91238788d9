/- Number: the program's and the document's. -/
import Derived.Test.YtakhklelgcfgjaaDoorHi
namespace Go.AM
open Go.Proofs

variable {R : Type}

attribute [local simp] nx_eq nx_new nx_set blk_new blk_set asI_int asK_int asB_bool asP_ptr al_eq bx_eq len_slice onE_exit onE_ret onR_ret Value.cells cell_new cell_set rd_new rd_set off eq lt le ifB gv out ext20 ext21

noncomputable def doubleP (g : List Nat) : Bool := decide (3 ≤ g.length) && connS g (allN g) && decide (cutsP g (allN g) = 0)

theorem pop_all_tab : ((List.range 11).all fun n => decide (pop (2 ^ n - 1) = n) && (List.range n).all fun t => decide (pop (without (2 ^ n - 1) (2 ^ t)) = n - 1)) = true := by decide +kernel

theorem pop_all {n : Nat} (h : n ≤ 10) : pop (2 ^ n - 1) = n ∧ ∀ t, t < n → pop (without (2 ^ n - 1) (2 ^ t)) = n - 1 := by
  have := List.all_eq_true.1 pop_all_tab n (List.mem_range.2 (by omega))
  simp only [Bool.and_eq_true, decide_eq_true_eq, List.all_eq_true, List.mem_range] at this
  exact this

theorem double_bi {g : List Nat} (hg : GrN g) (h : doubleP g = true) : Bi g (allN g) := by
  unfold doubleP at h
  simp only [Bool.and_eq_true, decide_eq_true_eq] at h
  refine ((cand2_iff hg (allN_lt g)).1 ?_).2
  unfold cand2
  have := (pop_all hg.len).1
  rw [show pop (allN g) = g.length from this, h.1.2, h.2, decide_eq_true (by omega)]
  rfl

theorem s81 {tv : Value} {g : List Nat} {h : H} (hg : GrN g) (hs : SlR h 3 1 tv (cellsN g)) : rn 81 #[tv] h = some (.bool (doubleP g), h) := by
  have hn : ∀ {T : Type} (K : Int → Option T), len tv K = K (g.length : Int) := fun K => by rw [hs.len]; simp
  have c65 := fun (K : Value → H → Option (Value × H)) => calls_eq (K := K) (xs := [tv]) (s65 hg.toGrB hs)
  have c64 := fun (K : Value → H → Option (Value × H)) => calls_eq (K := K) (xs := [tv, iv (allN g : Nat)]) (s64 hg.toGrB hs (allN_lt g))
  have c70 := fun (K : Value → H → Option (Value × H)) => calls_eq (K := K) (xs := [tv, iv (allN g : Nat)]) (s70 hg.toGrB hs (allN_lt g))
  refine p81 (k := 0) (h1 := h) ?_ rfl (.refl _)
  unfold f81 doubleP
  rw [hn, show AM.le 3 (g.length : Int) = decide (3 ≤ g.length) by simp only [AM.le, decide_eq_decide]; omega]
  by_cases h3 : 3 ≤ g.length
  · rw [decide_eq_true h3, ifB_true, c65, asI_int, c64, asB_bool, Bool.true_and]
    cases connS g (allN g) with
    | true => rw [ifB_true, c65, asI_int, c70, asI_int, Bool.true_and, show AM.eq (cutsP g (allN g) : Int) 0 = decide (cutsP g (allN g) = 0) from eqN (b := 0)]
    | false => rw [ifB_false, Bool.false_and]
  · rw [decide_eq_false h3, ifB_false, Bool.false_and, Bool.false_and]

theorem s39 {tv : Value} {g : List Nat} {h : H} (hg : GrN g) (hs : SlR h 3 1 tv (cellsN g)) : rn 39 #[tv] h = some (.bool (doubleP g), h) := by
  have hn : ∀ {T : Type} (K : Int → Option T), len tv K = K (g.length : Int) := fun K => by rw [hs.len]; simp
  have c68 := fun (K : Value → H → Option (Value × H)) => calls_eq (K := K) (xs := [tv]) (s68 hg.toGrB hs)
  have c67 := fun (K : Value → H → Option (Value × H)) => calls_eq (K := K) (xs := [tv, iv (allN g : Nat)]) (s67 hg.toGrB hs (allN_lt g))
  have c26 := fun (K : Value → H → Option (Value × H)) => calls_eq (K := K) (xs := [tv]) (s26 hg hs)
  rw [decide_eq_true (all_ne hg), Bool.true_and] at c67
  refine p39 (k := 0) (h1 := h) ?_ rfl (.refl _)
  unfold f39 doubleP
  rw [hn, show AM.le 3 (g.length : Int) = decide (3 ≤ g.length) by simp only [AM.le, decide_eq_decide]; omega]
  by_cases h3 : 3 ≤ g.length
  · rw [decide_eq_true h3, ifB_true, c68, asI_int, c67, asB_bool, Bool.true_and]
    cases connS g (allN g) with
    | true => rw [ifB_true, c26, asI_int, Bool.true_and, show AM.eq (cutsP g (allN g) : Int) 0 = decide (cutsP g (allN g) = 0) from eqN (b := 0)]
    | false => rw [ifB_false, Bool.false_and]
  · rw [decide_eq_false h3, ifB_false, Bool.false_and, Bool.false_and]

/-- Is a number a node? -/
def nodeB (g : List Nat) (z : Int) : Bool := decide (0 ≤ z) && decide (z < (g.length : Int))

theorem nodeB_nat {g : List Nat} {z : Int} (h : nodeB g z = true) : ∃ a : Nat, z = (a : Int) ∧ a < g.length := by
  unfold nodeB at h
  simp only [Bool.and_eq_true, decide_eq_true_eq] at h
  exact ⟨z.toNat, by omega, by omega⟩

theorem s79 {tv : Value} {g : List Nat} {z : Int} {h : H} (hs : SlR h 3 1 tv (cellsN g)) : rn 79 #[tv, iv z] h = some (.bool (nodeB g z), h) := by
  have hn : ∀ {T : Type} (K : Int → Option T), len tv K = K (g.length : Int) := fun K => by rw [hs.len]; simp
  refine p79 (k := 0) (h1 := h) ?_ rfl (.refl _)
  unfold f79 nodeB
  by_cases h0 : 0 ≤ z
  · rw [show AM.le 0 z = true by simp [AM.le, h0], ifB_true, hn, decide_eq_true h0, Bool.true_and]; rfl
  · rw [show AM.le 0 z = false by simp [AM.le]; omega, ifB_false, decide_eq_false h0, Bool.false_and]

theorem s38 {tv : Value} {l : List Int} {z : Int} {h : H} (hs : SlR h 3 1 tv (cellsI l)) : rn 38 #[tv, iv z] h = some (.bool (decide (0 ≤ z) && decide (z < (l.length : Int))), h) := by
  have hn : ∀ {T : Type} (K : Int → Option T), len tv K = K (l.length : Int) := fun K => by rw [hs.len]; simp
  refine p38 (k := 0) (h1 := h) ?_ rfl (.refl _)
  unfold f38
  by_cases h0 : 0 ≤ z
  · rw [show AM.le 0 z = true by simp [AM.le, h0], ifB_true, hn, decide_eq_true h0, Bool.true_and]; rfl
  · rw [show AM.le 0 z = false by simp [AM.le]; omega, ifB_false, decide_eq_false h0, Bool.false_and]

theorem s80 {tv : Value} {g : List Nat} {a b : Nat} {h : H} (hg : GrB g) (hs : SlR h 3 1 tv (cellsN g)) (ha : a < g.length) (hb : b < g.length) : rn 80 #[tv, iv a, iv b] h = some (.bool (adj g a b), h) := by
  have hlen := hg.len
  refine p80 (k := 0) (h1 := h) ?_ rfl (.refl _)
  unfold f80
  simp only [d3]
  rw [getN hs ha, asI_int, nn_ge (show (0 : Int) ≤ (b : Int) by omega), adj_bit hg (by omega)]
  cases adj g a b <;> rfl

theorem kbld99 {x y z} (t : Int) (m : Option Nat) (K : Value → Option R) : bld Tryd.prog 99 [(0, .slice x y z), (1, .int .i64 t), (2, .map m)] K = K (.agg #[.slice x y z, .int .i64 t, .map m]) := bld_some (by kernel_rfl)

theorem good_start {g : List Nat} (hg : GrN g) (hbi : Bi g (allN g)) {s t : Nat} (ht : t < g.length) (hst : s ≠ t) : goodQ g t (2 ^ s) = true := by
  rw [good_iff hg ht (by rw [Nat.testBit_two_pow]; exact decide_eq_false hst)]
  intro u hu
  have : lf g (2 ^ s) = without (allN g) (2 ^ s) := rfl
  rw [this] at hu ⊢
  exact hbi s t u (all_del ht (fun e => hst e.symm)) hu

theorem s34_bad {v : Value} {l : List Int} {s t : Int} {h : H} (hval : validG l = false) (hs : SlR h 3 1 v (cellsI l)) : rn 34 #[v, iv s, iv t] h = some (.tuple #[.slice none 0 0, iv 2], h) := by
  have c63 := fun (K : Value → H → Option (Value × H)) => calls_eq (K := K) (xs := [v]) (s63 hs)
  rw [hval] at c63
  refine y34 (k := 0) ?_
  unfold f34
  rw [c63]
  rfl

/-- The arguments that Number refuses. -/
def askB (g : List Nat) (s t : Int) : Bool := nodeB g s && nodeB g t && adj g s.toNat t.toNat

theorem s34_ask {v : Value} {g : List Nat} {s t : Int} {h : H} (hg : GrN g) (hval : validG (g.map Int.ofNat) = true) (hs : SlR h 3 1 v (cellsN g)) (hask : askB g s t = false) : rn 34 #[v, iv s, iv t] h = some (.tuple #[.slice none 0 0, iv 2], h) := by
  have c63 := fun (K : Value → H → Option (Value × H)) => calls_eq (K := K) (xs := [v]) (s63 (l := g.map Int.ofNat) (h := h) (by rw [cellsN_eq]; exact hs))
  rw [if_pos hval] at c63
  have c79 := fun (z : Int) (K : Value → H → Option (Value × H)) => calls_eq (K := K) (xs := [v, iv z]) (s79 (z := z) hs)
  refine y34 (k := 0) ?_
  unfold f34
  rw [c63, ext20, ext21, asB_bool, show (!true) = false from rfl, ifB_false, c79, asB_bool]
  unfold askB at hask
  cases h1 : nodeB g s with
  | false => rfl
  | true =>
    rw [show (!true) = false from rfl, ifB_false, c79, asB_bool]
    cases h2 : nodeB g t with
    | false => rfl
    | true =>
      obtain ⟨a, rfl, ha⟩ := nodeB_nat h1
      obtain ⟨b, rfl, hb⟩ := nodeB_nat h2
      rw [show (!true) = false from rfl, ifB_false, calls_eq (xs := [v, iv a, iv b]) (s80 hg.toGrB hs ha hb), asB_bool]
      rw [h1, h2] at hask
      simp only [Bool.and_self, Bool.true_and, Int.toNat_natCast] at hask
      rw [hask]; rfl

theorem s34_start {v : Value} {g : List Nat} {s t : Nat} {h : H} (hg : GrN g) (hval : validG (g.map Int.ofNat) = true) (hs : SlR h 3 1 v (cellsN g)) (hsn : s < g.length) (htn : t < g.length) (ha : adj g s t = true) :
    ∀ r, (ifB (!doubleP g) (some ((.tuple #[(.slice none 0 0), (.int .i64 5)]), h)) (
            mkm h fun h6 =>
            bld Tryd.prog 99 [(0, v), (1, (.int .i64 (t : Int))), (2, (.map (some (nx h))))] fun v8 =>
            bx h6 99 v8 fun h7 =>
            bls Tryd.prog h7 22 1 [(0, (.int .i64 (s : Int)))] fun v9 h8 =>
            nn (s : Int) (
              calls rn h8 82 [(pt (nx h6) 0), v9, (.int .i64 (AM.shl .i64 1 (s : Int)))] fun v10 h9 =>
              some ((.tuple #[v10, (.int .i64 0)]), h9)))) = r → f34 rn 0 v s t h = r := by
  intro r hr
  have c63 := fun (K : Value → H → Option (Value × H)) => calls_eq (K := K) (xs := [v]) (s63 (l := g.map Int.ofNat) (h := h) (by rw [cellsN_eq]; exact hs))
  rw [if_pos hval] at c63
  have c79 := fun (z : Int) (K : Value → H → Option (Value × H)) => calls_eq (K := K) (xs := [v, iv z]) (s79 (z := z) hs)
  have nd : ∀ {a : Nat}, a < g.length → nodeB g (a : Int) = true := fun {a} h => by
    unfold nodeB; rw [decide_eq_true (by omega), decide_eq_true (by omega)]; rfl
  unfold f34
  rw [c63, ext20, ext21, asB_bool, show (!true) = false from rfl, ifB_false, c79, asB_bool, nd hsn, show (!true) = false from rfl, ifB_false, c79, asB_bool, nd htn, show (!true) = false from rfl, ifB_false,
    calls_eq (xs := [v, iv s, iv t]) (s80 hg.toGrB hs hsn htn), asB_bool, ha, show (!true) = false from rfl, ifB_false, calls_eq (xs := [v]) (s81 hg hs), asB_bool]
  exact hr

theorem s34_single {v : Value} {g : List Nat} {s t : Nat} {h : H} (hg : GrN g) (hval : validG (g.map Int.ofNat) = true) (hs : SlR h 3 1 v (cellsN g)) (hsn : s < g.length) (htn : t < g.length) (ha : adj g s t = true) (hd : doubleP g = false) :
    rn 34 #[v, iv s, iv t] h = some (.tuple #[.slice none 0 0, iv 5], h) := by
  refine y34 (k := 0) (s34_start hg hval hs hsn htn ha _ ?_)
  rw [hd, show (!false) = true from rfl, ifB_true]

theorem s34 {v : Value} {g : List Nat} {s t : Nat} {h : H} (hg : GrN g) (hval : validG (g.map Int.ofNat) = true) (hs : SlR h 3 1 v (cellsN g)) (hsn : s < g.length) (htn : t < g.length) (ha : adj g s t = true) (hd : doubleP g = true) :
    ∃ v' h' r, rn 34 #[v, iv s, iv t] h = some (.tuple #[v', iv 0], h') ∧ Exw h h' ∧ Gr g t (2 ^ s) r ∧ SlR h' 3 1 v' (cellsN (s :: r)) := by
  have hlen := hg.len
  have hbi := double_bi hg hd
  have hst : s ≠ t := by rintro rfl; rw [hg.irr] at ha; cases ha
  obtain ⟨x, y, z, rfl⟩ := hs.isSl
  obtain ⟨h6, hh6⟩ : ∃ h6, h6 = h.new (.mp [] 0) := ⟨_, rfl⟩
  obtain ⟨h7, hh7⟩ : ∃ h7, h7 = h6.new (.row [.slice x y z, iv t, .map (some h.nx)] 99 true) := ⟨_, rfl⟩
  obtain ⟨h8, hh8⟩ : ∃ h8, h8 = h7.new (.row [iv s] 3 true) := ⟨_, rfl⟩
  have n6 : h6.nx = h.nx + 1 := by rw [hh6]; rfl
  have n7 : h7.nx = h.nx + 2 := by rw [hh7, nx_new, n6]
  have x6 : Ext h h6 := by rw [hh6]; exact Ext.new _ _
  have x7 : Ext h6 h7 := by rw [hh7]; exact Ext.new _ _
  have x8 : Ext h7 h8 := by rw [hh8]; exact Ext.new _ _
  have hN : HN g t [] h6.nx h.nx (.slice x y z) h8 := by
    refine ⟨(x8.blk _ (by omega)).trans ?_, hs.ext ((x6.trans x7).trans x8), ⟨[], 0, (x8.blk _ (by omega)).trans ((x7.blk _ (by omega)).trans ?_), rfl⟩, (fun p hp => by cases hp), ?_, ?_⟩
    · rw [hh7]; exact blk_new_self _ _
    · rw [hh6]; exact blk_new_self _ _
    · have := x8.nx; omega
    · have := x8.nx; omega
  have hap : AqR h7.nx h8 3 1 (.slice (some ⟨h7.nx, 0, none⟩) 1 1) (cellsN [s]) := by
    rw [hh8]
    exact AqR.lit (l := [[iv (s : Int)]]) (Nat.le_refl _) rfl (by simp) (by simp)
  obtain ⟨v', h9, nw, e82, hN9, f9, _, hor⟩ := s82 hg hbi htn 10 (2 ^ s) (.slice (some ⟨h7.nx, 0, none⟩) 1 1) [s] [] h8 h7.nx (by omega) (Nat.pow_lt_pow_right (by omega) hsn) (by rw [Nat.testBit_two_pow]; exact decide_eq_false hst) ⟨s, by simp⟩ (by simp) (by simp; omega) hN (by omega) (by omega)
    (fun b hb => by have := (hs.blkR hb).1; omega) hap x8.nx
  rcases hor with ⟨_, r, hr, hsr⟩ | ⟨hbad, _⟩
  · have x9 : Ext h h9 := ⟨by have := f9.nx; have := x8.nx; omega, fun b hb => by
      rw [f9.blk b (by have := x8.nx; omega) (by omega) (fun e => by cases e; omega)]
      exact ((x6.trans x7).trans x8).blk b hb⟩
    obtain ⟨h10, e10, m10, w10⟩ := x34 (k := 0) (v0 := .slice x y z) (n0 := s) (n1 := t) (h := h) (h1 := h9) (v := .tuple #[v', iv 0]) (s34_start hg hval hs hsn htn ha _ (by
      rw [hd, show (!true) = false from rfl, ifB_false]
      simp only [mkm]
      rw [kbld99, bx_eq, ← hh6]
      rw [show (Value.agg #[.slice x y z, .int .i64 (t : Int), .map (some (nx h))]).cells.toList = [.slice x y z, iv t, .map (some h.nx)] from rfl, ← hh7, bls_some (bls22 (s : Int) h7), ← hh8, nn_ge (show (0 : Int) ≤ (s : Int) by omega), shl1_nat (by omega), nx_eq,
        calls_eq (xs := [pt h6.nx 0, .slice (some ⟨h7.nx, 0, none⟩) 1 1, iv ((2 ^ s : Nat) : Int)]) e82])) hsr.notR2
    exact ⟨v', h10, r, e10, w10 x9, hr, hsr.ext m10.ext⟩
  · rw [good_start hg hbi htn hst] at hbad
    cases hbad

end Go.AM
