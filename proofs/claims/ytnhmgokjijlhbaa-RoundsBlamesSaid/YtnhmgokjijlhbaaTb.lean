/- Cycles of spans, and how often they may go round. -/
import Derived.Test.YtnhmgokjijlhbaaTa
import Derived.Test.YtnhmgokjijlhbaaAmMap
import Derived.Test.YtnhmgokjijlhbaaRb
namespace Go.AM
open Go.Proofs

variable {k : Nat} {R : Type}

attribute [local simp] nx_eq nx_new nx_set blk_new blk_set asI_int asK_int asB_bool asP_ptr al_eq bx_eq len_slice onE_exit onE_ret onR_ret Value.cells d3 d4 d22 d45 d47 d50 d52 d67 d88 d89 cell_new cell_set rd_new rd_set off eq lt le ifB gv out eqF1 eqF2 eqF3 eqF4 eqF5 eqF6 eqF7 eqF8 ext20 ext21

theorem tmod_fix {a P : Int} (hP : 0 < P) : (a.tmod P + P).tmod P = a % P := by
  have h1 := Int.emod_nonneg a (show P ≠ 0 by omega)
  have h2 := Int.emod_lt_of_pos a hP
  rw [Int.tmod_eq_emod (a := a)]
  split
  · rw [show ((0 : Nat) : Int) = 0 from rfl, Int.sub_zero, Int.tmod_eq_emod_of_nonneg (by omega), Int.add_emod_right, Int.emod_emod_of_dvd _ (Int.dvd_refl P)]
  · have : ((P.natAbs : Nat) : Int) = P := by omega
    rw [this, Int.sub_add_cancel, Int.tmod_eq_emod_of_nonneg h1, Int.emod_emod_of_dvd _ (Int.dvd_refl P)]

/-- The span that a number of a cycle names. -/
def kI (x : Int) : Int := sub .i64 (imax x (sub .i64 0 x)) 1

theorem kI0 : kI 0 = -1 := by decide

/-- Is it a number of a span? -/
def kIn (l : List Sp) (x : Int) : Prop := 0 ≤ kI x ∧ kI x < l.length
instance (l : List Sp) (x : Int) : Decidable (kIn l x) := by unfold kIn; infer_instance

theorem kIn_ne {l : List Sp} {x : Int} (h : kIn l x) : x ≠ 0 := by
  rintro rfl
  have := h.1
  rw [kI0] at this
  omega

def spW (l : List Sp) (x : Int) : Sp := (l[(kI x).toNat]?).getD ⟨0, 0, 0, 0⟩
def begP (c : Sp) (back : Bool) : Int := if back = true then c.b else c.a
def endP (c : Sp) (back : Bool) : Int := if back = true then c.a else c.b
def begW (l : List Sp) (x : Int) : Int := if kIn l x then begP (spW l x) (decide (x < 0)) else -1
def endW (l : List Sp) (x : Int) : Int := if kIn l x then endP (spW l x) (decide (x < 0)) else -1

theorem spW_get {l : List Sp} {x : Int} (h : kIn l x) : l[(kI x).toNat]? = some (spW l x) := by
  unfold spW
  have := h.1
  have := h.2
  rw [List.getElem?_eq_getElem (by omega)]
  rfl

theorem s74 {h : H} {p e : Int} {sl : Value} {l : List Sp} (hs : SlR h 89 4 sl (l.map Sp.cells)) (x : Int) :
    rn 74 #[.agg #[iv p, iv e, sl], iv x] h = some (.tuple #[iv (begW l x), iv (endW l x)], h) := by
  have x1 := Ext.new h (.row [iv p, iv e, sl] 47 true)
  have hb1 : (h.new (.row [iv p, iv e, sl] 47 true)).blk h.nx = some (.row [iv p, iv e, sl] 47 true) := blk_new_self _ _
  refine p74 (k := 0) (h1 := h.new (.row [iv p, iv e, sl] 47 true)) ?_ rfl x1
  have hs1 := hs.ext x1
  simp only [f74, bx_eq, Value.cells]
  rw [show sub .i64 (imax x (sub .i64 0 x)) 1 = kI x from rfl]
  generalize h.new (.row [iv p, iv e, sl] 47 true) = g at *
  have hn : ∀ {T : Type} (K : Int → Option T), len sl K = K (l.length : Int) := fun K => by rw [hs.len]; simp
  by_cases hin : kIn l x
  · have hne := kIn_ne hin
    have hg := spW_get hin
    have e0 := fun (K : Value → Option (Value × H)) => hs1.c0 (i := kI x) hin.1 (x := (spW l x).cells) (by simp [hg]) (y := iv (spW l x).a) rfl K
    have e1 := fun (K : Value → Option (Value × H)) => hs1.cF (i := kI x) hin.1 (x := (spW l x).cells) (by simp [hg]) (j := 1) (y := iv (spW l x).b) rfl K
    have h0 := hin.1
    have h1 := hin.2
    by_cases hp : 0 < x
    · simp [hne, cell_of hb1, hn, show ¬ kI x < 0 by omega, show ¬ (l.length : Int) ≤ kI x by omega, hp, e0, e1, begW, endW, hin, show ¬ x < 0 by omega, begP, endP]
    · simp [hne, cell_of hb1, hn, show ¬ kI x < 0 by omega, show ¬ (l.length : Int) ≤ kI x by omega, hp, e0, e1, begW, endW, hin, show x < 0 by omega, begP, endP]
  · have : x = 0 ∨ kI x < 0 ∨ (l.length : Int) ≤ kI x := by unfold kIn at hin; omega
    simp [cell_of hb1, hn, begW, endW, hin]
    grind

/-- May a number follow those ahead of it? -/
def okF (l : List Sp) (c : List Int) (i : Nat) (x : Int) : Bool := decide (kIn l x) && !((c.take i).map kI).contains (kI x)
/-- Does it end where the next one begins? -/
def linkP (l : List Sp) (c : List Int) (i : Nat) : Bool := decide (endW l (c.getD i 0) = begW l (c.getD ((i + 1) % c.length) 0))

def cycP (l : List Sp) (c : List Int) : Bool :=
  decide (1 ≤ c.length) && decide (c.length ≤ 12) && (List.range c.length).all (fun i => okF l c i (c.getD i 0)) && (List.range c.length).all (linkP l c)

theorem s39 {h : H} {p e : Int} {sl cv : Value} {l : List Sp} {c : List Int} (hs : SlR h 89 4 sl (l.map Sp.cells)) (hc : SlR h 3 1 cv (cellsI c)) (hv : tabOk p e l = true) :
    rn 39 #[.agg #[iv p, iv e, sl], cv] h = some (.bool (cycP l c), h) := by
  have hlen := hc.lt62
  rw [List.length_map] at hlen
  have hl12 : l.length ≤ 12 := by simp [tabOk] at hv; omega
  have x1 := Ext.new h (.row [iv p, iv e, sl] 47 true)
  have hb1 : (h.new (.row [iv p, iv e, sl] 47 true)).blk h.nx = some (.row [iv p, iv e, sl] 47 true) := blk_new_self _ _
  have hs1 := hs.ext x1
  have hc1 := hc.ext x1
  have hn : ∀ {T : Type} (K : Int → Option T), len sl K = K (l.length : Int) := fun K => by rw [hs.len]; simp
  have hcn : ∀ {T : Type} (K : Int → Option T), len cv K = K (c.length : Int) := fun K => by rw [hc.len]; simp
  have hF : ∀ n, c.length < n → f39 rn n (.agg #[iv p, iv e, sl]) cv h = some (.bool (cycP l c), h.new (.row [iv p, iv e, sl] 47 true)) := by
    intro n hnk
    simp only [f39, bx_eq, Value.cells, hcn]
    generalize h.new (.row [iv p, iv e, sl] 47 true) = g at *
    obtain ⟨ee, ws', g', hlp, hres⟩ := lp_rel (σ := Unit) (ρ := Unit) (F := f39_l1 rn n cv h c.length) (k := n) (l := c)
      (fun i x _ => if (okF l c i x && linkP l c i) = true then .inl () else .inr ())
      (fun i _ ws g' => g' = g ∧ ∃ met : Nat, met < 2 ^ 12 ∧ (∀ j : Nat, met.testBit j = ((c.take i).map kI).contains (j : Int)) ∧ ws = [.bool false, iv met, iv i])
      (fun _ e ws g' => e = .ret ∧ g' = g ∧ ∃ a b, ws = [.bool false, a, b]) 0 (ws := [.bool false, iv 0, iv 0]) (h := g) (s0 := ())
      ⟨rfl, 0, by decide, fun j => by simp, rfl⟩ hnk
      (by
        rintro _ ws g' ⟨rfl, met, _, _, rfl⟩
        simp [f39_l1])
      (by
        rintro i x _ ws g' hx ⟨rfl, met, hm, hbits, rfl⟩
        have hi := (List.getElem?_eq_some_iff.1 hx).1
        have e1 := fun (K : Value → Option (Ex × List Value × H)) => hc1.c0 (i := (i : Int)) (by omega) (x := [iv x]) (by simp [hx]) (y := iv x) rfl K
        have hadd : add .i64 (i : Int) 1 = (i : Int) + 1 := add64 (by omega) (by omega)
        have hnext : (i + 1) % c.length < c.length := Nat.mod_lt _ (by omega)
        have hrem : rem .i64 ((i : Int) + 1) (c.length : Int) = (((i + 1) % c.length : Nat) : Int) := by
          rw [show (i : Int) + 1 = ((i + 1 : Nat) : Int) by omega, rem_nat]
        have hlk : ∀ b, linkP l c i = b ↔ decide (endW l (c.getD i 0) = begW l (c.getD ((i + 1) % c.length) 0)) = b := fun b => Iff.rfl
        generalize (i + 1) % c.length = m1 at *
        have hgn : c[m1]? = some (c.getD m1 0) := by simp [List.getD, List.getElem?_eq_getElem hnext]
        have e2 := fun (K : Value → Option (Ex × List Value × H)) => hc1.c0 (i := (m1 : Int)) (by omega) (x := [iv (c.getD m1 0)]) (by rw [Int.toNat_natCast]; simp only [List.getElem?_map, hgn, Option.map_some]) (y := iv (c.getD m1 0)) rfl K
        have hxd : c.getD i 0 = x := by simp [List.getD, hx]
        have c74 := fun (x : Int) (K : Value → H → Option (Ex × List Value × H)) => calls_eq (K := K) (xs := [.agg #[iv p, iv e, sl], iv x]) (s74 (p := p) (e := e) hs1 x)
        have hnz : ∀ (y : Option (Ex × List Value × H)), nz (c.length : Int) y = y := fun y => nz_ne (by omega) y
        by_cases hin : kIn l x
        · have hne := kIn_ne hin
          obtain ⟨kn, hkn⟩ : ∃ n : Nat, kI x = n := ⟨(kI x).toNat, by have := hin.1; omega⟩
          have hkl : kn < l.length := by have := hin.2; omega
          have hbit : (AM.and .i64 (AM.shr .i64 (met : Int) (kn : Int)) 1 = 1) ↔ met.testBit kn = true := bit_eq1 (by omega) (by omega)
          have hk' : sub .i64 (imax x (sub .i64 0 x)) 1 = (kn : Int) := hkn
          by_cases hseen : met.testBit kn = true
          · refine ⟨.ret, [.bool false, iv met, iv i], g', ?_, ?_⟩
            · simp [f39_l1, hi, e1, hne, hk', cell_of hb1, hn, show ¬ (kn : Int) < 0 by omega, show ¬ (l.length : Int) ≤ kn by omega, nn, hbit, hseen]
            · have : okF l c i x = false := by
                rw [hbits] at hseen
                unfold okF
                rw [hkn, hseen]; simp
              rw [this, Bool.false_and, if_neg (by simp)]
              exact ⟨by simp, rfl, rfl, _, _, rfl⟩
          · have hseen' : ((c.take i).map kI).contains (kn : Int) = false := by rw [← hbits]; simpa using hseen
            have hokF : okF l c i x = true := by
              unfold okF
              rw [decide_eq_true hin, hkn, hseen']; rfl
            have hor : AM.or .i64 (met : Int) (AM.shl .i64 1 (kn : Int)) = ((met ||| 2 ^ kn : Nat) : Int) := by
              rw [shl1_nat (by omega), or_nat (by omega) (Nat.lt_of_lt_of_le (Nat.pow_lt_pow_right (by omega) (show kn < 12 by omega)) (by decide))]
            have hmet' : met ||| 2 ^ kn < 2 ^ 12 := Nat.or_lt_two_pow hm (Nat.pow_lt_pow_right (by omega) (by omega))
            by_cases hlink : begW l (c.getD m1 0) = endW l x
            · refine ⟨.normal, [.bool false, iv (met ||| 2 ^ kn : Nat), iv ((i : Int) + 1)], g', ?_, ?_⟩
              · simp only [List.getD_eq_getElem?_getD] at hlink e2
                simp [f39_l1, hi, e1, hne, hk', cell_of hb1, rd_of hb1, hn, show ¬ (kn : Int) < 0 by omega, show ¬ (l.length : Int) ≤ kn by omega, nn, hbit, hseen, hadd, hrem, c74, hnz, hcn, e2, hlink, hor]
              · have : linkP l c i = true := by
                  rw [hlk, hxd, decide_eq_true hlink.symm]
                rw [hokF, this, Bool.and_true, if_pos rfl]
                refine ⟨rfl, rfl, _, hmet', fun j => ?_, rfl⟩
                rw [Nat.testBit_or, hbits, Nat.testBit_two_pow, List.take_add_one, hx]
                rw [Bool.eq_iff_iff]
                simp [hkn]
                exact or_congr Iff.rfl (by omega)
            · refine ⟨.ret, [.bool false, iv (met ||| 2 ^ kn : Nat), iv i], g', ?_, ?_⟩
              · simp only [List.getD_eq_getElem?_getD] at hlink e2
                simp [f39_l1, hi, e1, hne, hk', cell_of hb1, rd_of hb1, hn, show ¬ (kn : Int) < 0 by omega, show ¬ (l.length : Int) ≤ kn by omega, nn, hbit, hseen, hadd, hrem, c74, hnz, hcn, e2, hlink, hor]
              · have : linkP l c i = false := by
                  rw [hlk, hxd, decide_eq_false (fun h => hlink h.symm)]
                rw [this, Bool.and_false, if_neg (by simp)]
                exact ⟨by simp, rfl, rfl, _, _, rfl⟩
        · refine ⟨.ret, [.bool false, iv met, iv i], g', ?_, ?_⟩
          · have h3 : x = 0 ∨ kI x < 0 ∨ (l.length : Int) ≤ kI x := by unfold kIn at hin; omega
            simp [f39_l1, hi, e1, show sub .i64 (imax x (sub .i64 0 x)) 1 = kI x from rfl, cell_of hb1, hn]
            grind
          · have : okF l c i x = false := by unfold okF; rw [decide_eq_false hin]; rfl
            rw [this, Bool.false_and, if_neg (by simp)]
            exact ⟨by simp, rfl, rfl, _, _, rfl⟩)
    rcases itL_all (ok := fun i x => okF l c i x && linkP l c i) (g := fun _ _ => ()) (s0 := ()) c 0 with ⟨⟨r, h1⟩, j, x, hx, h2⟩ | ⟨h1, h2⟩
    · rw [h1] at hres
      obtain ⟨_, rfl, rfl, a, b, rfl⟩ := hres
      have hj := (List.getElem?_eq_some_iff.1 hx).1
      have hcy : cycP l c = false := by
        rw [Nat.zero_add] at h2
        have hxd : c.getD j 0 = x := by simp [List.getD, hx]
        unfold cycP
        rw [Bool.and_eq_false_iff] at h2
        rcases h2 with h2 | h2
        · have : ((List.range c.length).all fun i => okF l c i (c.getD i 0)) = false := by
            rw [List.all_eq_false]
            exact ⟨j, List.mem_range.2 hj, by rw [hxd, h2]; simp⟩
          rw [this]; simp
        · have : ((List.range c.length).all (linkP l c)) = false := by
            rw [List.all_eq_false]
            exact ⟨j, List.mem_range.2 hj, by rw [h2]; simp⟩
          rw [this]; simp
      refine (lp_eq hlp).trans ?_
      simp [hcy]
    · rw [h1] at hres
      obtain ⟨rfl, rfl, met, _, _, rfl⟩ := hres
      have hcy : cycP l c = (decide (1 ≤ c.length) && decide (c.length ≤ 12)) := by
        have h3 : ((List.range c.length).all fun i => okF l c i (c.getD i 0)) = true := by
          rw [List.all_eq_true]
          intro j hj
          have hj := List.mem_range.1 hj
          have := h2 j _ (List.getElem?_eq_getElem hj)
          rw [Nat.zero_add, Bool.and_eq_true] at this
          simpa [List.getD, List.getElem?_eq_getElem hj] using this.1
        have h4 : ((List.range c.length).all (linkP l c)) = true := by
          rw [List.all_eq_true]
          intro j hj
          have hj := List.mem_range.1 hj
          have := h2 j _ (List.getElem?_eq_getElem hj)
          rw [Nat.zero_add, Bool.and_eq_true] at this
          exact this.2
        unfold cycP
        rw [h3, h4]; simp
      refine (lp_eq hlp).trans ?_
      simp [hcy, hcn]
      grind
  exact p39 (hF (c.length + 1) (by omega)) rfl x1

end Go.AM
