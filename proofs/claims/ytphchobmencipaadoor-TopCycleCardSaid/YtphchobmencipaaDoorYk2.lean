/- Parts of the proof, put together: what the functions of the program answer, and plain laws. -/
import Derived.Test.YtphchobmencipaaDoorYk1

section

/- Blocks, the walk. -/
namespace Go.AM
open Go.Proofs
variable {R : Type}
attribute [local simp] nx_eq nx_new nx_set blk_new blk_set asI_int asK_int asB_bool asP_ptr al_eq bx_eq len_slice onE_exit onE_ret onR_ret Value.cells d3 d22 d23 d83 d72 w3 w83 cell_new cell_set rd_new rd_set off eq lt le ifB gv out ext20 ext21
/-- A loop that appends what passes a test. -/
theorem lp_filter {α : Type} {F : List Value → H → Option (Ex × List Value × H)} {k : Nat} {l : List α} {h0 : H} (p : α → Bool) (f : α → Nat) (jv : Nat → Value) (oj : Nat) (hk : l.length < k)
    (fin : ∀ sv g, Ext h0 g → F [sv, jv l.length] g = some (.exit oj, [sv, jv l.length], g))
    (step : ∀ i x sv g, l[i]? = some x → Ext h0 g → ∃ g', Ext g g' ∧ F [sv, jv i] g = if p x = true then (bls Tryd.prog g' 22 1 [(0, iv (f x : Nat))] fun v5 h5 => app Tryd.prog h5 22 22 sv v5 fun v6 h6 => some (.normal, [v6, jv (i + 1)], h6)) else some (.normal, [sv, jv (i + 1)], g'))
    {acc : List Nat} {sv : Value} {h : H} (x0 : Ext h0 h) (hap : AqR h0.nx h 3 1 sv (cellsN acc)) (hl : acc.length + l.length < 2 ^ 25) :
    ∃ sv' h', lpGo F k [sv, jv 0] h = some (.exit oj, [sv', jv l.length], h') ∧ Ext h0 h' ∧ AqR h0.nx h' 3 1 sv' (cellsN (acc ++ (l.filter p).map f)) := by
  obtain ⟨ws', h', hl', xg, hll, sv', hap', rfl⟩ := lp_for (F := F) (k := k) (l := l) (fun _ x acc => if p x = true then acc ++ [f x] else acc)
    (fun i acc' ws h' => Ext h0 h' ∧ acc'.length ≤ acc.length + i ∧ ∃ sv, AqR h0.nx h' 3 1 sv (cellsN acc') ∧ ws = [sv, jv i]) oj (ws := [sv, jv 0]) (h := h) (s0 := acc)
    ⟨x0, by omega, sv, hap, rfl⟩ hk
    (by
      rintro acc' ws g ⟨xg, _, sv, _, rfl⟩
      exact fin sv g xg)
    (by
      rintro i x acc' ws g hx ⟨xg, hal, sv, hap1, rfl⟩
      have hi := (List.getElem?_eq_some_iff.1 hx).1
      obtain ⟨g', x', hF⟩ := step i x sv g hx xg
      by_cases hp : p x = true
      · rw [if_pos hp] at hF ⊢
        obtain ⟨sv', h2, e2, a2, n2, k2, b2, hb2, hb2'⟩ := (hap1.ext x').push app22 app22 (bls22 (f x : Int)) rfl rfl (by rw [List.length_map]; omega) (xg.trans x').nx
        rw [hF, e2]
        refine ⟨_, _, rfl, ⟨by have := (xg.trans x').nx; omega, fun b hb => ?_⟩, by simp; omega, sv', ?_, rfl⟩
        · rw [k2 b (by have := (xg.trans x').nx; omega) (fun e => by have := ((hap1.ext x').blkOf e).1; omega)]
          exact (xg.trans x').blk b hb
        · have : cellsN (acc' ++ [f x]) = cellsN acc' ++ [[iv (f x : Int)]] := by simp
          rw [this]; exact a2
      · rw [if_neg hp] at hF ⊢
        rw [hF]
        exact ⟨_, _, rfl, xg.trans x', by omega, sv, hap1.ext x', rfl⟩)
  rw [foldI_filter] at hap'
  exact ⟨sv', h', hl', xg, hap'⟩

theorem s55 {S : Nat} (hS : S < 1024) (h : H) : rn 55 #[iv S] h = some (iv (pop S : Nat), h) := by
  refine p55 (k := 0) (h1 := h) ?_ rfl (.refl _)
  unfold f55
  rw [wr64u hS, calls_eq (xs := [.int .u64 S]) (s64 hS h), asI_int]

/-- Is there an element with a property? -/
theorem s90 {v : Value} {F cb : Nat} {L : List Nat} {p : Nat → Bool} {h : H} (hs : SlR h 3 1 v (cellsN L)) (hm : L.length < 2 ^ 20)
    (hp : ∀ e ∈ L, rn F #[iv e, pt cb 0] h = some (.bool (p e), h)) :
    ∃ i : Int, rn 90 #[v, .func (.func F) #[] #[pt cb 0]] h = some (iv i, h) ∧ (0 ≤ i ↔ L.any p = true) := by
  have hn : ∀ {T : Type} (K : Int → Option T), len v K = K (L.length : Int) := fun K => by rw [hs.len]; simp
  have hlp := lp_all (F := f90_l1 rn (2 ^ 21) v (.func (.func F) #[] #[pt cb 0]) L.length) (k := 2 ^ 21) (l := L) (h := h) (fun i => [iv 0, iv i])
    (fun _ x => !p x) (fun i => [iv i, iv i]) 0 [iv 0, iv L.length] (ws := [iv 0, iv 0]) rfl (by omega)
    (by simp [f90_l1])
    (by
      intro i x hx
      have hi := (List.getElem?_eq_some_iff.1 hx).1
      have hadd : add .i64 (i : Int) 1 = (i : Int) + 1 := add64 (by omega) (by omega)
      have e1 : ∀ (K : Value → Option (Ex × List Value × H)), (six v (i : Int) 1 fun b o => (h.cell b o).bind K) = K (iv x) := fun K => hs.c0 (by omega) (x := [iv x]) (by simp [hx]) rfl K
      have cF := fun (K : Value → H → Option (Ex × List Value × H)) => calls_eq (K := K) (xs := [iv x, pt cb 0]) (hp x (List.mem_of_getElem? hx))
      unfold f90_l1
      rw [show AM.gv [iv 0, iv i] 1 = iv i from rfl, asI_int, lt_t (by omega), ifB_true, asK_int]
      simp only [d3]
      rw [e1, asI_int, callsV_eq]
      rw [show (#[] : Array Value).toList ++ [Value.int .i64 x] ++ (#[pt cb 0] : Array Value).toList = [iv x, pt cb 0] from rfl, cF, asB_bool]
      cases p x <;> simp [hadd])
  rcases hlp with ⟨i, x, hx, hf, hbe, hl⟩ | ⟨hall, hl⟩
  · refine ⟨i, ?_, fun _ => ?_, fun _ => by omega⟩
    · refine p90 (k := 2 ^ 21) (h1 := h) ?_ rfl (.refl _)
      unfold f90
      rw [hn]
      exact (lp_eq hl).trans rfl
    · rw [List.any_eq_true]
      exact ⟨x, List.mem_of_getElem? hx, by simpa using hf⟩
  · refine ⟨-1, ?_, fun hc => by omega, fun hc => ?_⟩
    · refine p90 (k := 2 ^ 21) (h1 := h) ?_ rfl (.refl _)
      unfold f90
      rw [hn]
      exact (lp_eq hl).trans rfl
    · obtain ⟨x, hx, hpx⟩ := List.any_eq_true.1 hc
      obtain ⟨i, hi, rfl⟩ := List.getElem_of_mem hx
      have := hall i _ (List.getElem?_eq_getElem hi)
      rw [hpx] at this
      cases this

theorem s52 {v : Value} {F cb : Nat} {L : List Nat} {p : Nat → Bool} {h : H} (hs : SlR h 3 1 v (cellsN L)) (hm : L.length < 2 ^ 20)
    (hp : ∀ e ∈ L, rn F #[iv e, pt cb 0] h = some (.bool (p e), h)) : rn 52 #[v, .func (.func F) #[] #[pt cb 0]] h = some (.bool (L.any p), h) := by
  obtain ⟨i, e, hi⟩ := s90 hs hm hp
  refine p52 (k := 0) (h1 := h) ?_ rfl (.refl _)
  unfold f52
  rw [calls_eq (xs := [v, .func (.func F) #[] #[pt cb 0]]) e, asI_int]
  have : AM.le 0 i = L.any p := by
    rw [Bool.eq_iff_iff, ← hi, AM.le, decide_eq_true_iff]
  rw [this]

/-- Does another set contain this one? The closure. -/
def overQ (b x : Nat) : Bool := decide (x ≠ b) && decide (without b x = 0)

theorem s83 {q b x : Nat} {h : H} (hb : b < 1024) (hx : x < 1024) (hq : h.cell q 0 = some (iv b)) : rn 83 #[iv x, pt q 0] h = some (.bool (overQ b x), h) := by
  have hcalc : AM.andNot .i64 (b : Int) (x : Int) = ((without b x : Nat) : Int) := andNot_nat (by omega) (by omega)
  refine p83 (k := 0) (h1 := h) ?_ rfl (.refl _)
  unfold f83
  simp only [asP_ptr, d3, hq, Option.bind_some, asI_int, hcalc]
  unfold overQ
  by_cases h1 : x = b
  · subst h1; simp
  · have : AM.eq (x : Int) (b : Int) = false := by simp; omega
    rw [this, decide_eq_true h1]
    by_cases h2 : without b x = 0
    · rw [h2]; rfl
    · have : AM.eq ((without b x : Nat) : Int) 0 = false := by simp; omega
      rw [this, decide_eq_false h2]; rfl

/-! ### The program's blocks -/
/-- A lone node, or a set of more that is connected without a cut node. -/
noncomputable def cand2 (g : List Nat) (S : Nat) : Bool := decide (1 < pop S) && connS g S && decide (cutsP g S = 0)

noncomputable def loneQ (g : List Nat) (S : Nat) : Bool := decide (pop S = 1) && decide (nb g (low S) = 0)

noncomputable def candQ (g : List Nat) (S : Nat) : Bool := loneQ g S || cand2 g S

noncomputable def candsP (g : List Nat) : List Nat := ((List.range (allN g)).map (· + 1)).filter (candQ g)

/-- All blocks, rising. -/
noncomputable def blocksP (g : List Nat) : List Nat := (candsP g).filter fun b => !(candsP g).any (overQ b)

theorem mem_cands {g : List Nat} {S : Nat} : S ∈ candsP g ↔ 0 < S ∧ S < 2 ^ g.length ∧ candQ g S = true := by
  have := Nat.two_pow_pos g.length
  unfold candsP allN
  rw [List.mem_filter, List.mem_map]
  constructor
  · rintro ⟨⟨i, hi, rfl⟩, h⟩
    have := List.mem_range.1 hi
    exact ⟨by omega, by omega, h⟩
  · rintro ⟨h1, h2, h3⟩
    exact ⟨⟨S - 1, List.mem_range.2 (by omega), by omega⟩, h3⟩

theorem cands_len {g : List Nat} (hg : GrB g) : (candsP g).length ≤ 1023 := by
  have := hg.pow
  unfold candsP
  refine Nat.le_trans (List.length_filter_le _ _) ?_
  unfold allN
  simp
  omega

set_option maxHeartbeats 1000000 in
theorem s37 {tv : Value} {g : List Nat} {h : H} (hg : GrB g) (hs : SlR h 3 1 tv (cellsN g)) :
    ∃ v' h', rn 37 #[tv] h = some (v', h') ∧ Exw h h' ∧ SlR h' 3 1 v' (cellsN (blocksP g)) := by
  have hlen := hg.len
  have hpow := hg.pow
  have hp2 := Nat.two_pow_pos g.length
  have hall : allN g < 1024 := by have := allN_lt g; omega
  obtain ⟨sv1, h1, hl1, x1, hap1⟩ := lp_filter (F := f37_l1 rn 200000 tv) (k := 200000) (l := (List.range (allN g)).map (· + 1)) (h0 := h) (candQ g) id (fun i => iv ((i + 1 : Nat) : Int)) 0 (by simp; omega)
    (by
      intro sv g' xg
      have c65 := fun (K : Value → H → Option (Ex × List Value × H)) => calls_eq (K := K) (xs := [tv]) (s43 hg (hs.ext xg))
      have : ¬ ((allN g : Int) + 1 ≤ (allN g : Int)) := by omega
      simp [f37_l1, c65, this])
    (by
      intro i S sv g' hx xg
      obtain ⟨j, hj, rfl⟩ : ∃ j, i < allN g ∧ S = i + 1 := by
        rw [List.getElem?_map] at hx
        obtain ⟨j, hj, rfl⟩ := Option.map_eq_some_iff.1 hx
        obtain ⟨h1, rfl⟩ := range_get hj
        exact ⟨0, h1, rfl⟩
      have hsg := hs.ext xg
      have hS : i + 1 < 2 ^ g.length := by have := allN_lt g; omega
      have hS' : i + 1 < 1024 := by omega
      obtain ⟨S, hSe⟩ : ∃ S, S = i + 1 := ⟨_, rfl⟩
      rw [← hSe] at hS hS' ⊢
      have c65 := fun (K : Value → H → Option (Ex × List Value × H)) => calls_eq (K := K) (xs := [tv]) (s43 hg hsg)
      have c93 := fun (K : Value → H → Option (Ex × List Value × H)) => calls_eq (K := K) (xs := [iv S]) (s55 hS' g')
      have c89 := fun (K : Value → H → Option (Ex × List Value × H)) => calls_eq (K := K) (xs := [.int .u64 S]) (s79 (by omega) hS' g')
      have hlow := low_lt hg hS (by omega)
      have e2 := fun (K : Value → Option (Ex × List Value × H)) => getN hsg hlow K
      have c64 := fun (K : Value → H → Option (Ex × List Value × H)) => calls_eq (K := K) (xs := [tv, iv S]) (s44 hg hsg hS)
      have c70 := fun (K : Value → H → Option (Ex × List Value × H)) => calls_eq (K := K) (xs := [tv, iv S]) (s42 hg hsg hS)
      have hadd : add .i64 (S : Int) 1 = ((S + 1 : Nat) : Int) := by rw [add64 (by omega) (by omega)]; omega
      have hle : (S : Int) ≤ (allN g : Int) := by omega
      refine ⟨g', .refl _, ?_⟩
      unfold f37_l1 candQ loneQ cand2
      rw [show AM.gv [sv, iv S] 1 = iv S from rfl, show AM.gv [sv, iv S] 0 = sv from rfl]
      simp only [c65, asI_int, c93, wr64u hS', c89, d3, e2, c64, asB_bool, c70, hadd, id_eq]
      rw [show AM.le (S : Int) (allN g : Int) = true by simp; omega, ifB_true]
      by_cases h1 : pop S = 1
      · rw [h1, show AM.eq ((1 : Nat) : Int) 1 = true from rfl, ifB_true, show AM.lt 1 ((1 : Nat) : Int) = false from rfl, ifB_false]
        by_cases h2 : nb g (low S) = 0
        · rw [h2, show AM.eq ((0 : Nat) : Int) 0 = true from rfl, ifB_true]
          simp
        · rw [show AM.eq (nb g (low S) : Int) 0 = false by simp; omega, ifB_false]
          simp [h2]
      · rw [show AM.eq (pop S : Int) 1 = false by simp; omega, ifB_false]
        by_cases h2 : 1 < pop S
        · rw [show AM.lt 1 (pop S : Int) = true by simp; omega, ifB_true]
          cases h3 : connS g S with
          | false => simp [h1, h2]
          | true =>
            by_cases h4 : cutsP g S = 0
            · rw [h4]; simp [h1, h2]
            · rw [ifB_true, show AM.eq (cutsP g S : Int) 0 = false by simp; omega, ifB_false]
              simp [h1, h2, h4]
        · rw [show AM.lt 1 (pop S : Int) = false by simp; omega, ifB_false]
          simp [h1, h2])
    (acc := []) (sv := .slice none 0 0) (h := h) (.refl _) .nil (by simp; omega)
  rw [List.nil_append, List.map_id_fun, id_eq] at hap1
  have hs1 := hap1.slR
  have hcl := cands_len hg
  have hn1 : ∀ {T : Type} (K : Int → Option T), len sv1 K = K ((candsP g).length : Int) := fun K => by
    rw [hs1.len, List.length_map]; rfl
  obtain ⟨sv2, h2, hl2, x2, hap2⟩ := lp_filter (F := f37_l2 rn 200000 [sv1, iv (((List.range (allN g)).map (· + 1)).length + 1 : Nat)] (candsP g).length) (k := 200000) (l := candsP g) (h0 := h1) (fun b => !(candsP g).any (overQ b)) id (fun i => iv (i : Int)) 2 (by omega)
    (by
      intro sv g' xg
      simp [f37_l2])
    (by
      intro i b sv g' hx xg
      have hi := (List.getElem?_eq_some_iff.1 hx).1
      obtain ⟨hb0, hb1, hb2⟩ := mem_cands.1 (List.mem_of_getElem? hx)
      have hsg := hs1.ext xg
      have e1 : ∀ (K : Value → Option (Ex × List Value × H)), (six sv1 (i : Int) 1 fun b o => (g'.cell b o).bind K) = K (iv b) := fun K => hsg.c0 (by omega) (x := [iv b]) (by
        have : (cellsN (candsP g))[i]? = some [iv b] := by simp [hx]
        exact this) rfl K
      obtain ⟨g3, hg3⟩ : ∃ g3, g3 = (g'.new (.row [.int .i64 0] 3 true)).set g'.nx (.row [iv b] 3 true) := ⟨_, rfl⟩
      have hb3 : g3.blk g'.nx = some (.row [iv b] 3 true) := by rw [hg3]; exact blk_set_self _ _ _
      have x3 : Ext g' g3 := by rw [hg3]; exact ((Ext.refl g').new' _).set (Nat.le_refl _) _
      have hc3 : g3.cell g'.nx 0 = some (iv b) := by rw [cell_of hb3]; rfl
      have w2 : ∀ (K : H → Option (Ex × List Value × H)), (wrc 1 (g'.new (.row [.int .i64 0] 3 true)) g'.nx 0 (iv b)).bind K = K g3 := fun K => by
        rw [wrc_one (blk_new_self _ _) rfl rfl (by simp), hg3]; rfl
      have c91 := fun (K : Value → H → Option (Ex × List Value × H)) => calls_eq (K := K) (xs := [sv1, .func (.func 83) #[] #[pt g'.nx 0]]) (s52 (F := 83) (cb := g'.nx) (p := overQ b) (hsg.ext x3) (by
        show (candsP g).length < 2 ^ 20; omega) (fun e he => by
        obtain ⟨_, h5, _⟩ := mem_cands.1 he
        exact s83 (by omega) (by omega) hc3))
      have hadd : add .i64 (i : Int) 1 = ((i + 1 : Nat) : Int) := by rw [add64 (by omega) (by omega)]; omega
      refine ⟨g3, x3, ?_⟩
      unfold f37_l2
      rw [show AM.gv [sv, iv i] 1 = iv i from rfl, show AM.gv [sv, iv i] 0 = sv from rfl, asI_int, lt_t (by omega), ifB_true, asK_int]
      simp only [gv, List.getD_cons_zero, d3, e1, asI_int, al_eq, w3, nx_eq, w2, c91, asB_bool, hc3, Option.bind_some, hadd, id_eq]
      have : (List.filter (candQ g) (List.map (fun x => x + 1) (List.range (allN g)))).any (overQ b) = (candsP g).any (overQ b) := rfl
      rw [this]
      cases (candsP g).any (overQ b) <;> simp)
    (acc := []) (sv := .slice none 0 0) (h := h1) (.refl _) .nil (by simp; omega)
  rw [List.nil_append, List.map_id_fun, id_eq] at hap2
  obtain ⟨h3, e3, m3, w3'⟩ := x37 (k := 200000) (v0 := tv) (h := h) (h1 := h2) (v := sv2) (by
    unfold f37
    refine (lp_eq hl1).trans ?_
    rw [onE_exit, if_pos rfl]
    simp only [gv, List.getD_cons_zero, hn1]
    refine (lp_eq hl2).trans ?_
    rfl) hap2.slR.notR
  exact ⟨sv2, h3, e3, w3' (x1.trans x2), hap2.slR.ext m3.ext⟩

end Go.AM

end

section

/- Blocks: the document's search finds the same (plain), and its walk. -/
namespace Go.AM
open Go.Proofs
variable {R : Type}
/-! ### Plain -/
/-- A part of another set. -/
def subS (a b : Nat) : Prop := without a b = 0

theorem subS_iff {a b : Nat} : subS a b ↔ ∀ i, a.testBit i = true → b.testBit i = true := by
  unfold subS
  constructor
  · intro h i hi
    have := testBit_without a b i
    rw [h] at this
    cases hb : b.testBit i with
    | true => rfl
    | false => rw [hi, hb] at this; simp at this
  · intro h
    apply Nat.eq_of_testBit_eq
    intro i
    rw [testBit_without]
    cases ha : a.testBit i with
    | false => simp
    | true => rw [h i ha]; simp

theorem subS_refl (a : Nat) : subS a a := subS_iff.2 fun _ h => h

theorem subS_trans {a b c : Nat} (h1 : subS a b) (h2 : subS b c) : subS a c := subS_iff.2 fun i h => subS_iff.1 h2 i (subS_iff.1 h1 i h)

theorem subS_pop {a b : Nat} (hb : b < 1024) (h : subS a b) (hne : a ≠ b) : pop a < pop b := by
  have h' := subS_iff.1 h
  obtain ⟨i, hi⟩ : ∃ i, a.testBit i ≠ b.testBit i := Classical.byContradiction fun hc => hne (Nat.eq_of_testBit_eq fun i => Classical.byContradiction fun hh => hc ⟨i, hh⟩)
  have hai : a.testBit i = false := by
    cases ha : a.testBit i with
    | false => rfl
    | true => rw [ha, h' i ha] at hi; exact absurd rfl hi
  have hbi : b.testBit i = true := by
    cases hb : b.testBit i with
    | true => rfl
    | false => rw [hai, hb] at hi; exact absurd rfl hi
  exact pop_lt hb h' hbi hai

/-- The greatest ones of those with a property. -/
def Mx (n : Nat) (c : Nat → Bool) (S : Nat) : Prop := S < 2 ^ n ∧ c S = true ∧ ∀ x, x < 2 ^ n → c x = true → subS S x → x = S

theorem mx_above {n : Nat} (hn : n ≤ 10) {c : Nat → Bool} : ∀ (d S : Nat), pop S + d = 10 → S < 2 ^ n → c S = true → ∃ y, Mx n c y ∧ subS S y := by
  have hp : 2 ^ n ≤ 1024 := Nat.pow_le_pow_right (n := 2) (by omega) hn
  intro d
  induction d using Nat.strongRecOn with
  | _ d ih =>
    intro S hd hS hc
    by_cases hm : ∀ x, x < 2 ^ n → c x = true → subS S x → x = S
    · exact ⟨S, ⟨hS, hc, hm⟩, subS_refl S⟩
    · obtain ⟨x, hx⟩ := Classical.not_forall.1 hm
      obtain ⟨hx1, hx⟩ := Classical.not_imp.1 hx
      obtain ⟨hx2, hx⟩ := Classical.not_imp.1 hx
      obtain ⟨hx3, hx4⟩ := Classical.not_imp.1 hx
      have h1 := subS_pop (by omega) hx3 (fun e => hx4 e.symm)
      have h2 := pop_le_n (Nat.le_refl 10) (show x < 2 ^ 10 by omega)
      obtain ⟨y, hy1, hy2⟩ := ih (10 - pop x) (by omega) x (by omega) hx1 hx2
      exact ⟨y, hy1, subS_trans hx3 hy2⟩

theorem pop_zero' {S : Nat} (hS : S < 1024) (h : pop S = 0) : S = 0 := by
  refine Classical.byContradiction fun hc => ?_
  have := (elts_next (Nat.pos_of_ne_zero hc) hS).1
  have h1 := elts_len S
  rw [this, h] at h1
  simp at h1

theorem pop_one {S : Nat} (hS : S < 1024) (h : pop S = 1) : S = 2 ^ low S := by
  have h0 : 0 < S := by
    refine Nat.pos_of_ne_zero fun e => ?_
    subst e
    revert h; decide
  have h1 := elts_len S
  have h2 := (elts_next h0 hS).1
  have h3 : elts (S &&& (S - 1)) = [] := by
    rw [h2, h] at h1
    simpa using h1
  refine Nat.eq_of_testBit_eq fun i => ?_
  rw [Bool.eq_iff_iff, ← mem_elts hS, h2, h3, Nat.testBit_two_pow]
  simp [eq_comm]

/-- The blocks, in order. -/
theorem mem_blocks {g : List Nat} {S : Nat} : S ∈ blocksP g ↔ Mx g.length (candQ g) S := by
  unfold blocksP Mx
  rw [List.mem_filter, mem_cands]
  simp only [Bool.not_eq_true', List.any_eq_false, mem_cands]
  constructor
  · rintro ⟨⟨h1, h2, h3⟩, h4⟩
    refine ⟨h2, h3, fun x hx hcx hsub => ?_⟩
    refine Classical.byContradiction fun hne => ?_
    refine h4 x ⟨?_, hx, hcx⟩ ?_
    · refine Nat.pos_of_ne_zero fun e => ?_
      subst e
      revert hcx
      unfold candQ loneQ cand2
      simp [show pop 0 = 0 by decide]
    · unfold overQ
      rw [decide_eq_true hne, decide_eq_true (show without S x = 0 from hsub)]
      rfl
  · rintro ⟨h1, h2, h3⟩
    refine ⟨⟨?_, h1, h2⟩, fun x ⟨_, hx, hcx⟩ ho => ?_⟩
    · refine Nat.pos_of_ne_zero fun e => ?_
      subst e
      revert h2
      unfold candQ loneQ cand2
      simp [show pop 0 = 0 by decide]
    · unfold overQ at ho
      simp only [Bool.and_eq_true, decide_eq_true_iff] at ho
      exact ho.1 (h3 x hx hcx ho.2)

end Go.AM

end

section

/- Blocks, the walk of the document's search. -/
namespace Go.AM
open Go.Proofs
variable {R : Type}
attribute [local simp] nx_eq nx_new nx_set blk_new blk_set asI_int asK_int asB_bool asP_ptr al_eq bx_eq len_slice onE_exit onE_ret onR_ret Value.cells d3 d22 d23 d83 d72 w3 w83 cell_new cell_set rd_new rd_set off eq lt le ifB gv out ext20 ext21
theorem s10 {v : Value} {g : List Nat} {h : H} (hg : GrN g) (hval : validG (g.map Int.ofNat) = true) (hs : SlR h 3 1 v (cellsN g)) :
    ∃ v' h', rn 10 #[v] h = some (.tuple #[v', iv 0], h') ∧ Exw h h' ∧ SlR h' 3 1 v' (cellsN (blocksP g)) := by
  have c63 := fun (K : Value → H → Option (Value × H)) => calls_eq (K := K) (xs := [v]) (s36 (l := g.map Int.ofNat) (h := h) (by rw [cellsN_eq]; exact hs))
  rw [if_pos hval] at c63
  obtain ⟨v', h1, e37, x1, hs1⟩ := s37 hg.toGrB hs
  have c90 := fun (K : Value → H → Option (Value × H)) => calls_eq (K := K) (xs := [v]) e37
  obtain ⟨h2, e2, m2, w2⟩ := x10 (k := 0) (v0 := v) (h := h) (h1 := h1) (v := .tuple #[v', iv 0]) (by
    simp [f10, c63, c90]) hs1.notR2
  exact ⟨v', h2, e2, w2 x1.toExt, hs1.ext m2.ext⟩

end Go.AM

end

section

/- PLAIN: connected sets, sets without cut nodes, how many ends of edges there are. -/
namespace Go.AM
open Go.Proofs
/-! ### Reaching -/
theorem Rch.trans {g : List Nat} {W a b c : Nat} (h1 : Rch g W a b) (h2 : Rch g W b c) : Rch g W a c := by
  induction h2 with
  | base => exact h1
  | step _ hab hb ih => exact .step ih hab hb

theorem Rch.mem {g : List Nat} {W a b : Nat} (h : Rch g W a b) (ha : W.testBit a = true) : W.testBit b = true := by
  cases h with
  | base => exact ha
  | step _ _ hb => exact hb

theorem Rch.one {g : List Nat} {W a b : Nat} (h : adj g a b = true) (hb : W.testBit b = true) : Rch g W a b := .step .base h hb

theorem Rch.sym {g : List Nat} (hs : ∀ a b, adj g a b = adj g b a) {W a b : Nat} (h : Rch g W a b) (ha : W.testBit a = true) : Rch g W b a := by
  induction h with
  | base => exact .base
  | @step x y hx hxy hy ih => exact (Rch.one (by rw [hs]; exact hxy) (hx.mem ha)).trans ih

theorem Rch.mono {g : List Nat} {W W' a b : Nat} (h : Rch g W a b) (hs : ∀ i, W.testBit i = true → W'.testBit i = true) : Rch g W' a b := by
  induction h with
  | base => exact .base
  | step _ hab hb ih => exact .step ih hab (hs _ hb)

/-- A set all of whose nodes reach each other within it. -/
def Conn (g : List Nat) (S : Nat) : Prop := ∀ a b, S.testBit a = true → S.testBit b = true → Rch g S a b

theorem conn_iff {g : List Nat} (hg : GrN g) {S : Nat} (hS : S < 2 ^ g.length) : connS g S = true ↔ Conn g S := by
  have hpow := hg.pow
  have hlen := hg.len
  have hS' : S < 1024 := by omega
  unfold connS
  by_cases h0 : S = 0
  · subst h0
    simp only [decide_true, Bool.true_or, true_iff]
    intro a b ha
    simp at ha
  · have hl := low_lt hg.toGrB hS h0
    have hlb := low_bit (Nat.pos_of_ne_zero h0) hS'
    rw [decide_eq_false h0, Bool.false_or, decide_eq_true_iff]
    constructor
    · intro h a b ha hb
      have h1 : ∀ i, S.testBit i = true → Rch g S (low S) i := fun i hi => (rch_bit (by omega) hS').1 (by rw [h]; exact hi)
      exact ((h1 a ha).sym hg.sym hlb).trans (h1 b hb)
    · intro h
      refine (rch_eq (by omega) hS' hS' hlb (fun u hu => h _ _ hlb hu) fun a b _ _ hb => hb).symm

/-- A set of which any node may be taken away. -/
def Bi (g : List Nat) (S : Nat) : Prop := ∀ w, Conn g (without S (2 ^ w))

theorem bit_del {S w i : Nat} : (without S (2 ^ w)).testBit i = true ↔ S.testBit i = true ∧ i ≠ w := by
  rw [testBit_without, Nat.testBit_two_pow, Bool.and_eq_true, Bool.not_eq_true', decide_eq_false_iff_not]
  exact ⟨fun h => ⟨h.1, fun e => h.2 e.symm⟩, fun h => ⟨h.1, fun e => h.2 e.symm⟩⟩

theorem del_none {S w : Nat} (h : S.testBit w = false) : without S (2 ^ w) = S := by
  refine Nat.eq_of_testBit_eq fun i => ?_
  rw [Bool.eq_iff_iff, bit_del]
  exact ⟨And.left, fun hi => ⟨hi, fun e => by subst e; rw [h] at hi; cases hi⟩⟩

theorem Bi.conn {g : List Nat} {S : Nat} (hS : S < 1024) (h : Bi g S) : Conn g S := by
  have := h 10
  rwa [del_none (big_bit (n := 10) hS (Nat.le_refl _))] at this

theorem cand2_iff {g : List Nat} (hg : GrN g) {S : Nat} (hS : S < 2 ^ g.length) : cand2 g S = true ↔ 1 < pop S ∧ Bi g S := by
  have hpow := hg.pow
  have hlen := hg.len
  have hS' : S < 1024 := by omega
  unfold cand2
  simp only [Bool.and_eq_true, decide_eq_true_iff]
  have hrch : Conn g S → ∀ v, S.testBit v = true → rch g S v = S := fun hc v hv =>
    (rch_eq (by have := bit_lt hS hv; omega) hS' hS' hv (fun u hu => hc _ _ hv hu) fun a b _ _ hb => hb).symm
  have hcut : Conn g S → (cutsP g S = 0 ↔ ∀ v, S.testBit v = true → Conn g (without S (2 ^ v))) := by
    intro hc
    constructor
    · intro h v hv
      have h1 : ¬ (cutsP g S).testBit v = true := by rw [h]; simp
      rw [cutsP_bit hS'] at h1
      have h2 : cutQ g S v = false := by
        cases hq : cutQ g S v with
        | false => rfl
        | true => exact absurd ⟨hv, hq⟩ h1
      unfold cutQ at h2
      rw [hrch hc v hv, Bool.not_eq_false'] at h2
      exact (conn_iff hg (without_le _ _ hS)).1 h2
    · intro h
      refine Nat.eq_of_testBit_eq fun v => ?_
      rw [Nat.zero_testBit, Bool.eq_false_iff]
      intro hb
      obtain ⟨hv, hq⟩ := (cutsP_bit hS').1 hb
      unfold cutQ at hq
      rw [hrch hc v hv, (conn_iff hg (without_le _ _ hS)).2 (h v hv)] at hq
      cases hq
  constructor
  · rintro ⟨⟨h1, h2⟩, h3⟩
    have hc := (conn_iff hg hS).1 h2
    refine ⟨h1, fun w => ?_⟩
    cases hw : S.testBit w with
    | false => rw [del_none hw]; exact hc
    | true => exact (hcut hc).1 h3 w hw
  · rintro ⟨h1, h2⟩
    have hc := h2.conn hS'
    exact ⟨⟨h1, (conn_iff hg hS).2 hc⟩, (hcut hc).2 fun v _ => h2 v⟩

/-! ### Ends of edges -/
theorem elts_n {b n : Nat} (hn : n ≤ 10) (hb : b < 2 ^ n) : elts b = (List.range n).filter fun i => b.testBit i := by
  unfold elts
  rw [show 10 = n + (10 - n) by omega, List.range_add, List.filter_append]
  have : (((List.range (10 - n)).map (n + ·)).filter fun i => b.testBit i) = [] := by
    rw [List.filter_eq_nil_iff]
    intro x hx
    obtain ⟨y, _, rfl⟩ := List.mem_map.1 hx
    rw [big_bit hb (by omega)]
    simp
  rw [this, List.append_nil]

/-- How many ends of edges lie in a set. -/
def ends (g : List Nat) (b : Nat) : Nat := foldI (fun _ v s => s + pop (nb g v &&& b)) (elts b) 0 0

/-- A node more than some few. -/
theorem exists_other {S a b : Nat} (hS : S < 1024) (h : 2 < pop S) : ∃ c, S.testBit c = true ∧ c ≠ a ∧ c ≠ b := by
  refine Classical.byContradiction fun hc => ?_
  have hall : ∀ c, S.testBit c = true → c = a ∨ c = b := fun c hcb => Classical.byContradiction fun hh => hc ⟨c, hcb, fun e => hh (.inl e), fun e => hh (.inr e)⟩
  have hlen := elts_len S
  have hnd := elts_nodup S
  have hm : ∀ c ∈ elts S, c = a ∨ c = b := fun c h => hall c ((mem_elts hS).1 h)
  rw [← hlen] at h
  match hE : elts S with
  | [] => rw [hE] at h; simp at h
  | [x] => rw [hE] at h; simp at h
  | [x, y] => rw [hE] at h; simp at h
  | x :: y :: z :: l =>
    rw [hE] at hm hnd
    have h1 := hm x (by simp)
    have h2 := hm y (by simp)
    have h3 := hm z (by simp)
    simp only [List.nodup_cons, List.mem_cons, not_or] at hnd
    omega

theorem exists_other1 {S a : Nat} (hS : S < 1024) (h : 1 < pop S) : ∃ c, S.testBit c = true ∧ c ≠ a := by
  refine Classical.byContradiction fun hc => ?_
  have hall : ∀ c, S.testBit c = true → c = a := fun c hcb => Classical.byContradiction fun hh => hc ⟨c, hcb, hh⟩
  have hlen := elts_len S
  have hnd := elts_nodup S
  have hm : ∀ c ∈ elts S, c = a := fun c h => hall c ((mem_elts hS).1 h)
  rw [← hlen] at h
  match hE : elts S with
  | [] => rw [hE] at h; simp at h
  | [x] => rw [hE] at h; simp at h
  | x :: y :: l =>
    rw [hE] at hm hnd
    have h1 := hm x (by simp)
    have h2 := hm y (by simp)
    simp only [List.nodup_cons, List.mem_cons, not_or] at hnd
    omega

/-- Who reaches another node has a neighbour. -/
theorem Rch.next {g : List Nat} {W a b : Nat} (h : Rch g W a b) (hne : b ≠ a) : ∃ u, adj g a u = true ∧ W.testBit u = true ∧ Rch g W u b := by
  induction h with
  | base => exact absurd rfl hne
  | @step x y hx hxy hy ih =>
    by_cases hxa : x = a
    · subst hxa
      exact ⟨y, hxy, hy, .base⟩
    · obtain ⟨u, h1, h2, h3⟩ := ih hxa
      exact ⟨u, h1, h2, .step h3 hxy hy⟩

/-! ### Cactus -/
end Go.AM

end

section

/- The width of a graph, as the program finds it. -/
namespace Go.AM
open Go.Proofs
variable {k : Nat} {R : Type}
attribute [local simp] nx_eq nx_new nx_set blk_new blk_set asI_int asK_int asB_bool asP_ptr al_eq bx_eq len_slice onE_exit onE_ret onR_ret Value.cells d3 d22 d23 cell_new cell_set rd_new rd_set off eq lt le ifB gv out
theorem s108 {S : Nat} (hS : S < 1024) (h : H) : ∃ v' h', rn 108 #[iv S] h = some (v', h') ∧ Exw h h' ∧ SlR h' 3 1 v' (cellsN (elts S)) ∧ ∀ q, AM.blkOf v' = some q → h.nx ≤ q := by
  obtain ⟨e, ws', h', hl, rfl, xg, v, w, hap, rfl⟩ := lpGo_inv (F := f108_l1 rn 2000)
    (fun d ws g => Ext h g ∧ ∃ (v : Value) (x : Nat) (L : List Nat), ws = [v, iv x] ∧ d = x ∧ x < 1024 ∧ L ++ elts x = elts S ∧ AqR h.nx g 3 1 v (cellsN L))
    (fun e ws g => e = .exit 0 ∧ Ext h g ∧ ∃ v w, AqR h.nx g 3 1 v (cellsN (elts S)) ∧ ws = [v, w])
    (by
      rintro d ws g ⟨xg, v, x, L, rfl, rfl, hx, hL, hap⟩
      by_cases hx0 : d = 0
      · subst hx0
        rw [elts_zero, List.append_nil] at hL
        subst hL
        exact ⟨.exit 0, [v, iv 0], _, by simp [f108_l1], .inr ⟨by simp, rfl, xg, v, iv 0, hap, rfl⟩⟩
      · have h0 : 0 < d := Nat.pos_of_ne_zero hx0
        obtain ⟨h1, h2⟩ := elts_next h0 hx
        have c89 := fun (K : Value → H → Option (Ex × List Value × H)) => calls_eq (K := K) (xs := [.int .u64 d]) (s79 h0 hx g)
        have hsub : sub .i64 (d : Int) 1 = ((d - 1 : Nat) : Int) := by rw [sub64 (by omega) (by omega)]; omega
        have hand : AM.and .i64 (d : Int) ((d - 1 : Nat) : Int) = ((d &&& (d - 1) : Nat) : Int) := and_nat (by omega) (by omega)
        have hLl : L.length ≤ 10 := by
          have h3 := congrArg List.length hL
          rw [List.length_append, elts_len S] at h3
          have := pop_le_n (Nat.le_refl 10) hS
          omega
        obtain ⟨v', g2, e2, a2, n2, k2, b2, hb2, hb2'⟩ := hap.push app22 app22 (bls22 (low d : Int)) rfl rfl (by simp; omega) xg.nx
        have ee : ∀ (K : Value → H → Option (Ex × List Value × H)), (bls Tryd.prog g 22 1 [(0, iv (low d : Nat))] fun y h2 => app Tryd.prog h2 22 22 v y K) = K v' g2 := fun K => e2 K
        refine ⟨.normal, [v', iv (d &&& (d - 1) : Nat)], g2, ?_, .inl ⟨rfl, d &&& (d - 1), h2, ⟨by have := xg.nx; omega, fun b hb => ?_⟩, v', d &&& (d - 1), L ++ [low d], rfl, rfl, by omega, ?_, ?_⟩⟩
        · unfold f108_l1
          rw [show AM.gv [v, iv d] 1 = iv d from rfl, show AM.gv [v, iv d] 0 = v from rfl, asI_int, show AM.eq (d : Int) 0 = false by simp; omega, show (!false) = true from rfl, ifB_true, asI_int, wr64u hx, c89, asI_int, ee, asI_int, asI_int, hsub, hand]
          rfl
        · rw [k2 b (by have := xg.nx; omega) (fun e => by have := (hap.blkOf e).1; omega)]
          exact xg.blk b hb
        · rw [← hL, h1]; simp
        · have : cellsN (L ++ [low d]) = cellsN L ++ [[iv (low d : Int)]] := by simp
          rw [this]; exact a2)
    S 2000 (by omega) ⟨.refl _, .slice none 0 0, S, [], rfl, rfl, hS, rfl, .nil⟩
  obtain ⟨h2, e2, m2, w2⟩ := x108 (k := 2000) (n0 := S) (h := h) (h1 := h') (v := v) (by
    unfold f108
    exact (lp_eq hl).trans rfl) (by obtain ⟨x, y, z, hz⟩ := hap.isSl; rw [hz]; rfl)
  exact ⟨v, h2, e2, w2 xg, hap.slR.ext m2.ext, fun q hq => (hap.blkOf hq).1⟩

theorem s39 {v : Value} {l : List Int} {h : H} (hs : SlR h 3 1 v (cellsI l)) (h9 : l.length ≤ 9) : rn 39 #[v] h = some (if validG l = true then .tuple #[v, .bool true] else .tuple #[.slice none 0 0, .bool false], h) := by
  have hn : ∀ {T : Type} (K : Int → Option T), len v K = K (l.length : Int) := fun K => by rw [hs.len]; simp
  by_cases hl : 1 ≤ l.length ∧ l.length ≤ 10
  · have hni : ∀ i : Nat, nn (i : Int) = fun (z : Option (Ex × List Value × H)) => z := fun i => by funext z; exact nn_ge (by omega) z
    have hb : ∀ a b : Int, AM.and .i64 (shr .i64 a b) 1 = bitI a b := fun _ _ => rfl
    have inner := fun (i : Nat) (x : Int) (_ : l[i]? = some x) => lp_all (F := f39_l2 rn 200010 v l.length [.slice none 0 0, .bool false, iv i] x) (k := 200010) (l := l) (h := h) (fun j => [.slice none 0 0, .bool false, iv j])
      (fun j y => decide (bitI x j = bitI y i)) (fun j => [.slice none 0 0, .bool false, iv j]) 2 [.slice none 0 0, .bool false, iv l.length] (ws := [.slice none 0 0, .bool false, iv 0]) rfl (by omega)
      (by simp [f39_l2])
      (by
        intro j y hy
        have hj := (List.getElem?_eq_some_iff.1 hy).1
        have hadd : add .i64 (j : Int) 1 = (j : Int) + 1 := add64 (by omega) (by omega)
        have e1 := fun (K : Value → Option (Ex × List Value × H)) => getL hs hy K
        by_cases hq : bitI x j = bitI y i
        · simp [f39_l2, hj, hni, e1, hb, hq, hadd]
        · simp [f39_l2, hj, hni, e1, hb, hq])
    have hlp := lp_all (F := f39_l1 rn 200010 v l.length l.length) (k := 200010) (l := l) (h := h) (fun i => [.slice none 0 0, .bool false, iv i])
      (fun i x => rowOk l i x) (fun i => [.slice none 0 0, .bool false, iv i]) 0 [.slice none 0 0, .bool false, iv l.length] (ws := [.slice none 0 0, .bool false, iv 0]) rfl (by omega)
      (by simp [f39_l1])
      (by
        intro i x hx
        have hi := (List.getElem?_eq_some_iff.1 hx).1
        have hadd : add .i64 (i : Int) 1 = (i : Int) + 1 := add64 (by omega) (by omega)
        have e1 := fun (K : Value → Option (Ex × List Value × H)) => getL hs hx K
        have hall : rowOk l i x = (!decide (x < 0) && !decide (AM.shl .i64 1 (l.length : Int) ≤ x) && !decide (bitI x i = 1) && (List.range l.length).all fun j => decide (bitI x j = bitI (l.getD j 0) i)) := rfl
        by_cases h1 : x < 0
        · have : rowOk l i x = false := by rw [hall, decide_eq_true h1]; rfl
          simp [f39_l1, hi, e1, h1, this]
        · by_cases h2 : AM.shl .i64 1 (l.length : Int) ≤ x
          · have : rowOk l i x = false := by rw [hall, decide_eq_true h2]; simp
            simp [f39_l1, hi, e1, h1, hni, h2, this]
          · by_cases h3 : bitI x i = 1
            · have : rowOk l i x = false := by rw [hall, decide_eq_true h3]; simp
              simp [f39_l1, hi, e1, h1, hni, h2, hb, h3, this]
            · rcases inner i x hx with ⟨j, y, hy, q2, _, q1⟩ | ⟨q2, q1⟩
              · have : rowOk l i x = false := by
                  have : ((List.range l.length).all fun j => decide (bitI x j = bitI (l.getD j 0) i)) = false := by
                    rw [List.all_eq_false]
                    refine ⟨j, List.mem_range.2 (List.getElem?_eq_some_iff.1 hy).1, ?_⟩
                    rw [show l.getD j 0 = y by simp [List.getD, hy], q2]; simp
                  rw [hall, this]; simp
                have hlq := fun (K : Ex → List Value → H → Option (Ex × List Value × H)) => lp_eq (K := K) q1
                simp [f39_l1, hi, e1, h1, hni, h2, hb, h3, this, hlq]
              · have : rowOk l i x = true := by
                  have : ((List.range l.length).all fun j => decide (bitI x j = bitI (l.getD j 0) i)) = true := by
                    rw [List.all_eq_true]
                    intro j hj
                    have hj := List.mem_range.1 hj
                    have := q2 j _ (List.getElem?_eq_getElem hj)
                    simpa [List.getD, List.getElem?_eq_getElem hj] using this
                  rw [hall, this, decide_eq_false h1, decide_eq_false h2, decide_eq_false h3]; rfl
                have hlq := fun (K : Ex → List Value → H → Option (Ex × List Value × H)) => lp_eq (K := K) q1
                simp [f39_l1, hi, e1, h1, hni, h2, hb, h3, this, hlq, hadd])
    have hle1 : ¬ (l.length : Int) < 1 := by omega
    have hle2 : ¬ (9 : Int) < (l.length : Int) := by omega
    rcases hlp with ⟨j, y, hy, q2, _, q1⟩ | ⟨q2, q1⟩
    · have hv : validG l = false := by
        rw [Bool.eq_false_iff]
        intro hc
        have := (validG_iff hl).1 hc j y hy
        rw [this] at q2
        cases q2
      rw [hv]
      exact y39 (k := 200010) (by simp [f39, hn, hle1, hle2, lp_eq q1])
    · have hv : validG l = true := (validG_iff hl).2 q2
      rw [hv, if_pos rfl]
      exact y39 (k := 200010) (by simp [f39, hn, hle1, hle2, lp_eq q1])
  · have hv : validG l = false := by
      unfold validG
      rw [Bool.eq_false_iff]
      intro hc
      simp only [Bool.and_eq_true, decide_eq_true_iff] at hc
      exact hl hc.1
    rw [hv]
    refine y39 (k := 0) ?_
    simp [f39, hn]
    omega

theorem s117 {S : Nat} (hS : S < 1024) (h : H) : rn 117 #[iv S] h = some (iv (pop S : Nat), h) := by
  refine p117 (k := 0) (h1 := h) ?_ rfl (.refl _)
  unfold f117
  rw [wr64u hS, calls_eq (xs := [.int .u64 S]) (s64 hS h), asI_int]

/-- All neighbours of the nodes of a set. -/
def arN (g : List Nat) (S : Nat) : Nat := (elts S).foldl (fun s i => s ||| nb g i) 0

theorem arN_aux {g : List Nat} {u : Nat} : ∀ (L : List Nat) (s : Nat), (L.foldl (fun s i => s ||| nb g i) s).testBit u = true ↔ s.testBit u = true ∨ ∃ i ∈ L, adj g i u = true
  | [], s => by simp
  | i :: L, s => by
    rw [List.foldl_cons, arN_aux L, Nat.testBit_or, Bool.or_eq_true]
    constructor
    · rintro ((h | h) | ⟨j, hj, h⟩)
      · exact .inl h
      · exact .inr ⟨i, List.mem_cons_self, h⟩
      · exact .inr ⟨j, List.mem_cons_of_mem _ hj, h⟩
    · rintro (h | ⟨j, hj, h⟩)
      · exact .inl (.inl h)
      · rcases List.mem_cons.1 hj with rfl | hj
        · exact .inl (.inr h)
        · exact .inr ⟨j, hj, h⟩

theorem arN_bit {g : List Nat} {S u : Nat} (hS : S < 1024) : (arN g S).testBit u = true ↔ ∃ i, S.testBit i = true ∧ adj g i u = true := by
  unfold arN
  rw [arN_aux]
  simp only [Nat.zero_testBit, Bool.false_eq_true, false_or]
  exact ⟨fun ⟨i, hi, h⟩ => ⟨i, (mem_elts hS).1 hi, h⟩, fun ⟨i, hi, h⟩ => ⟨i, (mem_elts hS).2 hi, h⟩⟩

theorem arN_lt {g : List Nat} (hg : GrB g) (S : Nat) : arN g S < 2 ^ g.length := by
  have key : ∀ (L : List Nat) (s : Nat), s < 2 ^ g.length → L.foldl (fun s i => s ||| nb g i) s < 2 ^ g.length := by
    intro L
    induction L with
    | nil => intro s h; exact h
    | cons i L ih => intro s h; exact ih _ (Nat.or_lt_two_pow h (hg.nb_lt i))
  exact key _ _ (Nat.two_pow_pos _)

theorem s118 {tv : Value} {g : List Nat} {S : Nat} {h : H} (hg : GrB g) (hs : SlR h 3 1 tv (cellsN g)) (hS : S < 2 ^ g.length) : rn 118 #[tv, iv S] h = some (iv (arN g S : Nat), h) := by
  have hlen := hg.len
  have hpow := hg.pow
  have hS' : S < 1024 := Nat.lt_of_lt_of_le hS hpow
  obtain ⟨nv, h2, e108, x2w, hn, _⟩ := s108 hS' h
  have x2 := x2w.toExt
  have hpl : (elts S).length ≤ 10 := by rw [elts_len]; exact pop_le_n (Nat.le_refl 10) hS'
  have hnl : ∀ {T : Type} (K : Int → Option T), len nv K = K ((elts S).length : Int) := fun K => by rw [hn.len]; simp
  have hl := lp_same (σ := Nat) (ρ := Empty) (F := f118_l1 rn 2000 tv nv (elts S).length) (k := 2000) (l := elts S) (h := h2) (fun i s => [iv s, iv i])
    (fun _ i s => .inl (s ||| nb g i)) (fun _ s => s < 1024) (fun _ => .ret) (fun _ => []) 0 (fun s => [iv s, iv (elts S).length]) (ws := [iv 0, iv 0]) (s0 := 0) rfl (by decide) (by omega) (by simp)
    (fun _ _ => by simp [f118_l1])
    (by
      intro i x s hx hI
      have hi := (List.getElem?_eq_some_iff.1 hx).1
      have hxS := (mem_elts hS').1 (List.mem_of_getElem? hx)
      have hxl : x < g.length := bit_lt hS hxS
      have hnw : nb g x < 1024 := Nat.lt_of_lt_of_le (hg.nb_lt x) hpow
      refine ⟨fun s' hs' => by cases hs'; exact Nat.or_lt_two_pow (n := 10) hI hnw, ?_⟩
      have e1 : ∀ (K : Value → Option (Ex × List Value × H)), (six nv (i : Int) 1 fun b o => (h2.cell b o).bind K) = K (iv x) := fun K => hn.c0 (by omega) (x := [iv x]) (by simp [hx]) rfl K
      have e2 := fun (K : Value → Option (Ex × List Value × H)) => getN (hs.ext x2) hxl K
      have hor : AM.or .i64 (s : Int) ((nb g x : Nat) : Int) = ((s ||| nb g x : Nat) : Int) := or_nat (by omega) (by omega)
      have hadd : add .i64 (i : Int) 1 = (i : Int) + 1 := add64 (by omega) (by omega)
      simp [f118_l1, hi, e1, e2, hor, hadd, rnd])
  rw [itL_inl (fun _ i s => s ||| nb g i), foldI_foldl (fun i s => s ||| nb g i)] at hl
  refine p118 (k := 2000) (h1 := h2) ?_ rfl x2
  unfold f118
  rw [calls_eq (xs := [iv S]) e108, hnl]
  refine (lp_eq hl.1).trans ?_
  rw [onE_exit, if_pos rfl]
  rfl

theorem grow_ar {g : List Nat} (hg : GrB g) {W S : Nat} (hW : W < 2 ^ g.length) (hS : S < 2 ^ g.length) : S ||| (arN g S &&& W) = grow g W S := by
  have hpow := hg.pow
  have hS' : S < 1024 := Nat.lt_of_lt_of_le hS hpow
  have hW' : W < 1024 := Nat.lt_of_lt_of_le hW hpow
  refine Nat.eq_of_testBit_eq fun u => ?_
  rw [Bool.eq_iff_iff, grow_bit hS', Nat.testBit_or, Nat.testBit_and, Bool.or_eq_true, Bool.and_eq_true, arN_bit hS']
  constructor
  · rintro (h | ⟨⟨i, hi, h⟩, hw⟩)
    · exact .inl h
    · exact .inr ⟨i, hi, h, hw⟩
  · rintro (h | ⟨i, hi, h, hw⟩)
    · exact .inl h
    · exact .inr ⟨⟨i, hi, h⟩, hw⟩

theorem grow_ltn {g : List Nat} {W S : Nat} (hW : W < 2 ^ g.length) (hS : S < 2 ^ g.length) : grow g W S < 2 ^ g.length := by
  have key : ∀ (L : List Nat) (s : Nat), s < 2 ^ g.length → L.foldl (fun s i => s ||| (nb g i &&& W)) s < 2 ^ g.length := by
    intro L
    induction L with
    | nil => intro s h; exact h
    | cons i L ih => intro s h; exact ih _ (Nat.or_lt_two_pow h (Nat.and_lt_two_pow _ hW))
  exact key _ _ hS

/-- What a node reaches within a set. -/
theorem s119 {tv : Value} {g : List Nat} {W v : Nat} {h : H} (hg : GrB g) (hs : SlR h 3 1 tv (cellsN g)) (hv : v < g.length) (hW : W < 2 ^ g.length) : rn 119 #[tv, iv (2 ^ v : Nat), iv W] h = some (iv (rch g W v : Nat), h) := by
  have hlen := hg.len
  have hpow := hg.pow
  have hW' : W < 1024 := Nat.lt_of_lt_of_le hW hpow
  have h2v : 2 ^ v < 2 ^ g.length := Nat.pow_lt_pow_right (by omega) hv
  obtain ⟨e, ws', h', hl, rfl, rfl, w, rfl⟩ := lpGo_inv (F := f119_l1 rn 2000 tv W)
    (fun d ws h2 => h2 = h ∧ ∃ S : Nat, ws = [iv 0, iv S] ∧ S < 2 ^ g.length ∧ d + pop S = 10 ∧ S.testBit v = true ∧ ∀ u, S.testBit u = true → Rch g W v u)
    (fun e ws h2 => e = .ret ∧ h2 = h ∧ ∃ w, ws = [iv (rch g W v : Nat), w])
    (by
      rintro d ws h2 ⟨rfl, S, rfl, hS, hd, hSv, hSr⟩
      have hS' : S < 1024 := Nat.lt_of_lt_of_le hS hpow
      have har := arN_lt hg S
      have hand : AM.and .i64 (arN g S : Int) (W : Int) = ((arN g S &&& W : Nat) : Int) := and_nat (by omega) (by omega)
      have haw : arN g S &&& W < 1024 := Nat.and_lt_two_pow (n := 10) _ hW'
      have hor : AM.or .i64 (S : Int) ((arN g S &&& W : Nat) : Int) = ((grow g W S : Nat) : Int) := by rw [or_nat (by omega) (by omega), grow_ar hg hW hS]
      have start : f119_l1 rn 2000 tv W [iv 0, iv S] h2 = if grow g W S = S then some (.ret, [iv S, iv S], h2) else some (.normal, [iv 0, iv (grow g W S : Nat)], h2) := by
        unfold f119_l1
        rw [show AM.gv [iv 0, iv S] 1 = iv S from rfl, show AM.gv [iv 0, iv S] 0 = iv 0 from rfl, calls_eq (xs := [tv, iv S]) (s118 hg hs hS), asI_int, asI_int, asI_int, hand, hor]
        by_cases hq : grow g W S = S
        · rw [if_pos hq, hq, show AM.eq (S : Int) (S : Int) = true by simp, ifB_true]; rfl
        · rw [if_neg hq, show AM.eq (grow g W S : Int) (S : Int) = false by simp; omega, ifB_false]; rfl
      rw [start]
      by_cases hq : grow g W S = S
      · rw [if_pos hq]
        refine ⟨_, _, _, rfl, .inr ⟨by simp, rfl, rfl, iv S, ?_⟩⟩
        rw [rch_eq (g := g) (W := W) (v := v) (by omega) hW' hS' hSv hSr fun a b ha hab hb => by
          rw [← hq, grow_bit hS']
          exact .inr ⟨a, ha, hab, hb⟩]
      · rw [if_neg hq]
        have hsub : ∀ u, S.testBit u = true → (grow g W S).testBit u = true := fun u hu => (grow_bit hS').2 (.inl hu)
        have hglt := grow_ltn hW hS
        obtain ⟨i, hi⟩ : ∃ i, (grow g W S).testBit i ≠ S.testBit i := by
          refine Classical.byContradiction fun hc => hq (Nat.eq_of_testBit_eq fun i => Classical.byContradiction fun h => hc ⟨i, h⟩)
        have hSi : S.testBit i = false := by
          cases hh : S.testBit i with
          | false => rfl
          | true => rw [hh, hsub i hh] at hi; exact absurd rfl hi
        have hGi : (grow g W S).testBit i = true := by
          cases hh : (grow g W S).testBit i with
          | true => rfl
          | false => rw [hh, hSi] at hi; exact absurd rfl hi
        have hp := pop_lt (Nat.lt_of_lt_of_le hglt hpow) hsub hGi hSi
        have hp2 := pop_le_n (Nat.le_refl 10) (Nat.lt_of_lt_of_le hglt hpow)
        refine ⟨_, _, _, rfl, .inl ⟨rfl, 10 - pop (grow g W S), by omega, rfl, grow g W S, rfl, hglt, by omega, hsub v hSv, fun u hu => ?_⟩⟩
        rcases (grow_bit hS').1 hu with h | ⟨a, ha, hab, hb⟩
        · exact hSr u h
        · exact .step (hSr a ha) hab hb)
    (10 - pop (2 ^ v)) 2000 (by omega) (ws := [iv 0, iv (2 ^ v : Nat)]) (h := h) ⟨rfl, 2 ^ v, rfl, h2v, by
      have := pop_le_n (Nat.le_refl 10) (show 2 ^ v < 2 ^ 10 from Nat.pow_lt_pow_right (by omega) (by omega))
      omega, by simp [Nat.testBit_two_pow], fun u hu => by
      rw [Nat.testBit_two_pow] at hu
      have : v = u := by simpa using hu
      subst this
      exact .base⟩
  refine p119 (k := 2000) ?_ rfl (.refl _)
  unfold f119
  refine (lp_eq hl).trans ?_
  rw [onR_ret]
  rfl

/-- How many neighbours a node has when a set is gone. -/
noncomputable def degN (g : List Nat) (v gone : Nat) : Nat := pop (without (without (arN g (rch g (gone ||| 2 ^ v) v)) gone) (2 ^ v))

theorem without_lt {a b n : Nat} (ha : a < 2 ^ n) : without a b < 2 ^ n := by
  refine Nat.lt_pow_two_of_testBit _ fun i hi => ?_
  rw [testBit_without, Nat.testBit_lt_two_pow (Nat.lt_of_lt_of_le ha (Nat.pow_le_pow_right (by omega) hi))]
  rfl

theorem rch_ltw {g : List Nat} {W v : Nat} (hg : GrB g) (hv : v < g.length) (hW : W < 2 ^ g.length) : rch g W v < 2 ^ g.length := by
  have hlen := hg.len
  have hW' : W < 1024 := Nat.lt_of_lt_of_le hW hg.pow
  refine Nat.lt_pow_two_of_testBit _ fun i hi => ?_
  rw [Bool.eq_false_iff]
  intro h
  have := (rch_bit (by omega) hW').1 h
  cases this with
  | base => omega
  | step _ _ hb => exact absurd (bit_lt hW hb) (by omega)

theorem s109 {tv : Value} {g : List Nat} {v gone : Nat} {h : H} (hg : GrB g) (hs : SlR h 3 1 tv (cellsN g)) (hv : v < g.length) (hgo : gone < 2 ^ g.length) : rn 109 #[tv, iv v, iv gone] h = some (iv (degN g v gone : Nat), h) := by
  have hlen := hg.len
  have hpow := hg.pow
  have h2v : 2 ^ v < 2 ^ g.length := Nat.pow_lt_pow_right (by omega) hv
  have hor : AM.or .i64 (gone : Int) ((2 ^ v : Nat) : Int) = ((gone ||| 2 ^ v : Nat) : Int) := or_nat (by omega) (by omega)
  have hW : gone ||| 2 ^ v < 2 ^ g.length := Nat.or_lt_two_pow hgo h2v
  have hr := rch_ltw hg hv hW
  have har := arN_lt hg (rch g (gone ||| 2 ^ v) v)
  have hw1 := without_lt (b := gone) har
  have hw2 := without_lt (b := 2 ^ v) hw1
  have ha1 : AM.andNot .i64 (arN g (rch g (gone ||| 2 ^ v) v) : Int) (gone : Int) = ((without (arN g (rch g (gone ||| 2 ^ v) v)) gone : Nat) : Int) := andNot_nat (by omega) (by omega)
  have ha2 : AM.andNot .i64 ((without (arN g (rch g (gone ||| 2 ^ v) v)) gone : Nat) : Int) ((2 ^ v : Nat) : Int) = ((without (without (arN g (rch g (gone ||| 2 ^ v) v)) gone) (2 ^ v) : Nat) : Int) := andNot_nat (by omega) (by omega)
  refine p109 (k := 0) (h1 := h) ?_ rfl (.refl _)
  unfold f109
  rw [nn_ge (by omega), nn_ge (by omega), shl1_nat (by omega), hor, calls_eq (xs := [_, _, _]) (s119 hg hs hv hW), asI_int, calls_eq (xs := [_, _]) (s118 hg hs hr), asI_int, nn_ge (by omega), ha1, ha2, calls_eq (xs := [_]) (s117 (Nat.lt_of_lt_of_le hw2 hpow) h), asI_int]
  rfl

theorem s85 {tv : Value} {g : List Nat} {h : H} (hg : GrB g) (hs : SlR h 3 1 tv (cellsN g)) : rn 85 #[tv] h = some (iv (allN g : Nat), h) := by
  have hlen := hg.len
  refine p85 (k := 0) (h1 := h) ?_ rfl (.refl _)
  unfold f85
  rw [hs.len, List.length_map, nn_ge (by omega), shl_all hlen]
  rfl

end Go.AM

end

section

/- The widths of all sets. -/
namespace Go.AM
open Go.Proofs
variable {k : Nat} {R : Type}
theorem without_ltv {S v : Nat} (hS : S < 1024) (h : S.testBit v = true) : without S (2 ^ v) < S := by
  have hne : without S (2 ^ v) ≠ S := fun e => by
    have := (bit_del (S := S) (w := v) (i := v)).1 (by rw [e]; exact h)
    exact this.2 rfl
  have hle : without S (2 ^ v) ≤ S := by
    have : without S (2 ^ v) = S &&& (1023 ^^^ 2 ^ v) := by
      refine Nat.eq_of_testBit_eq fun i => ?_
      rw [testBit_without, Nat.testBit_and, Nat.testBit_xor]
      cases hi : S.testBit i with
      | false => rfl
      | true =>
        have hi10 : i < 10 := bit_lt (n := 10) hS hi
        have : (1023 : Nat).testBit i = true := by
          have h1 : (2 ^ 10 - 1 : Nat).testBit i = decide (i < 10) := Nat.testBit_two_pow_sub_one ..
          have h2 : (2 ^ 10 - 1 : Nat) = 1023 := by decide
          rw [h2] at h1
          rw [h1]; simp [hi10]
        rw [this]; simp
    rw [this]
    exact Nat.and_le_left
  omega

/-- One step of the widths. -/
noncomputable def wStep (g : List Nat) (f : Nat → Nat) (S : Nat) : Nat :=
  if S = 0 then 0 else (elts S).foldl (fun m v => min m (max (f (without S (2 ^ v))) (degN g v (without S (2 ^ v))))) g.length

noncomputable def wF (g : List Nat) : Nat → Nat → Nat
  | 0, _ => 0
  | d + 1, S => wStep g (wF g d) S

/-- The least width of an order that begins with a set. -/
noncomputable def wN (g : List Nat) (S : Nat) : Nat := wF g (S + 1) S

theorem wStep_congr {g : List Nat} {f f' : Nat → Nat} {S : Nat} (hS : S < 1024) (h : ∀ T, T < S → f T = f' T) : wStep g f S = wStep g f' S := by
  unfold wStep
  split
  · rfl
  · have : ∀ (L : List Nat) (m : Nat), (∀ v ∈ L, S.testBit v = true) → L.foldl (fun m v => min m (max (f (without S (2 ^ v))) (degN g v (without S (2 ^ v))))) m = L.foldl (fun m v => min m (max (f' (without S (2 ^ v))) (degN g v (without S (2 ^ v))))) m := by
      intro L
      induction L with
      | nil => intro m _; rfl
      | cons v L ih =>
        intro m hL
        rw [List.foldl_cons, List.foldl_cons, h _ (without_ltv hS (hL v List.mem_cons_self))]
        exact ih _ fun u hu => hL u (List.mem_cons_of_mem _ hu)
    exact this _ _ fun v hv => (mem_elts hS).1 hv

theorem wF_eq {g : List Nat} : ∀ (S d d' : Nat), S < 1024 → S < d → S < d' → wF g d S = wF g d' S := by
  intro S
  induction S using Nat.strongRecOn with
  | ind S ih =>
    intro d d' hS h h'
    obtain ⟨e, rfl⟩ : ∃ e, d = e + 1 := ⟨d - 1, by omega⟩
    obtain ⟨e', rfl⟩ : ∃ e', d' = e' + 1 := ⟨d' - 1, by omega⟩
    show wStep g (wF g e) S = wStep g (wF g e') S
    exact wStep_congr hS fun T hT => ih T hT e e' (by omega) (by omega) (by omega)

theorem wN_eq {g : List Nat} {S : Nat} (hS : S < 1024) : wN g S = wStep g (wN g) S := by
  show wStep g (wF g S) S = _
  exact wStep_congr hS fun T hT => wF_eq T S (T + 1) (by omega) hT (by omega)

theorem wN_le {g : List Nat} {S : Nat} (hS : S < 1024) : wN g S ≤ g.length := by
  rw [wN_eq hS]
  unfold wStep
  split
  · omega
  · have : ∀ (L : List Nat) (m : Nat), m ≤ g.length → L.foldl (fun m v => min m (max (wN g (without S (2 ^ v))) (degN g v (without S (2 ^ v))))) m ≤ g.length := by
      intro L
      induction L with
      | nil => intro m h; exact h
      | cons v L ih => intro m h; exact ih _ (Nat.le_trans (Nat.min_le_left _ _) h)
    exact this _ _ (Nat.le_refl _)

theorem imin_nat2 (a b : Nat) : imin (a : Int) (b : Int) = ((min a b : Nat) : Int) := by unfold imin; split <;> omega

theorem imax_nat2 (a b : Nat) : imax (a : Int) (b : Int) = ((max a b : Nat) : Int) := by unfold imax; split <;> omega

attribute [local simp] nx_eq nx_new nx_set blk_new blk_set asI_int asK_int asB_bool asP_ptr al_eq bx_eq len_slice onE_exit onE_ret onR_ret Value.cells d3 cell_new cell_set rd_new rd_set off eq lt le ifB gv out w3
/-- The widths up to a set. -/
def WA (g : List Nat) (S : Nat) (A : List Int) : Prop := A.length = 2 ^ g.length ∧ ∀ T, T < S → A[T]? = some (wN g T : Int)

theorem s84_in {tv v1 nv : Value} {g : List Nat} {S b : Nat} {h : H} {A : List Int} (hg : GrB g) (hS0 : 0 < S) (hS : S < 2 ^ g.length) (hn : SlR h 3 1 nv (cellsN (elts S))) (hia : IA h b v1 A) (hA : WA g S A) (hAS : A[S]? = some (g.length : Int))
    (h0 : H) (hx : Ext h0 h) (hb : h0.nx ≤ b) (hs0 : SlR h0 3 1 tv (cellsN g)) (hnb : ∀ q, AM.blkOf nv = some q → q ≠ b) :
    ∃ h' w, lpGo (f84_l2 rn 2000 tv v1 [iv S] nv (elts S).length) 2000 [iv 0] h = some (.exit 2, w, h') ∧ Ext h0 h' ∧ ∃ A', IA h' b v1 A' ∧ WA g (S + 1) A' := by
  have hlen := hg.len
  have hpow := hg.pow
  have hS' : S < 1024 := Nat.lt_of_lt_of_le hS hpow
  have hpl : (elts S).length ≤ 10 := by rw [elts_len]; exact pop_le_n (Nat.le_refl 10) hS'
  obtain ⟨hAl, hAT⟩ := hA
  let stepW : Nat → Nat → Nat → Nat := fun _ v m => min m (max (wN g (without S (2 ^ v))) (degN g v (without S (2 ^ v))))
  obtain ⟨ws', h', hl, xh, ia', hk', hnx', rfl⟩ := lp_for (F := f84_l2 rn 2000 tv v1 [iv S] nv (elts S).length) (k := 2000) (l := elts S) stepW
    (fun i m ws g' => Ext h0 g' ∧ IA g' b v1 (A.set S (m : Int)) ∧ (∀ q, q ≠ b → g'.blk q = h.blk q) ∧ g'.nx = h.nx ∧ ws = [iv i]) 2 (ws := [iv 0]) (h := h) (s0 := g.length)
    ⟨hx, by
      have : A.set S (g.length : Int) = A := by
        have hSl : S < A.length := by omega
        rw [List.getElem?_eq_getElem hSl] at hAS
        rw [← Option.some.inj hAS]
        exact List.set_getElem_self hSl
      rw [this]; exact hia, fun _ _ => rfl, rfl, rfl⟩ (by omega)
    (by
      rintro m ws g' ⟨_, _, _, _, rfl⟩
      simp [f84_l2])
    (by
      rintro i v m ws g' hv ⟨xg, ia, hk, hnx, rfl⟩
      have hi := (List.getElem?_eq_some_iff.1 hv).1
      have hvS := (mem_elts hS').1 (List.mem_of_getElem? hv)
      have hvl : v < g.length := bit_lt hS hvS
      have hsg := hs0.ext xg
      have hT := without_ltv hS' hvS
      obtain ⟨T, hTd⟩ : ∃ T, T = without S (2 ^ v) := ⟨_, rfl⟩
      have hTn : T < 2 ^ g.length := by omega
      have hng : SlR g' 3 1 nv (cellsN (elts S)) := hn.keepB (by omega) fun q hq => hk q (hnb q hq)
      have h2v : 2 ^ v < 2 ^ 10 := Nat.pow_lt_pow_right (by omega) (by omega)
      have hadd : add .i64 (i : Int) 1 = (i : Int) + 1 := add64 (by omega) (by omega)
      have hand : AM.andNot .i64 (S : Int) (AM.shl .i64 1 (v : Int)) = ((T : Nat) : Int) := by rw [shl1_nat (by omega), andNot_nat (by omega) (by omega), hTd]
      have e1 : ∀ (K : Value → Option (Ex × List Value × H)), (six nv (i : Int) 1 fun b o => (g'.cell b o).bind K) = K (iv v) := fun K => hng.c0 (by omega) (x := [iv v]) (by simp [hv]) rfl K
      have hSA : S < (A.set S (m : Int)).length := by rw [List.length_set]; omega
      have hTA : T < (A.set S (m : Int)).length := by rw [List.length_set]; omega
      have cS : g'.cell b S = some (iv m) := by
        rw [cell_of ia.row, List.getElem?_map, List.getElem?_set, if_pos rfl, if_pos (by omega)]; rfl
      have cT : g'.cell b T = some (iv (wN g T)) := by
        rw [cell_of ia.row, List.getElem?_map, List.getElem?_set, if_neg (show ¬ S = T by omega), hAT T (by omega)]; rfl
      have hw := ia.wrc (i := S) hSA ((stepW i v m : Nat) : Int)
      rw [List.set_set] at hw
      have ia2 := ia.set S ((stepW i v m : Nat) : Int)
      rw [List.set_set] at ia2
      have c109 := fun (K : Value → H → Option (Ex × List Value × H)) => calls_eq (K := K) (xs := [tv, iv v, iv T]) (s109 hg hsg hvl hTn)
      have hval : imin (m : Int) (imax ((wN g T : Nat) : Int) ((degN g v T : Nat) : Int)) = ((stepW i v m : Nat) : Int) := by
        rw [imax_nat2, imin_nat2, hTd]
      refine ⟨[iv ((i : Int) + 1)], g'.set b (.row ((A.set S ((stepW i v m : Nat) : Int)).map iv) 3 true), ?_, xg.set hb _, ia2, fun q hq => ?_, by rw [nx_set]; exact hnx, rfl⟩
      · unfold f84_l2
        simp only [d3, w3]
        rw [show gv [iv (i : Int)] 0 = iv (i : Int) from rfl, show gv [iv (S : Int)] 0 = iv (S : Int) from rfl, asI_int, lt_t (by omega), ifB_true, asK_int, e1, asI_int, asK_int, ia.put (by omega) (by rw [Int.toNat_natCast]; exact hSA), Int.toNat_natCast, cS, Option.bind_some, asI_int, nn_ge (by omega), asI_int, hand, ia.put (by omega) (by rw [Int.toNat_natCast]; exact hTA), Int.toNat_natCast, cT, Option.bind_some, asI_int, nn_ge (by omega), asI_int, hand, c109, asI_int]
        have hbl := ia.lt
        rw [show freq b (nx g') (same g' g') = true by simp [freq, same, hbl], ck_true, ck_true, asK_int, ia.put (by omega) (by rw [Int.toNat_natCast]; exact hSA), Int.toNat_natCast, hval, hw, Option.bind_some, asI_int, hadd]
        rfl
      · rw [blk_set_ne _ _ _ hq]; exact hk q hq)
  refine ⟨h', _, hl, xh, _, ia', by rw [List.length_set]; exact hAl, fun T hT => ?_⟩
  rw [List.getElem?_set]
  by_cases hST : S = T
  · subst hST
    rw [if_pos rfl, if_pos (by omega), wN_eq hS']
    unfold wStep
    rw [if_neg (by omega), foldI_foldl (fun v m => min m (max (wN g (without S (2 ^ v))) (degN g v (without S (2 ^ v)))))]
  · rw [if_neg hST]; exact hAT T (by omega)

theorem s84 {tv : Value} {g : List Nat} {h : H} (hg : GrB g) (hs : SlR h 3 1 tv (cellsN g)) : ∃ v h' A, rn 84 #[tv] h = some (v, h') ∧ Exw h h' ∧ SlR h' 3 1 v (cellsI A) ∧ WA g (2 ^ g.length) A := by
  have hlen := hg.len
  have hpow := hg.pow
  have hp2 := Nat.two_pow_pos g.length
  have hn : ∀ {T : Type} (K : Int → Option T), len tv K = K (g.length : Int) := fun K => by rw [hs.len]; simp
  have x1 := Ext.new h (.row ((List.replicate (2 ^ g.length) 0).map iv) 3 true)
  have ia1 := ia_new (h := h) (n := 2 ^ g.length) (by omega) (l := List.replicate (2 ^ g.length) (0 : Int)) (by simp)
  generalize hvv : (.slice (some ⟨h.nx, 0, none⟩) (2 ^ g.length) (2 ^ g.length) : Value) = vv at *
  obtain ⟨e, w, h', hl, rfl, xh, A, ia, hA⟩ := lp_range (F := f84_l1 rn 2000 tv vv) (k := 2000) (n := 2 ^ g.length - 1)
    (fun i ws g' => ws = [iv ((i + 1 : Nat) : Int)] ∧ Ext h g' ∧ ∃ A, IA g' h.nx vv A ∧ WA g (i + 1) A)
    (fun e _ g' => e = .exit 0 ∧ Ext h g' ∧ ∃ A, IA g' h.nx vv A ∧ WA g (2 ^ g.length) A)
    (by
      rintro i ws g' hi ⟨rfl, xg, A, ia, hA⟩
      obtain ⟨S, hSd⟩ : ∃ S, S = i + 1 := ⟨_, rfl⟩
      rw [← hSd] at hA ⊢
      have hS : S < 2 ^ g.length := by omega
      have hAl := hA.1
      have hadd : add .i64 (S : Int) 1 = ((S + 1 : Nat) : Int) := by rw [add64 (by omega) (by omega)]; omega
      have hw := ia.wrc (i := S) (by omega) (g.length : Int)
      have ia2 := ia.set S (g.length : Int)
      have xg2 : Ext h (g'.set h.nx (.row ((A.set S (g.length : Int)).map iv) 3 true)) := xg.set (Nat.le_refl _) _
      have hA2 : WA g S (A.set S (g.length : Int)) := ⟨by rw [List.length_set]; exact hAl, fun T hT => by rw [List.getElem?_set, if_neg (by omega)]; exact hA.2 T hT⟩
      generalize g'.set h.nx (.row ((A.set S (g.length : Int)).map iv) 3 true) = g2 at *
      obtain ⟨nv, g3, e3, x3, hn3, hq3⟩ := s108 (S := S) (by omega) g2
      have hnl : ∀ {T : Type} (K : Int → Option T), len nv K = K ((elts S).length : Int) := fun K => by rw [hn3.len]; simp
      obtain ⟨g4, w4, e4, x4, A4, ia4, hA4⟩ := s84_in hg (by omega) hS hn3 (ia2.ext x3.toExt) hA2 (by rw [List.getElem?_set, if_pos rfl, if_pos (by omega)]) h (xg2.trans x3.toExt) (Nat.le_refl _) hs (fun q hq e => by have := hq3 q hq; have := ia2.lt; omega)
      refine ⟨.normal, [iv ((S + 1 : Nat) : Int)], g4, ?_, .inl ⟨rfl, rfl, x4, A4, ia4, hA4⟩⟩
      unfold f84_l1
      rw [ia.len, hAl, show gv [iv (S : Int)] 0 = iv (S : Int) from rfl, asI_int, lt_t (by omega), ifB_true, hn, asK_int, ia.put (by omega) (by rw [Int.toNat_natCast]; omega)]
      simp only [w3]
      rw [Int.toNat_natCast, hw, Option.bind_some, calls_eq (xs := [iv S]) e3, hnl, lp_eq e4, onE_exit, if_pos rfl, asI_int, hadd]
      rfl)
    (by
      rintro ws g' ⟨rfl, xg, A, ia, hA⟩
      rw [show 2 ^ g.length - 1 + 1 = 2 ^ g.length by omega] at *
      refine ⟨.exit 0, [iv ((2 ^ g.length : Nat) : Int)], g', ?_, by simp, rfl, xg, A, ia, hA⟩
      unfold f84_l1
      rw [ia.len, hA.1, show gv [iv ((2 ^ g.length : Nat) : Int)] 0 = iv ((2 ^ g.length : Nat) : Int) from rfl, asI_int, lt_f (by omega), ifB_false]
      rfl)
    (ws := [iv 1]) (h := h.new (.row ((List.replicate (2 ^ g.length) 0).map iv) 3 true)) (by omega) ⟨rfl, x1, _, ia1, by simp, fun T hT => by
      obtain rfl : T = 0 := by omega
      rw [wN_eq (by decide)]
      unfold wStep
      rw [if_pos rfl, List.getElem?_replicate, if_pos hp2]
      rfl⟩
  obtain ⟨h2, e2, m2, w2⟩ := x84 (k := 2000) (v0 := tv) (h := h) (h1 := h') (v := vv) (by
    unfold f84
    rw [hn, nn_ge (by omega), shl1_nat (by omega), mks_ints app22 (by kernel_rfl) (by omega), hvv]
    exact (lp_eq hl).trans rfl) ia.slR.notR
  exact ⟨vv, h2, A, e2, w2 xh, ia.slR.ext m2.ext, hA⟩

theorem s40 {tv : Value} {g : List Nat} {h : H} (hg : GrB g) (hs : SlR h 3 1 tv (cellsN g)) : rn 40 #[tv] h = some (iv (wN g (allN g) : Nat), h) := by
  obtain ⟨v, h', A, e, x, hv, hA⟩ := s84 hg hs
  have hall := allN_lt g
  refine p40 (k := 0) (h1 := h') ?_ rfl x.toExt
  unfold f40
  simp only [d3]
  rw [calls_eq (xs := [tv]) e, calls_eq (xs := [tv]) (s85 hg (hs.ext x.toExt)), asI_int, hv.c0 (by omega) (x := [iv (wN g (allN g) : Nat)]) (by rw [Int.toNat_natCast, List.getElem?_map, hA.2 _ hall]; rfl) rfl, asI_int]

theorem s12 {v : Value} {g : List Nat} {h : H} (hg : GrB g) (hval : validG (g.map Int.ofNat) = true) (h9 : g.length ≤ 9) (hs : SlR h 3 1 v (cellsN g)) : rn 12 #[v] h = some (.tuple #[iv (wN g (allN g) : Nat), iv 0], h) := by
  have e39 := s39 (v := v) (l := g.map Int.ofNat) (h := h) (by rw [cellsN_eq]; exact hs) (by simpa using h9)
  rw [if_pos hval] at e39
  refine p12 (k := 0) (h1 := h) ?_ rfl (.refl _)
  unfold f12
  rw [calls_eq (xs := [v]) e39, ext20, ext21, asB_bool, Bool.not_true, ifB_false, calls_eq (xs := [v]) (s40 hg hs), asI_int]

end Go.AM

end

section

/- PLAIN: orders in which the nodes of a graph are taken away, and how wide they are. -/
namespace Go.AM
abbrev Ad := Nat → Nat → Bool

/-- A node is taken away: its neighbours become neighbours of each other. -/
def elim (a : Ad) (v : Nat) : Ad := fun u w => a u w || (decide (u ≠ w) && (a v u && a v w))

structure Sym (a : Ad) : Prop where
  sym : ∀ u w, a u w = a w u
  irr : ∀ u, a u u = false

theorem Sym.elim {a : Ad} (h : Sym a) (v : Nat) : Sym (elim a v) := by
  constructor
  · intro u w
    unfold Go.AM.elim
    rw [h.sym u w]
    by_cases e : u = w
    · subst e; rfl
    · have : w ≠ u := fun e' => e e'.symm
      simp [e, this, Bool.and_comm]
  · intro u
    unfold Go.AM.elim
    simp [h.irr]

/-- The nodes of an order have at most k neighbours behind them when they are taken away. -/
def OW : Ad → List Nat → Nat → Prop
  | _, [], _ => True
  | a, v :: l, k => l.countP (a v) ≤ k ∧ OW (elim a v) l k

/-- One graph is part of another one, among some nodes. -/
def LeOn (S : List Nat) (a b : Ad) : Prop := ∀ u ∈ S, ∀ w ∈ S, a u w = true → b u w = true

theorem LeOn.elim {v : Nat} {S : List Nat} {a b : Ad} (h : LeOn (v :: S) a b) : LeOn S (elim a v) (elim b v) := by
  intro u hu w hw he
  unfold Go.AM.elim at *
  simp only [Bool.or_eq_true, Bool.and_eq_true, decide_eq_true_eq] at *
  rcases he with he | ⟨h1, h2, h3⟩
  · exact .inl (h u (List.mem_cons_of_mem _ hu) w (List.mem_cons_of_mem _ hw) he)
  · exact .inr ⟨h1, h v List.mem_cons_self u (List.mem_cons_of_mem _ hu) h2, h v List.mem_cons_self w (List.mem_cons_of_mem _ hw) h3⟩

theorem countP_mono {l : List Nat} {p q : Nat → Bool} (h : ∀ x ∈ l, p x = true → q x = true) : l.countP p ≤ l.countP q := by
  induction l with
  | nil => simp
  | cons x l ih =>
    have h1 := h x List.mem_cons_self
    have h2 := ih fun y hy => h y (List.mem_cons_of_mem _ hy)
    rw [List.countP_cons, List.countP_cons]
    cases hp : p x
    · simp; omega
    · rw [h1 hp]; simp; omega

theorem OW.mono {k : Nat} : ∀ {l : List Nat} {a b : Ad}, LeOn l a b → OW b l k → OW a l k
  | [], _, _, _, _ => trivial
  | v :: _, _, _, h, ⟨h1, h2⟩ =>
    ⟨Nat.le_trans (countP_mono fun x hx => h v List.mem_cons_self x (List.mem_cons_of_mem _ hx)) h1, OW.mono h.elim h2⟩

theorem OW.up {k m : Nat} (hkm : k ≤ m) : ∀ {l : List Nat} {a : Ad}, OW a l k → OW a l m
  | [], _, _ => trivial
  | _ :: _, _, ⟨h1, h2⟩ => ⟨Nat.le_trans h1 hkm, h2.up hkm⟩

theorem le_elim (a : Ad) (v : Nat) (S : List Nat) : LeOn S a (elim a v) := fun u _ w _ h => by unfold elim; simp [h]

/-- Fewer nodes. -/
theorem OW.sub {k : Nat} {l m : List Nat} (s : m.Sublist l) : ∀ {a : Ad}, OW a l k → OW a m k := by
  induction s with
  | slnil => intro a _; trivial
  | @cons l₁ l₂ v s ih =>
    rintro a ⟨_, h2⟩
    exact OW.mono (le_elim a v _) (ih h2)
  | @cons_cons l₁ l₂ v s ih =>
    rintro a ⟨h1, h2⟩
    exact ⟨Nat.le_trans s.countP_le h1, ih h2⟩

/-! ### Graphs in which nothing is to be added -/
def PE : Ad → List Nat → Prop
  | _, [] => True
  | a, v :: l => (∀ u ∈ l, ∀ w ∈ l, u ≠ w → a v u = true → a v w = true → a u w = true) ∧ PE a l

theorem PE.sub {l m : List Nat} (s : m.Sublist l) {a : Ad} : PE a l → PE a m := by
  induction s with
  | slnil => intro _; trivial
  | cons v s ih => rintro ⟨_, h2⟩; exact ih h2
  | cons_cons v s ih => rintro ⟨h1, h2⟩; exact ⟨fun u hu w hw => h1 u (s.subset hu) w (s.subset hw), ih h2⟩

theorem PE.le {a : Ad} {v : Nat} {l : List Nat} (h : PE a (v :: l)) : LeOn l (elim a v) a := by
  intro u hu w hw he
  unfold elim at he
  simp only [Bool.or_eq_true, Bool.and_eq_true, decide_eq_true_eq] at he
  rcases he with he | ⟨h1, h2, h3⟩
  · exact he
  · exact h.1 u hu w hw h1 h2 h3

/-- Each two of a list are neighbours. -/
def Clq (a : Ad) (l : List Nat) : Prop := ∀ u ∈ l, ∀ w ∈ l, u ≠ w → a u w = true

/-- A node whose neighbours in a list are neighbours of each other. -/
def Simp (a : Ad) (l : List Nat) (v : Nat) : Prop := ∀ u ∈ l, ∀ w ∈ l, u ≠ w → a v u = true → a v w = true → a u w = true

theorem clq_simp {a : Ad} {l : List Nat} (h : Clq a l) (v : Nat) : Simp a l v := fun u hu w hw hne _ _ => h u hu w hw hne

/-- A graph in which nothing is to be added has two simple nodes apart, if not all are neighbours. -/
theorem two_simp {a : Ad} (ha : Sym a) : ∀ {l : List Nat}, l.Nodup → PE a l → Clq a l ∨ ∃ u ∈ l, ∃ w ∈ l, u ≠ w ∧ a u w = false ∧ Simp a l u ∧ Simp a l w
  | [], _, _ => .inl fun u hu => by simp at hu
  | v :: l, hn, hp => by
    rw [List.nodup_cons] at hn
    have sv : Simp a (v :: l) v := by
      intro u hu w hw hne h1 h2
      rcases List.mem_cons.1 hu with rfl | hu
      · rw [ha.irr] at h1; cases h1
      · rcases List.mem_cons.1 hw with rfl | hw
        · rw [ha.irr] at h2; cases h2
        · exact hp.1 u hu w hw hne h1 h2
    -- a simple node of the others that is not a neighbour of v is simple
    have up : ∀ x ∈ l, a v x = false → Simp a l x → Simp a (v :: l) x := by
      intro x hx hvx hs u hu w hw hne h1 h2
      have hxv : a x v = false := by rw [ha.sym]; exact hvx
      rcases List.mem_cons.1 hu with rfl | hu
      · rw [hxv] at h1; cases h1
      · rcases List.mem_cons.1 hw with rfl | hw
        · rw [hxv] at h2; cases h2
        · exact hs u hu w hw hne h1 h2
    have pick : ∀ x ∈ l, a v x = false → Simp a l x → ∃ u ∈ v :: l, ∃ w ∈ v :: l, u ≠ w ∧ a u w = false ∧ Simp a (v :: l) u ∧ Simp a (v :: l) w := fun x hx hvx hs =>
      ⟨v, List.mem_cons_self, x, List.mem_cons_of_mem _ hx, fun e => hn.1 (e ▸ hx), hvx, sv, up x hx hvx hs⟩
    rcases two_simp ha hn.2 hp.2 with hc | ⟨u, hu, w, hw, hne, huw, su, sw⟩
    · by_cases hall : ∀ x ∈ l, a v x = true
      · left
        intro u hu w hw hne
        rcases List.mem_cons.1 hu with e1 | hu
        · rcases List.mem_cons.1 hw with e2 | hw
          · exact absurd (e1.trans e2.symm) hne
          · rw [e1]; exact hall w hw
        · rcases List.mem_cons.1 hw with e2 | hw
          · rw [e2, ha.sym]; exact hall u hu
          · exact hc u hu w hw hne
      · right
        obtain ⟨x, hx⟩ := Classical.not_forall.1 hall
        obtain ⟨hx, hvx⟩ := Classical.not_imp.1 hx
        exact pick x hx (by simpa using hvx) (clq_simp hc x)
    · right
      cases hvu : a v u with
      | false => exact pick u hu hvu su
      | true =>
        cases hvw : a v w with
        | false => exact pick w hw hvw sw
        | true =>
          have := hp.1 u hu w hw hne hvu hvw
          rw [huw] at this; cases this

theorem Simp.sub {a : Ad} {l m : List Nat} {v : Nat} (h : Simp a l v) (s : ∀ x ∈ m, x ∈ l) : Simp a m v := fun u hu w hw => h u (s u hu) w (s w hw)

/-- Any node can be the last one. -/
theorem pe_last {a : Ad} (ha : Sym a) {c : Nat} : ∀ (n : Nat) (l : List Nat), l.length = n → l.Nodup → PE a l → c ∈ l → ∃ m, (m ++ [c]).Perm l ∧ PE a (m ++ [c])
  | 0, l, hl, _, _, hc => by
    rw [List.eq_nil_of_length_eq_zero hl] at hc
    simp at hc
  | n + 1, l, hl, hn, hp, hc => by
    by_cases h1 : ∀ x ∈ l, x = c
    · -- nobody else
      have hlc : l = [c] := by
        match l, hn, hc, h1 with
        | [x], _, _, h1 => rw [h1 x (by simp)]
        | x :: y :: r, hn, _, h1 =>
          rw [List.nodup_cons] at hn
          exact absurd (show x ∈ y :: r by rw [h1 x (by simp), ← h1 y (by simp)]; exact List.mem_cons_self) hn.1
      exact ⟨[], by rw [hlc]; exact .refl _, by rw [List.nil_append, ← hlc]; exact hp⟩
    · obtain ⟨x, hx⟩ := Classical.not_forall.1 h1
      obtain ⟨hx, hxc⟩ := Classical.not_imp.1 hx
      obtain ⟨u, hu, huc, su⟩ : ∃ u ∈ l, u ≠ c ∧ Simp a l u := by
        rcases two_simp ha hn hp with h | ⟨u, hu, w, hw, hne, _, su, sw⟩
        · exact ⟨x, hx, hxc, clq_simp h x⟩
        · by_cases huc : u = c
          · exact ⟨w, hw, fun e => hne (huc.trans e.symm), sw⟩
          · exact ⟨u, hu, huc, su⟩
      obtain ⟨m, pm, hm⟩ := pe_last ha n (l.erase u) (by rw [List.length_erase_of_mem hu]; omega) (hn.erase u) (hp.sub List.erase_sublist) ((List.mem_erase_of_ne (Ne.symm huc)).2 hc)
      refine ⟨u :: m, ?_, ?_, hm⟩
      · exact (List.Perm.cons u pm).trans (List.perm_cons_erase hu).symm
      · exact su.sub fun y hy => List.mem_of_mem_erase (pm.mem_iff.1 hy)

/-! ### What is added -/
def fillG : Ad → List Nat → Ad
  | a, [] => a
  | a, v :: l => fun u w => if u = v ∨ w = v then a u w else fillG (elim a v) l u w

theorem fill_sym : ∀ {l : List Nat} {a : Ad}, Sym a → Sym (fillG a l)
  | [], _, h => h
  | v :: l, a, h => by
    have ih := fill_sym (l := l) (h.elim v)
    constructor
    · intro u w
      unfold fillG
      by_cases e : u = v ∨ w = v
      · rw [if_pos e, if_pos e.symm]; exact h.sym u w
      · rw [if_neg e, if_neg fun e' => e e'.symm]; exact ih.sym u w
    · intro u
      unfold fillG
      split
      · exact h.irr u
      · exact ih.irr u

theorem fill_le : ∀ {l : List Nat} {a : Ad} {u w : Nat}, a u w = true → fillG a l u w = true
  | [], _, _, _, h => h
  | v :: l, a, u, w, h => by
    unfold fillG
    split
    · exact h
    · exact fill_le (by unfold elim; simp [h])

theorem pe_congr : ∀ {l : List Nat} {a b : Ad}, (∀ u ∈ l, ∀ w ∈ l, a u w = b u w) → PE a l → PE b l
  | [], _, _, _, _ => trivial
  | v :: l, a, b, h, ⟨h1, h2⟩ => by
    refine ⟨fun u hu w hw hne q1 q2 => ?_, pe_congr (fun u hu w hw => h u (List.mem_cons_of_mem _ hu) w (List.mem_cons_of_mem _ hw)) h2⟩
    rw [← h v List.mem_cons_self u (List.mem_cons_of_mem _ hu)] at q1
    rw [← h v List.mem_cons_self w (List.mem_cons_of_mem _ hw)] at q2
    rw [← h u (List.mem_cons_of_mem _ hu) w (List.mem_cons_of_mem _ hw)]
    exact h1 u hu w hw hne q1 q2

theorem fill_on {v : Nat} {l : List Nat} {a : Ad} (hv : v ∉ l) : ∀ u ∈ l, ∀ w ∈ l, fillG a (v :: l) u w = fillG (elim a v) l u w := by
  intro u hu w hw
  show (if u = v ∨ w = v then a u w else fillG (elim a v) l u w) = _
  rw [if_neg]
  rintro (e | e)
  · exact hv (e ▸ hu)
  · exact hv (e ▸ hw)

theorem fill_pe : ∀ {l : List Nat} {a : Ad}, l.Nodup → PE (fillG a l) l
  | [], _, _ => trivial
  | v :: l, a, hn => by
    rw [List.nodup_cons] at hn
    refine ⟨fun u hu w hw hne q1 q2 => ?_, pe_congr (fun u hu w hw => (fill_on hn.1 u hu w hw).symm) (fill_pe hn.2)⟩
    have e1 : fillG a (v :: l) v u = a v u := by show (if v = v ∨ u = v then a v u else _) = _; rw [if_pos (.inl rfl)]
    have e2 : fillG a (v :: l) v w = a v w := by show (if v = v ∨ w = v then a v w else _) = _; rw [if_pos (.inl rfl)]
    rw [e1] at q1
    rw [e2] at q2
    rw [fill_on hn.1 u hu w hw]
    exact fill_le (by unfold elim; simp [hne, q1, q2])

/-- In a graph in which nothing is to be added, the clique of each node is small. -/
def Deg : Ad → List Nat → Nat → Prop
  | _, [], _ => True
  | a, v :: l, k => l.countP (a v) ≤ k ∧ Deg a l k

theorem deg_congr {k : Nat} : ∀ {l : List Nat} {a b : Ad}, (∀ u ∈ l, ∀ w ∈ l, a u w = b u w) → Deg a l k → Deg b l k
  | [], _, _, _, _ => trivial
  | v :: l, a, b, h, ⟨h1, h2⟩ => by
    refine ⟨?_, deg_congr (fun u hu w hw => h u (List.mem_cons_of_mem _ hu) w (List.mem_cons_of_mem _ hw)) h2⟩
    exact Nat.le_trans (countP_mono fun x hx q => by rw [h v List.mem_cons_self x (List.mem_cons_of_mem _ hx)]; exact q) h1

theorem fill_deg {k : Nat} : ∀ {l : List Nat} {a : Ad}, l.Nodup → OW a l k → Deg (fillG a l) l k
  | [], _, _, _ => trivial
  | v :: l, a, hn, ⟨h1, h2⟩ => by
    rw [List.nodup_cons] at hn
    refine ⟨?_, deg_congr (fun u hu w hw => (fill_on hn.1 u hu w hw).symm) (fill_deg hn.2 h2)⟩
    exact Nat.le_trans (countP_mono fun x hx q => by
      have : fillG a (v :: l) v x = a v x := by show (if v = v ∨ x = v then a v x else _) = _; rw [if_pos (.inl rfl)]
      rw [this] at q; exact q) h1

theorem len_sub : ∀ {l m : List Nat}, l.Nodup → (∀ x ∈ l, x ∈ m) → l.length ≤ m.length
  | [], _, _, _ => by simp
  | x :: l, m, hn, h => by
    rw [List.nodup_cons] at hn
    have hx := h x List.mem_cons_self
    have := len_sub (l := l) (m := m.erase x) hn.2 fun y hy => (List.mem_erase_of_ne (fun e : y = x => hn.1 (e ▸ hy))).2 (h y (List.mem_cons_of_mem _ hy))
    rw [List.length_erase_of_mem hx] at this
    have := List.length_pos_of_mem hx
    rw [List.length_cons]
    omega

/-- The cliques of such a graph are small. -/
theorem clq_deg {a : Ad} (ha : Sym a) {k : Nat} : ∀ {l : List Nat} {K : List Nat}, Deg a l k → l.Nodup → K.Nodup → (∀ x ∈ K, x ∈ l) → Clq a K → K.length ≤ k + 1
  | [], K, _, _, _, hs, _ => by
    have : K = [] := List.eq_nil_iff_forall_not_mem.2 fun x hx => by simpa using hs x hx
    rw [this]; simp
  | v :: l, K, ⟨h1, h2⟩, hn, hK, hs, hc => by
    rw [List.nodup_cons] at hn
    by_cases hv : v ∈ K
    · have h3 : (K.erase v).length ≤ l.countP (a v) := by
        rw [List.countP_eq_length_filter]
        have hsub : (K.erase v).Nodup := hK.erase v
        have hin : ∀ x ∈ K.erase v, x ∈ l.filter (a v) := by
          intro x hx
          have hxK := List.mem_of_mem_erase hx
          have hxv : x ≠ v := ((hK.mem_erase_iff).1 hx).1
          rw [List.mem_filter]
          refine ⟨(List.mem_cons.1 (hs x hxK)).resolve_left hxv, hc v hv x hxK (Ne.symm hxv)⟩
        exact len_sub hsub hin
      rw [List.length_erase_of_mem hv] at h3
      omega
    · exact clq_deg ha h2 hn.2 hK (fun x hx => (List.mem_cons.1 (hs x hx)).resolve_left fun e => hv (e ▸ hx)) hc

/-- In such a graph each order in which nothing is to be added is good. -/
theorem pe_ow {a : Ad} (ha : Sym a) {k : Nat} {l : List Nat} (hl : l.Nodup) (hd : Deg a l k) : ∀ {m : List Nat}, m.Nodup → (∀ x ∈ m, x ∈ l) → PE a m → OW a m k
  | [], _, _, _ => trivial
  | v :: m, hn, hs, hp => by
    rw [List.nodup_cons] at hn
    refine ⟨?_, OW.mono hp.le (pe_ow ha hl hd hn.2 (fun x hx => hs x (List.mem_cons_of_mem _ hx)) hp.2)⟩
    have hK : (v :: m.filter (a v)).Nodup := by
      rw [List.nodup_cons]
      exact ⟨fun h => hn.1 (List.mem_filter.1 h).1, hn.2.filter _⟩
    have := clq_deg ha hd hl hK (fun x hx => by
      rcases List.mem_cons.1 hx with rfl | hx
      · exact hs x List.mem_cons_self
      · exact hs x (List.mem_cons_of_mem _ (List.mem_filter.1 hx).1)) (fun u hu w hw hne => by
      rcases List.mem_cons.1 hu with rfl | hu
      · rcases List.mem_cons.1 hw with rfl | hw
        · exact absurd rfl hne
        · exact (List.mem_filter.1 hw).2
      · rcases List.mem_cons.1 hw with rfl | hw
        · rw [ha.sym]; exact (List.mem_filter.1 hu).2
        · exact hp.1 u (List.mem_filter.1 hu).1 w (List.mem_filter.1 hw).1 hne (List.mem_filter.1 hu).2 (List.mem_filter.1 hw).2)
    rw [List.length_cons] at this
    rw [List.countP_eq_length_filter]
    omega

/-- A good order can end with any node. -/
theorem ow_last {a : Ad} (ha : Sym a) {k c : Nat} {l : List Nat} (hn : l.Nodup) (h : OW a l k) (hc : c ∈ l) : ∃ m, (m ++ [c]).Perm l ∧ OW a (m ++ [c]) k := by
  have hf := fill_sym (l := l) ha
  obtain ⟨m, pm, hm⟩ := pe_last hf l.length l rfl hn (fill_pe (a := a) hn) hc
  refine ⟨m, pm, OW.mono (fun u _ w _ q => fill_le q) (pe_ow hf hn (fill_deg hn h) (pm.nodup_iff.2 hn) (fun x hx => pm.mem_iff.1 hx) hm)⟩

/-! ### Two parts that meet in at most one node -/
theorem glue {k : Nat} {τ α : List Nat} (hα : α.Nodup) (hτ : τ.Nodup) (h1 : τ.length ≤ 1) : ∀ {σ : List Nat} {a : Ad}, Sym a → (∀ x ∈ σ, x ∉ α) → (∀ v ∈ σ, ∀ u ∈ α, a v u = true → u ∈ τ) → OW a (σ ++ τ) k → OW a α k → OW a (σ ++ α) k
  | [], _, _, _, _, _, h => h
  | v :: σ, a, ha, hd, hb, ⟨q1, q2⟩, h => by
    have hnb : ∀ u ∈ α, a v u = true → u ∈ τ := hb v List.mem_cons_self
    refine ⟨?_, glue hα hτ h1 (ha.elim v) (fun x hx => hd x (List.mem_cons_of_mem _ hx)) (fun x hx u hu q => ?_) q2 (OW.mono (fun u hu w hw q => ?_) h)⟩
    · refine Nat.le_trans ?_ q1
      show (σ ++ α).countP (a v) ≤ (σ ++ τ).countP (a v)
      rw [List.countP_append, List.countP_append]
      have : α.countP (a v) ≤ τ.countP (a v) := by
        rw [List.countP_eq_length_filter, List.countP_eq_length_filter]
        refine len_sub (hα.filter _) fun x hx => ?_
        have := List.mem_filter.1 hx
        exact List.mem_filter.2 ⟨hnb x this.1 this.2, this.2⟩
      omega
    · unfold elim at q
      simp only [Bool.or_eq_true, Bool.and_eq_true] at q
      rcases q with q | ⟨_, _, q⟩
      · exact hb x (List.mem_cons_of_mem _ hx) u hu q
      · exact hnb u hu q
    · unfold elim at q
      simp only [Bool.or_eq_true, Bool.and_eq_true, decide_eq_true_eq] at q
      rcases q with q | ⟨hne, z1, z2⟩
      · exact q
      · have m1 := hnb u hu z1
        have m2 := hnb w hw z2
        match τ, h1, m1, m2 with
        | [t], _, m1, m2 => exact absurd ((List.mem_singleton.1 m1).trans (List.mem_singleton.1 m2).symm) hne

end Go.AM

end

section

/- PLAIN: ears on sets without cut nodes; where blocks meet. -/
namespace Go.AM
open Go.Proofs
/-- A list of nodes as a set. -/
def setOf (l : List Nat) : Nat := l.foldr (fun i s => s ||| 2 ^ i) 0

theorem setOf_bit {l : List Nat} {i : Nat} : (setOf l).testBit i = true ↔ i ∈ l := by
  induction l with
  | nil => simp [setOf]
  | cons x l ih =>
    unfold setOf at ih ⊢
    rw [List.foldr_cons, Nat.testBit_or, Bool.or_eq_true, ih, Nat.testBit_two_pow, decide_eq_true_iff, List.mem_cons]
    exact ⟨fun h => h.elim .inr fun e => .inl e.symm, fun h => h.elim (fun e => .inr e.symm) .inl⟩

theorem setOf_lt {l : List Nat} {n : Nat} (h : ∀ i ∈ l, i < n) : setOf l < 2 ^ n := by
  refine Nat.lt_pow_two_of_testBit _ fun i hi => ?_
  rw [Bool.eq_false_iff]
  intro hb
  have := h i (setOf_bit.1 hb)
  omega

/-! ### Blocks -/
/-- A way within a set without one end of an edge does not use the edge. -/
theorem Rch.del {g : List Nat} (hg : GrN g) {a b W s t : Nat} (hab : adj g a b = true) (hz : W.testBit a = false ∨ W.testBit b = false) (hs : W.testBit s = true) (hW : W < 2 ^ g.length) (h : Rch g W s t) : Rch (delE g a b) (allN g) s t := by
  obtain ⟨ha, hb⟩ := hg.adj_lt hab
  have hne : a ≠ b := by rintro rfl; rw [hg.irr] at hab; cases hab
  induction h with
  | base => exact .base
  | @step x y hx hxy hy ih =>
    refine .step ih ?_ (by rw [allN_bit, decide_eq_true (bit_lt hW hy)])
    have hxW := hx.mem hs
    rw [adj_delE ha hb hne, hxy, Bool.true_and, Bool.not_eq_true', Bool.or_eq_false_iff, decide_eq_false_iff_not, decide_eq_false_iff_not]
    constructor
    · rintro ⟨rfl, rfl⟩
      rcases hz with h | h
      · rw [hxW] at h; cases h
      · rw [hy] at h; cases h
    · rintro ⟨rfl, rfl⟩
      rcases hz with h | h
      · rw [hy] at h; cases h
      · rw [hxW] at h; cases h

theorem round_iff {g : List Nat} (hg : GrN g) {a b : Nat} (ha : a < g.length) : roundQ g a b = true ↔ Rch (delE g a b) (allN g) a b := by
  have hlen := hg.len
  have hpow := hg.pow
  have := allN_lt g
  unfold roundQ
  exact rch_bit (by omega) (by omega)

end Go.AM

end

section

/- Blocks and cactus: the laws. -/
namespace Go.AM
open Go.Proofs
variable {R : Type}
attribute [local simp] nx_eq nx_new nx_set blk_new blk_set asI_int asK_int asB_bool asP_ptr al_eq bx_eq len_slice onE_exit onE_ret onR_ret Value.cells d3 d22 d23 d83 d72 w3 w83 cell_new cell_set rd_new rd_set off eq lt le ifB gv out ext20 ext21
theorem keqv4 (a b : Bool) (K : Bool → Option R) : eqv Tryd.prog 4 (.bool a) (.bool b) K = K (a == b) := by
  have : binOp Tryd.prog .eql 4 (.bool a) (.bool b) = some (.bool (a == b)) := by
    cases a <;> cases b <;> kernel_rfl
  unfold eqv
  rw [this]

theorem blocks_lt {g : List Nat} {b : Nat} (hb : b ∈ blocksP g) : b < 2 ^ g.length := (mem_blocks.1 hb).1

theorem blocks_len {g : List Nat} (hg : GrB g) : (blocksP g).length ≤ 1023 := by
  have := cands_len hg
  unfold blocksP
  exact Nat.le_trans (List.length_filter_le _ _) this

end Go.AM

end

section

/- PLAIN: the width of a graph is the greatest width of one of its blocks. -/
namespace Go.AM
open Go.Proofs
/-! ### Nodes taken away, one after the other -/
def elimL : Ad → List Nat → Ad
  | a, [] => a
  | a, v :: l => elimL (elim a v) l

theorem elimL_snoc : ∀ (p : List Nat) (a : Ad) (x : Nat), elimL a (p ++ [x]) = elim (elimL a p) x
  | [], _, _ => rfl
  | v :: p, a, x => elimL_snoc p (elim a v) x

theorem elimL_sym : ∀ {p : List Nat} {a : Ad}, Sym a → Sym (elimL a p)
  | [], _, h => h
  | v :: l, a, h => by
    show Sym (elimL (elim a v) l)
    exact elimL_sym (p := l) (h.elim v)

theorem rch_snoc {g : List Nat} {q : List Nat} {x u i : Nat} (h : Rch g (setOf (x :: q)) u i) : Rch g (setOf q) u i ∨ ((∃ j, Rch g (setOf q) u j ∧ adj g j x = true) ∧ Rch g (setOf q) x i) := by
  induction h with
  | base => exact .inl .base
  | @step a b _ hab hb ih =>
    rw [setOf_bit] at hb
    rcases List.mem_cons.1 hb with e | hb
    · subst e
      rcases ih with ih | ⟨ih, _⟩
      · exact .inr ⟨⟨a, ih, hab⟩, .base⟩
      · exact .inr ⟨ih, .base⟩
    · rcases ih with ih | ⟨ih, ih2⟩
      · exact .inl (.step ih hab (setOf_bit.2 hb))
      · exact .inr ⟨ih, .step ih2 hab (setOf_bit.2 hb)⟩

theorem setOf_nil : setOf [] = 0 := rfl

theorem elimL_iff {g : List Nat} (hs : Sym (adj g)) : ∀ (q : List Nat) {u w : Nat}, u ≠ w → u ∉ q → w ∉ q → (elimL (adj g) q.reverse u w = true ↔ ∃ i, Rch g (setOf q) u i ∧ adj g i w = true)
  | [], u, w, _, _, _ => by
    constructor
    · intro h; exact ⟨u, .base, h⟩
    · rintro ⟨i, hi, h⟩
      cases hi with
      | base => exact h
      | step _ _ hb => rw [setOf_nil] at hb; simp at hb
  | x :: q, u, w, hne, hu, hw => by
    rw [List.mem_cons, not_or] at hu hw
    have up : ∀ {a b}, Rch g (setOf q) a b → Rch g (setOf (x :: q)) a b := fun h => h.mono fun i hi => setOf_bit.2 (List.mem_cons_of_mem _ (setOf_bit.1 hi))
    have hA := elimL_sym (p := q.reverse) hs
    rw [List.reverse_cons, elimL_snoc]
    unfold elim
    simp only [Bool.or_eq_true, Bool.and_eq_true, decide_eq_true_eq]
    constructor
    · rintro (h | ⟨_, h1, h2⟩)
      · obtain ⟨i, hi, h⟩ := (elimL_iff hs q hne hu.2 hw.2).1 h
        exact ⟨i, up hi, h⟩
      · by_cases hxq : x ∈ q
        · -- x has been taken away before: any way goes on
          rw [hA.sym] at h1
          have key : ∀ (q : List Nat) (u w : Nat), elimL (adj g) q.reverse u w = true → ∃ i, Rch g (setOf q) u i ∧ adj g i w = true := by
            intro q
            induction q with
            | nil => intro u w h; exact ⟨u, .base, h⟩
            | cons y q ih =>
              intro u w h
              have up : ∀ {a b}, Rch g (setOf q) a b → Rch g (setOf (y :: q)) a b := fun h => h.mono fun i hi => setOf_bit.2 (List.mem_cons_of_mem _ (setOf_bit.1 hi))
              have hA := elimL_sym (p := q.reverse) hs
              rw [List.reverse_cons, elimL_snoc] at h
              unfold elim at h
              simp only [Bool.or_eq_true, Bool.and_eq_true, decide_eq_true_eq] at h
              rcases h with h | ⟨_, h1, h2⟩
              · obtain ⟨i, hi, h⟩ := ih u w h
                exact ⟨i, up hi, h⟩
              · rw [hA.sym] at h1
                obtain ⟨j, hj, h1⟩ := ih u y h1
                obtain ⟨i, hi, h2⟩ := ih y w h2
                exact ⟨i, (Rch.step (up hj) h1 (setOf_bit.2 List.mem_cons_self)).trans (up hi), h2⟩
          obtain ⟨j, hj, h1⟩ := key q u x h1
          obtain ⟨i, hi, h2⟩ := key q x w h2
          exact ⟨i, (Rch.step (up hj) h1 (setOf_bit.2 List.mem_cons_self)).trans (up hi), h2⟩
        · rw [hA.sym] at h1
          obtain ⟨j, hj, h1⟩ := (elimL_iff hs q hu.1 hu.2 hxq).1 h1
          obtain ⟨i, hi, h2⟩ := (elimL_iff hs q (Ne.symm hw.1) hxq hw.2).1 h2
          exact ⟨i, (Rch.step (up hj) h1 (setOf_bit.2 List.mem_cons_self)).trans (up hi), h2⟩
    · rintro ⟨i, hi, h⟩
      by_cases hxq : x ∈ q
      · left
        refine (elimL_iff hs q hne hu.2 hw.2).2 ⟨i, hi.mono fun z hz => ?_, h⟩
        rw [setOf_bit] at hz ⊢
        rcases List.mem_cons.1 hz with rfl | hz
        · exact hxq
        · exact hz
      · rcases rch_snoc hi with hi | ⟨⟨j, hj, h1⟩, hi⟩
        · exact .inl ((elimL_iff hs q hne hu.2 hw.2).2 ⟨i, hi, h⟩)
        · right
          refine ⟨hne, ?_, (elimL_iff hs q (Ne.symm hw.1) hxq hw.2).2 ⟨i, hi, h⟩⟩
          rw [hA.sym]
          exact (elimL_iff hs q hu.1 hu.2 hxq).2 ⟨j, hj, h1⟩

theorem GrN.symA {g : List Nat} (hg : GrN g) : Sym (adj g) := ⟨hg.sym, hg.irr⟩

theorem len_eq_of {l m : List Nat} (hl : l.Nodup) (hm : m.Nodup) (h : ∀ x, x ∈ l ↔ x ∈ m) : l.length = m.length :=
  Nat.le_antisymm (len_sub hl fun x hx => (h x).1 hx) (len_sub hm fun x hx => (h x).2 hx)

theorem degN_count {g : List Nat} (hg : GrN g) {q : List Nat} {v : Nat} {r : List Nat} (hl : ∀ i, i < g.length ↔ i ∈ q.reverse ++ v :: r) (hn : (q.reverse ++ v :: r).Nodup) :
    degN g v (setOf q) = r.countP (elimL (adj g) q.reverse v) := by
  have hlen := hg.len
  have hpow := hg.pow
  rw [List.nodup_append] at hn
  obtain ⟨nq, nr, hd⟩ := hn
  rw [List.nodup_cons] at nr
  have hvq : v ∉ q := fun h => hd v (List.mem_reverse.2 h) v List.mem_cons_self rfl
  have hv : v < g.length := (hl v).2 (List.mem_append.2 (.inr List.mem_cons_self))
  have hql : ∀ i ∈ q, i < g.length := fun i hi => (hl i).2 (List.mem_append.2 (.inl (List.mem_reverse.2 hi)))
  have hS : setOf q < 2 ^ g.length := setOf_lt hql
  have hW : setOf q ||| 2 ^ v < 1024 := Nat.lt_of_lt_of_le (Nat.or_lt_two_pow hS (Nat.pow_lt_pow_right (by omega) hv)) hpow
  have hbit : ∀ i, (without (without (arN g (rch g (setOf q ||| 2 ^ v) v)) (setOf q)) (2 ^ v)).testBit i = true ↔ i ∈ r ∧ elimL (adj g) q.reverse v i = true := by
    intro i
    rw [bit_del, testBit_without, Bool.and_eq_true, Bool.not_eq_true', ← Bool.not_eq_true, setOf_bit, arN_bit (rch_lt _ _ _)]
    constructor
    · rintro ⟨⟨⟨j, hj, hji⟩, hiq⟩, hiv⟩
      have hir : i ∈ r := by
        have := (hl i).1 (hg.adj_lt hji).2
        rw [List.mem_append, List.mem_reverse, List.mem_cons] at this
        exact (this.resolve_left hiq).resolve_left hiv
      refine ⟨hir, (elimL_iff hg.symA q (Ne.symm hiv) hvq hiq).2 ⟨j, ?_, hji⟩⟩
      have hj := (rch_bit (by omega) hW).1 hj
      -- back to v is not needed
      have key : ∀ {z}, Rch g (setOf q ||| 2 ^ v) v z → Rch g (setOf q) v z := by
        intro z hz
        induction hz with
        | base => exact .base
        | @step a b _ hab hb ih =>
          rw [Nat.testBit_or, Bool.or_eq_true] at hb
          rcases hb with hb | hb
          · exact .step ih hab hb
          · rw [Nat.testBit_two_pow] at hb
            have : v = b := by simpa using hb
            subst this
            exact .base
      exact key hj
    · rintro ⟨hir, h⟩
      have hiq : i ∉ q := fun hq => hd i (List.mem_reverse.2 hq) i (List.mem_cons_of_mem _ hir) rfl
      have hiv : i ≠ v := fun e => nr.1 (e ▸ hir)
      obtain ⟨j, hj, hji⟩ := (elimL_iff hg.symA q (Ne.symm hiv) hvq hiq).1 h
      exact ⟨⟨⟨j, (rch_bit (by omega) hW).2 (hj.mono fun z hz => by rw [Nat.testBit_or, hz]; rfl), hji⟩, hiq⟩, hiv⟩
  unfold degN pop
  rw [List.countP_eq_length_filter, List.countP_eq_length_filter]
  refine len_eq_of (List.nodup_range.filter _) (nr.2.filter _) fun i => ?_
  rw [List.mem_filter, List.mem_filter, List.mem_range]
  constructor
  · rintro ⟨_, h⟩; exact (hbit i).1 h
  · intro h
    refine ⟨?_, (hbit i).2 h⟩
    have := (hl i).2 (List.mem_append.2 (.inr (List.mem_cons_of_mem _ h.1)))
    omega

/-! ### The widths of sets -/
def Wr (g : List Nat) (k : Nat) : List Nat → Prop
  | [] => True
  | v :: q => degN g v (setOf q) ≤ k ∧ Wr g k q

theorem fold_min {F : Nat → Nat} {k : Nat} : ∀ (L : List Nat) (m : Nat), L.foldl (fun m v => min m (F v)) m ≤ k ↔ m ≤ k ∨ ∃ v ∈ L, F v ≤ k
  | [], m => by simp
  | v :: L, m => by
    rw [List.foldl_cons, fold_min L]
    constructor
    · rintro (h | ⟨u, hu, h⟩)
      · by_cases h1 : m ≤ k
        · exact .inl h1
        · exact .inr ⟨v, List.mem_cons_self, by omega⟩
      · exact .inr ⟨u, List.mem_cons_of_mem _ hu, h⟩
    · rintro (h | ⟨u, hu, h⟩)
      · exact .inl (by omega)
      · rcases List.mem_cons.1 hu with rfl | hu
        · exact .inl (by omega)
        · exact .inr ⟨u, hu, h⟩

theorem degN_len {g : List Nat} (hg : GrB g) (v gone : Nat) : degN g v gone ≤ g.length := by
  unfold degN
  exact pop_le_n hg.len (without_lt (without_lt (arN_lt hg _)))

theorem wN_iff {g : List Nat} (hg : GrB g) {k : Nat} : ∀ (S : Nat), S < 2 ^ g.length → (wN g S ≤ k ↔ ∃ q : List Nat, q.Nodup ∧ (∀ i, i ∈ q ↔ S.testBit i = true) ∧ Wr g k q) := by
  intro S
  induction S using Nat.strongRecOn with
  | ind S ih =>
    intro hS
    have hlen := hg.len
    have hpow := hg.pow
    have hS' : S < 1024 := by omega
    rw [wN_eq hS']
    unfold wStep
    by_cases h0 : S = 0
    · rw [if_pos h0]
      subst h0
      exact ⟨fun _ => ⟨[], .nil, by simp, trivial⟩, fun _ => Nat.zero_le _⟩
    · rw [if_neg h0, fold_min (F := fun v => max (wN g (without S (2 ^ v))) (degN g v (without S (2 ^ v))))]
      have hlow := low_bit (Nat.pos_of_ne_zero h0) hS'
      have e1 : (g.length ≤ k ∨ ∃ v ∈ elts S, max (wN g (without S (2 ^ v))) (degN g v (without S (2 ^ v))) ≤ k) ↔ ∃ v, S.testBit v = true ∧ wN g (without S (2 ^ v)) ≤ k ∧ degN g v (without S (2 ^ v)) ≤ k := by
        constructor
        · rintro (h | ⟨v, hv, h⟩)
          · have hT := without_ltv hS' hlow
            have h1 := wN_le (g := g) (S := without S (2 ^ low S)) (by omega)
            have h2 := degN_len hg (low S) (without S (2 ^ low S))
            exact ⟨low S, hlow, by omega, by omega⟩
          · exact ⟨v, (mem_elts hS').1 hv, by omega, by omega⟩
        · rintro ⟨v, hv, h1, h2⟩
          exact .inr ⟨v, (mem_elts hS').2 hv, by omega⟩
      rw [e1]
      constructor
      · rintro ⟨v, hv, h1, h2⟩
        have hT := without_ltv hS' hv
        obtain ⟨q, hq, hm, hw⟩ := (ih _ hT (by omega)).1 h1
        have hset : setOf q = without S (2 ^ v) := Nat.eq_of_testBit_eq fun i => by rw [Bool.eq_iff_iff, setOf_bit, hm]
        refine ⟨v :: q, ?_, fun i => ?_, by rw [hset]; exact h2, hw⟩
        · rw [List.nodup_cons]
          refine ⟨fun h => ?_, hq⟩
          have := (hm v).1 h
          rw [bit_del] at this
          exact this.2 rfl
        · rw [List.mem_cons, hm, bit_del]
          constructor
          · rintro (rfl | h)
            · exact hv
            · exact h.1
          · intro h
            by_cases e : i = v
            · exact .inl e
            · exact .inr ⟨h, e⟩
      · rintro ⟨q, hq, hm, hw⟩
        cases q with
        | nil => exact absurd ((hm _).2 hlow) (by simp)
        | cons v q =>
          rw [List.nodup_cons] at hq
          have hv := (hm v).1 List.mem_cons_self
          have hT := without_ltv hS' hv
          have hm' : ∀ i, i ∈ q ↔ (without S (2 ^ v)).testBit i = true := by
            intro i
            rw [bit_del, ← hm, List.mem_cons]
            constructor
            · intro h; exact ⟨.inr h, fun e => hq.1 (e ▸ h)⟩
            · rintro ⟨h, e⟩; exact h.resolve_left e
          have hset : setOf q = without S (2 ^ v) := Nat.eq_of_testBit_eq fun i => by rw [Bool.eq_iff_iff, setOf_bit, hm']
          refine ⟨v, hv, (ih _ hT (by omega)).2 ⟨q, hq.2, hm', hw.2⟩, ?_⟩
          have := hw.1
          rw [hset] at this
          exact this

theorem wr_ow {g : List Nat} (hg : GrN g) {k : Nat} : ∀ (r q : List Nat), (∀ i, i < g.length ↔ i ∈ q.reverse ++ r) → (q.reverse ++ r).Nodup → (Wr g k (r.reverse ++ q) ↔ Wr g k q ∧ OW (elimL (adj g) q.reverse) r k)
  | [], q, _, _ => by simp [OW]
  | v :: r, q, hl, hn => by
    have e1 : (v :: r).reverse ++ q = r.reverse ++ (v :: q) := by simp
    have e2 : (v :: q).reverse ++ r = q.reverse ++ v :: r := by simp
    rw [e1, wr_ow hg r (v :: q) (by rw [e2]; exact hl) (by rw [e2]; exact hn)]
    have e3 : elimL (adj g) (v :: q).reverse = elim (elimL (adj g) q.reverse) v := by rw [List.reverse_cons, elimL_snoc]
    rw [e3]
    show ((degN g v (setOf q) ≤ k ∧ Wr g k q) ∧ _) ↔ Wr g k q ∧ (r.countP (elimL (adj g) q.reverse v) ≤ k ∧ OW (elim (elimL (adj g) q.reverse) v) r k)
    rw [degN_count hg hl hn]
    constructor
    · rintro ⟨⟨h1, h2⟩, h3⟩; exact ⟨h2, h1, h3⟩
    · rintro ⟨h2, h1, h3⟩; exact ⟨⟨h1, h2⟩, h3⟩

/-- There is an order of a set of at most some width. -/
def OWS (g : List Nat) (S k : Nat) : Prop := ∃ l : List Nat, l.Nodup ∧ (∀ i, i ∈ l ↔ S.testBit i = true) ∧ OW (adj g) l k

theorem wN_all {g : List Nat} (hg : GrN g) {k : Nat} : wN g (allN g) ≤ k ↔ OWS g (allN g) k := by
  rw [wN_iff hg.toGrB _ (allN_lt g)]
  have hall : ∀ i, (allN g).testBit i = true ↔ i < g.length := fun i => by rw [allN_bit, decide_eq_true_iff]
  constructor
  · rintro ⟨q, hq, hm, hw⟩
    have nr : ∀ {q : List Nat}, q.Nodup → q.reverse.Nodup := fun {q} h => (List.reverse_perm q).nodup_iff.2 h
    refine ⟨q.reverse, nr hq, fun i => by rw [List.mem_reverse]; exact hm i, ?_⟩
    have := (wr_ow hg (k := k) q.reverse [] (fun i => by simp only [List.reverse_nil, List.nil_append, List.mem_reverse]; rw [hm, hall]) (by simpa using nr hq)).1 (by simpa using hw)
    exact this.2
  · rintro ⟨l, hn, hm, hw⟩
    have nr : ∀ {q : List Nat}, q.Nodup → q.reverse.Nodup := fun {q} h => (List.reverse_perm q).nodup_iff.2 h
    refine ⟨l.reverse, nr hn, fun i => by rw [List.mem_reverse]; exact hm i, ?_⟩
    have := (wr_ow hg (k := k) l [] (fun i => by simp only [List.reverse_nil, List.nil_append]; rw [hm, hall]) (by simpa using hn)).2 ⟨trivial, hw⟩
    simpa using this

/-! ### Blocks -/
theorem ows_sub {g : List Nat} {S T k : Nat} (h : ∀ i, S.testBit i = true → T.testBit i = true) : OWS g T k → OWS g S k := by
  rintro ⟨l, hn, hm, hw⟩
  refine ⟨l.filter fun i => S.testBit i, hn.filter _, fun i => ?_, hw.sub List.filter_sublist⟩
  rw [List.mem_filter, hm]
  exact ⟨fun h => h.2, fun hi => ⟨h i hi, hi⟩⟩

theorem pop_ltS {a b n i : Nat} (hn : n ≤ 10) (hb : b < 2 ^ n) (h : ∀ j, a.testBit j = true → b.testBit j = true) (hi : b.testBit i = true) (ha : a.testBit i = false) : pop a < pop b :=
  pop_lt (Nat.lt_of_lt_of_le hb (Nat.pow_le_pow_right (by omega) hn)) h hi ha

theorem sub_ltS {a b n : Nat} (hb : b < 2 ^ n) (h : ∀ j, a.testBit j = true → b.testBit j = true) : a < 2 ^ n := by
  refine Nat.lt_pow_two_of_testBit _ fun i hi => ?_
  rw [Bool.eq_false_iff]
  intro hc
  exact absurd (bit_lt hb (h i hc)) (by omega)

/-- A set falls in two parts that meet in at most one node, or has no cut node. -/
theorem split_set {g : List Nat} (hg : GrN g) {S : Nat} (hS : S < 2 ^ g.length) (h0 : S ≠ 0) :
    (∃ A B : Nat, (∀ i, S.testBit i = true ↔ A.testBit i = true ∨ B.testBit i = true) ∧ (∃ b, B.testBit b = true ∧ A.testBit b = false) ∧ (∃ a, A.testBit a = true ∧ B.testBit a = false) ∧ (∃ w, ∀ i, A.testBit i = true → B.testBit i = true → i = w) ∧
      ∀ x y, A.testBit x = true → B.testBit x = false → B.testBit y = true → A.testBit y = false → adj g x y = false)
    ∨ Bi g S := by
  have hlen := hg.len
  have hpow := hg.pow
  have hS' : S < 1024 := by omega
  by_cases hc : Conn g S
  · by_cases hb : Bi g S
    · exact .inr hb
    · left
      obtain ⟨w, hw⟩ := Classical.not_forall.1 hb
      have hwS : S.testBit w = true := by
        cases h : S.testBit w with
        | true => rfl
        | false => rw [del_none h] at hw; exact absurd hc hw
      unfold Conn at hw
      simp only [Classical.not_forall] at hw
      obtain ⟨a, b, ha, hb', hab⟩ := hw
      have hW : without S (2 ^ w) < 1024 := without_lt (n := 10) hS'
      have ha' := bit_del.1 ha
      have hb'' := bit_del.1 hb'
      have ha10 : a < g.length := bit_lt hS ha'.1
      let A' := rch g (without S (2 ^ w)) a
      have hA' : ∀ i, A'.testBit i = true ↔ Rch g (without S (2 ^ w)) a i := fun i => rch_bit (by omega) hW
      have hAS : ∀ i, A'.testBit i = true → S.testBit i = true ∧ i ≠ w := fun i hi => bit_del.1 (((hA' i).1 hi).mem ha)
      have hwA : A'.testBit w = false := by rw [Bool.eq_false_iff]; intro h; exact (hAS w h).2 rfl
      have bA : ∀ i, (A' ||| 2 ^ w).testBit i = true ↔ A'.testBit i = true ∨ i = w := by
        intro i
        rw [Nat.testBit_or, Bool.or_eq_true, Nat.testBit_two_pow, decide_eq_true_iff]
        exact ⟨fun h => h.imp_right Eq.symm, fun h => h.imp_right Eq.symm⟩
      have bB : ∀ i, (without S A').testBit i = true ↔ S.testBit i = true ∧ A'.testBit i = false := by
        intro i; rw [testBit_without, Bool.and_eq_true, Bool.not_eq_true']
      have hbA : A'.testBit b = false := by rw [Bool.eq_false_iff]; intro h; exact hab ((hA' b).1 h)
      refine ⟨A' ||| 2 ^ w, without S A', fun i => ?_, ⟨b, (bB b).2 ⟨hb''.1, hbA⟩, ?_⟩, ⟨a, (bA a).2 (.inl ((hA' a).2 .base)), ?_⟩, ⟨w, fun i h1 h2 => ?_⟩, fun x y h1 h2 h3 h4 => ?_⟩
      · rw [bA, bB]
        constructor
        · intro h
          cases h2 : A'.testBit i with
          | true => exact .inl (.inl rfl)
          | false => exact .inr ⟨h, rfl⟩
        · rintro ((h | rfl) | h)
          · exact (hAS i h).1
          · exact hwS
          · exact h.1
      · rw [Bool.eq_false_iff]
        intro h
        rcases (bA b).1 h with h | h
        · rw [hbA] at h; cases h
        · exact hb''.2 h
      · rw [Bool.eq_false_iff]
        intro h
        have := ((bB a).1 h).2
        rw [(hA' a).2 .base] at this
        cases this
      · have := (bA i).1 h1
        have h3 := (bB i).1 h2
        rcases this with h | h
        · rw [h3.2] at h; cases h
        · exact h
      · rw [Bool.eq_false_iff]
        intro hxy
        have hy := (bB y).1 h3
        have hyw : y ≠ w := fun e => by
          have := (bA y).2 (.inr e)
          rw [h4] at this; cases this
        have hx : A'.testBit x = true := by
          rcases (bA x).1 h1 with h | h
          · exact h
          · subst h
            have := (bB x).2 ⟨hwS, hwA⟩
            rw [h2] at this; cases this
        have := (hA' y).2 (.step ((hA' x).1 hx) hxy (bit_del.2 ⟨hy.1, hyw⟩))
        rw [hy.2] at this; cases this
  · left
    unfold Conn at hc
    simp only [Classical.not_forall] at hc
    obtain ⟨a, b, ha, hb, hab⟩ := hc
    have ha10 : a < g.length := bit_lt hS ha
    let A := rch g S a
    have hA : ∀ i, A.testBit i = true ↔ Rch g S a i := fun i => rch_bit (by omega) hS'
    have hAS : ∀ i, A.testBit i = true → S.testBit i = true := fun i hi => ((hA i).1 hi).mem ha
    have bB : ∀ i, (without S A).testBit i = true ↔ S.testBit i = true ∧ A.testBit i = false := by
      intro i; rw [testBit_without, Bool.and_eq_true, Bool.not_eq_true']
    have hbA : A.testBit b = false := by rw [Bool.eq_false_iff]; intro h; exact hab ((hA b).1 h)
    refine ⟨A, without S A, fun i => ?_, ⟨b, (bB b).2 ⟨hb, hbA⟩, hbA⟩, ⟨a, (hA a).2 .base, ?_⟩, ⟨0, fun i h1 h2 => ?_⟩, fun x y h1 h2 h3 h4 => ?_⟩
    · rw [bB]
      constructor
      · intro h
        cases h2 : A.testBit i with
        | true => exact .inl rfl
        | false => exact .inr ⟨h, rfl⟩
      · rintro (h | h)
        · exact hAS i h
        · exact h.1
    · rw [Bool.eq_false_iff]
      intro h
      have := ((bB a).1 h).2
      rw [(hA a).2 .base] at this
      cases this
    · have := ((bB i).1 h2).2
      rw [h1] at this; cases this
    · rw [Bool.eq_false_iff]
      intro hxy
      have := (hA y).2 (.step ((hA x).1 h1) hxy ((bB y).1 h3).1)
      rw [h4] at this; cases this

/-- What holds of the blocks, of parts, and of what is put together of two parts, holds of all sets. -/
theorem by_blocks {g : List Nat} (hg : GrN g) (Q : Nat → Prop) (hb : ∀ b ∈ blocksP g, Q b) (hsub : ∀ S T, (∀ i, S.testBit i = true → T.testBit i = true) → Q T → Q S) (h0 : Q 0) (h1 : ∀ v, v < g.length → Q (2 ^ v))
    (hglue : ∀ S A B : Nat, (∀ i, S.testBit i = true ↔ A.testBit i = true ∨ B.testBit i = true) → (∃ w, ∀ i, A.testBit i = true → B.testBit i = true → i = w) →
      (∀ x y, A.testBit x = true → B.testBit x = false → B.testBit y = true → A.testBit y = false → adj g x y = false) → Q A → Q B → Q S) :
    ∀ (n S : Nat), pop S ≤ n → S < 2 ^ g.length → Q S := by
  have hlen := hg.len
  have hpow := hg.pow
  intro n
  induction n with
  | zero =>
    intro S hp hS
    have e : S = 0 := pop_zero' (by omega) (by omega)
    rw [e]
    exact h0
  | succ n ih =>
    intro S hp hS
    have hS' : S < 1024 := by omega
    by_cases hz : S = 0
    · subst hz; exact h0
    · rcases split_set hg hS hz with ⟨A, B, hAB, ⟨b, hb1, hb2⟩, ⟨a, ha1, ha2⟩, hw, hne⟩ | hbi
      · have sA : ∀ i, A.testBit i = true → S.testBit i = true := fun i h => (hAB i).2 (.inl h)
        have sB : ∀ i, B.testBit i = true → S.testBit i = true := fun i h => (hAB i).2 (.inr h)
        have pA := pop_ltS hlen hS sA (sB b hb1) hb2
        have pB := pop_ltS hlen hS sB (sA a ha1) ha2
        exact hglue S A B hAB hw hne (ih A (by omega) (sub_ltS hS sA)) (ih B (by omega) (sub_ltS hS sB))
      · by_cases hp2 : 1 < pop S
        · have hc2 := (cand2_iff hg hS).2 ⟨hp2, hbi⟩
          have hcq : candQ g S = true := by unfold candQ; rw [hc2]; simp
          have hple := pop_le_n hlen hS
          obtain ⟨y, hy, hsy⟩ := mx_above hlen (c := candQ g) (10 - pop S) S (by omega) hS hcq
          exact hsub S y (subS_iff.1 hsy) (hb y (mem_blocks.2 hy))
        · have hp1 : pop S = 1 := by
            rcases Nat.lt_or_ge 0 (pop S) with h | h
            · omega
            · exact absurd (pop_zero' hS' (by omega)) hz
          rw [pop_one hS' hp1]
          exact h1 _ (low_lt hg.toGrB hS hz)

theorem ows_blocks {g : List Nat} (hg : GrN g) {k : Nat} : OWS g (allN g) k ↔ ∀ b ∈ blocksP g, OWS g b k := by
  constructor
  · intro h b hb
    refine ows_sub (fun i hi => ?_) h
    rw [allN_bit, decide_eq_true_iff]
    exact bit_lt (blocks_lt hb) hi
  · intro h
    refine by_blocks hg (fun S => OWS g S k) h (fun S T hST hT => ows_sub hST hT) ⟨[], .nil, by simp, trivial⟩ (fun v _ => ⟨[v], by simp, fun i => ?_, ?_, trivial⟩) ?_ (pop (allN g)) (allN g) (Nat.le_refl _) (allN_lt g)
    · rw [List.mem_singleton, Nat.testBit_two_pow, decide_eq_true_iff]; exact eq_comm
    · simp
    · rintro S A B hAB ⟨w, hw⟩ hne ⟨la, na, ma, oa⟩ ⟨lb, nb', mb, ob⟩
      by_cases hwA : A.testBit w = true ∧ B.testBit w = true
      · obtain ⟨m, pm, om⟩ := ow_last hg.symA na oa ((ma w).2 hwA.1)
        have nm : (m ++ [w]).Nodup := pm.nodup_iff.2 na
        rw [List.nodup_append] at nm
        have hm : ∀ x, x ∈ m ↔ A.testBit x = true ∧ x ≠ w := by
          intro x
          have := pm.mem_iff (a := x)
          rw [List.mem_append, List.mem_singleton, ma] at this
          constructor
          · intro hx
            exact ⟨this.1 (.inl hx), fun e => nm.2.2 x hx w (by simp) e⟩
          · rintro ⟨h1, h2⟩
            exact (this.2 h1).resolve_right h2
        have mB : ∀ x ∈ m, B.testBit x = false := by
          intro x hx
          rw [Bool.eq_false_iff]
          intro hB
          exact ((hm x).1 hx).2 (hw x ((hm x).1 hx).1 hB)
        refine ⟨m ++ lb, ?_, fun i => ?_, glue nb' (by simp) (by simp) hg.symA (fun x hx h => ?_) (fun v hv u hu q => ?_) om ob⟩
        · rw [List.nodup_append]
          refine ⟨nm.1, nb', fun x hx y hy e => ?_⟩
          subst e
          have := mB x hx
          rw [(mb x).1 hy] at this; cases this
        · rw [List.mem_append, hm, mb, hAB]
          constructor
          · rintro (h | h)
            · exact .inl h.1
            · exact .inr h
          · rintro (h | h)
            · by_cases e : i = w
              · subst e; exact .inr hwA.2
              · exact .inl ⟨h, e⟩
            · exact .inr h
        · have := mB x hx
          rw [(mb x).1 h] at this; cases this
        · rw [List.mem_singleton]
          refine Classical.byContradiction fun huw => ?_
          have huA : A.testBit u = false := by
            rw [Bool.eq_false_iff]
            intro h; exact huw (hw u h ((mb u).1 hu))
          have := hne v u ((hm v).1 hv).1 (mB v hv) ((mb u).1 hu) huA
          rw [q] at this; cases this
      · have dis : ∀ i, A.testBit i = true → B.testBit i = false := by
          intro i hi
          rw [Bool.eq_false_iff]
          intro hB
          have := hw i hi hB
          subst this
          exact hwA ⟨hi, hB⟩
        refine ⟨la ++ lb, ?_, fun i => ?_, glue (τ := []) nb' .nil (by simp) hg.symA (fun x hx h => ?_) (fun v hv u hu q => ?_) (by rw [List.append_nil]; exact oa) ob⟩
        · rw [List.nodup_append]
          refine ⟨na, nb', fun x hx y hy e => ?_⟩
          subst e
          have := dis x ((ma x).1 hx)
          rw [(mb x).1 hy] at this; cases this
        · rw [List.mem_append, ma, mb, hAB]
        · have := dis x ((ma x).1 hx)
          rw [(mb x).1 h] at this; cases this
        · exfalso
          have huA : A.testBit u = false := by
            rw [Bool.eq_false_iff]
            intro h
            have := dis u h
            rw [(mb u).1 hu] at this; cases this
          have := hne v u ((ma v).1 hv) (dis v ((ma v).1 hv)) ((mb u).1 hu) huA
          rw [q] at this; cases this

/-! ### The graph of some nodes alone -/
theorem ow_map {f : Nat → Nat} {k : Nat} : ∀ (l : List Nat) (a b : Ad), (∀ u ∈ l, ∀ w ∈ l, f u = f w → u = w) → (∀ u ∈ l, ∀ w ∈ l, b u w = a (f u) (f w)) → (OW b l k ↔ OW a (l.map f) k)
  | [], _, _, _, _ => Iff.rfl
  | v :: l, a, b, hi, h => by
    rw [List.map_cons]
    have hc : l.countP (b v) = (l.map f).countP (a (f v)) := by
      rw [List.countP_map]
      refine List.countP_congr fun x hx => ?_
      rw [h v List.mem_cons_self x (List.mem_cons_of_mem _ hx)]
      rfl
    have := ow_map (f := f) (k := k) l (elim a (f v)) (elim b v) (fun u hu w hw => hi u (List.mem_cons_of_mem _ hu) w (List.mem_cons_of_mem _ hw)) (fun u hu w hw => by
      unfold elim
      rw [h u (List.mem_cons_of_mem _ hu) w (List.mem_cons_of_mem _ hw), h v List.mem_cons_self u (List.mem_cons_of_mem _ hu), h v List.mem_cons_self w (List.mem_cons_of_mem _ hw)]
      have : decide (u ≠ w) = decide (f u ≠ f w) := by
        rw [decide_eq_decide]
        exact ⟨fun hne e => hne (hi u (List.mem_cons_of_mem _ hu) w (List.mem_cons_of_mem _ hw) e), fun hne e => hne (by rw [e])⟩
      rw [this])
    show (l.countP (b v) ≤ k ∧ OW (elim b v) l k) ↔ ((l.map f).countP (a (f v)) ≤ k ∧ OW (elim a (f v)) (l.map f) k)
    rw [hc, this]

def eAt (b i : Nat) : Nat := (elts b).getD i 0

theorem eAt_get {b i : Nat} (h : i < pop b) : (elts b)[i]? = some (eAt b i) := by
  rw [← elts_len] at h
  unfold eAt
  rw [List.getD_eq_getElem?_getD, List.getElem?_eq_getElem h]
  rfl

theorem nodup_get {l : List Nat} (hn : l.Nodup) {i j x : Nat} (h1 : l[i]? = some x) (h2 : l[j]? = some x) : i = j := by
  obtain ⟨p1, q1⟩ := List.getElem?_eq_some_iff.1 h1
  obtain ⟨p2, q2⟩ := List.getElem?_eq_some_iff.1 h2
  have := List.pairwise_iff_getElem.1 hn
  rcases Nat.lt_trichotomy i j with h | h | h
  · exact absurd (q1.trans q2.symm) (this i j p1 p2 h)
  · exact h
  · exact absurd (q2.trans q1.symm) (this j i p2 p1 h)

theorem eAt_inj {b i j : Nat} (hi : i < pop b) (hj : j < pop b) (h : eAt b i = eAt b j) : i = j := by
  have h1 := eAt_get hi
  have h2 := eAt_get hj
  rw [h] at h1
  exact nodup_get (elts_nodup b) h1 h2

def withinP (g : List Nat) (b : Nat) : List Nat := (elts b).map fun v => mkS (fun k => adj g v (eAt b k)) (pop b)

theorem within_len (g : List Nat) (b : Nat) : (withinP g b).length = pop b := by unfold withinP; rw [List.length_map, elts_len]

theorem within_adj {g : List Nat} {b i j : Nat} (hi : i < pop b) : adj (withinP g b) i j = (decide (j < pop b) && adj g (eAt b i) (eAt b j)) := by
  unfold adj nb
  rw [List.getD_eq_getElem?_getD]
  unfold withinP
  rw [List.getElem?_map, eAt_get hi]
  simp only [Option.map_some, Option.getD_some]
  rw [mkS_bit]
  rfl

theorem within_big {g : List Nat} {b i j : Nat} (hi : ¬ i < pop b) : adj (withinP g b) i j = false := by
  unfold adj nb
  rw [List.getD_eq_getElem?_getD, List.getElem?_eq_none (by rw [within_len]; omega)]
  simp

theorem within_gr {g : List Nat} (hg : GrN g) {b : Nat} (hb : b < 2 ^ g.length) (h0 : b ≠ 0) : GrN (withinP g b) := by
  have hlen := hg.len
  have hp := pop_le_n hlen hb
  have hb' : b < 1024 := Nat.lt_of_lt_of_le hb hg.pow
  have hp0 : pop b ≠ 0 := fun e => h0 (pop_zero' hb' e)
  refine ⟨⟨by rw [within_len]; omega, fun x hx => ?_⟩, by rw [within_len]; omega, fun a => ?_, fun i j => ?_⟩
  · rw [within_len]
    unfold withinP at hx
    obtain ⟨v, _, rfl⟩ := List.mem_map.1 hx
    exact mkS_lt _ _
  · by_cases h : a < pop b
    · rw [within_adj h, hg.irr]; simp
    · exact within_big h
  · by_cases hi : i < pop b
    · by_cases hj : j < pop b
      · rw [within_adj hi, within_adj hj, hg.sym, decide_eq_true hi, decide_eq_true hj]
      · rw [within_adj hi, within_big hj, decide_eq_false hj]; rfl
    · by_cases hj : j < pop b
      · rw [within_adj hj, within_big hi, decide_eq_false hi]; rfl
      · rw [within_big hi, within_big hj]

theorem lift_list {n : Nat} {f : Nat → Nat} : ∀ (l : List Nat), (∀ i ∈ l, ∃ j, j < n ∧ f j = i) → ∃ l' : List Nat, l'.map f = l ∧ ∀ j ∈ l', j < n
  | [], _ => ⟨[], rfl, by simp⟩
  | i :: l, h => by
    obtain ⟨l', h1, h2⟩ := lift_list l fun i hi => h i (List.mem_cons_of_mem _ hi)
    obtain ⟨j, hj, e⟩ := h i List.mem_cons_self
    refine ⟨j :: l', by rw [List.map_cons, e, h1], fun x hx => ?_⟩
    rcases List.mem_cons.1 hx with rfl | hx
    · exact hj
    · exact h2 x hx

theorem ows_within {g : List Nat} {b k : Nat} (hb' : b < 1024) : OWS (withinP g b) (allN (withinP g b)) k ↔ OWS g b k := by
  have hall : ∀ i, (allN (withinP g b)).testBit i = true ↔ i < pop b := fun i => by rw [allN_bit, decide_eq_true_iff, within_len]
  have hmem : ∀ i, b.testBit i = true ↔ ∃ j, j < pop b ∧ eAt b j = i := by
    intro i
    rw [← mem_elts hb']
    constructor
    · intro h
      obtain ⟨j, hj⟩ := List.mem_iff_getElem?.1 h
      have hjl : j < pop b := by rw [← elts_len]; exact (List.getElem?_eq_some_iff.1 hj).1
      rw [eAt_get hjl] at hj
      exact ⟨j, hjl, Option.some.inj hj⟩
    · rintro ⟨j, hj, rfl⟩
      exact List.mem_of_getElem? (eAt_get hj)
  constructor
  · rintro ⟨l, hn, hm, hw⟩
    have hlt : ∀ u ∈ l, u < pop b := fun u hu => (hall u).1 ((hm u).1 hu)
    refine ⟨l.map (eAt b), ?_, fun i => ?_, (ow_map l (adj g) (adj (withinP g b)) (fun u hu w hw e => eAt_inj (hlt u hu) (hlt w hw) e) (fun u hu w hw => by rw [within_adj (hlt u hu), decide_eq_true (hlt w hw)]; rfl)).1 hw⟩
    · unfold List.Nodup
      rw [List.pairwise_map]
      exact List.Pairwise.imp_of_mem (fun {u w} hu hw hne e => hne (eAt_inj (hlt u hu) (hlt w hw) e)) hn
    · rw [List.mem_map, hmem]
      constructor
      · rintro ⟨j, hj, e⟩; exact ⟨j, hlt j hj, e⟩
      · rintro ⟨j, hj, e⟩; exact ⟨j, (hm j).2 ((hall j).2 hj), e⟩
  · rintro ⟨l, hn, hm, hw⟩
    obtain ⟨l', rfl, hlt⟩ := lift_list (f := eAt b) (n := pop b) l fun i hi => (hmem i).1 ((hm i).1 hi)
    refine ⟨l', ?_, fun i => ?_, (ow_map l' (adj g) (adj (withinP g b)) (fun u hu w hw e => eAt_inj (hlt u hu) (hlt w hw) e) (fun u hu w hw => by rw [within_adj (hlt u hu), decide_eq_true (hlt w hw)]; rfl)).2 hw⟩
    · unfold List.Nodup at hn
      rw [List.pairwise_map] at hn
      exact hn.imp fun hne e => hne (by rw [e])
    · rw [hall]
      constructor
      · exact hlt i
      · intro h
        have := (hm (eAt b i)).2 ((hmem _).2 ⟨i, h, rfl⟩)
        obtain ⟨j, hj, e⟩ := List.mem_map.1 this
        have := eAt_inj (hlt j hj) h e
        subst this; exact hj

/-- THE WIDTH OF A GRAPH AND OF ITS BLOCKS. -/
theorem width_blocks {g : List Nat} (hg : GrN g) (k : Nat) : wN g (allN g) ≤ k ↔ ∀ b ∈ blocksP g, wN (withinP g b) (allN (withinP g b)) ≤ k := by
  have hpow := hg.pow
  rw [wN_all hg, ows_blocks hg]
  refine ⟨fun h b hb => ?_, fun h b hb => ?_⟩
  all_goals
    have hlt := blocks_lt hb
    have h0 : b ≠ 0 := by
      have := (mem_cands.1 (List.mem_filter.1 hb).1).1
      omega
  · rw [wN_all (within_gr hg hlt h0), ows_within (by omega)]
    exact h b hb
  · have := h b hb
    rw [wN_all (within_gr hg hlt h0), ows_within (by omega)] at this
    exact this

end Go.AM

end

section

/- PLAIN: renaming the nodes of a graph. -/
namespace Go.AM
open Go.Proofs
/-- The nodes of one graph as those of another one. -/
structure Iso (g h : List Nat) (f f' : Nat → Nat) : Prop where
  len : h.length = g.length
  lt : ∀ i, i < g.length → f i < g.length
  lt' : ∀ i, i < g.length → f' i < g.length
  inv : ∀ i, i < g.length → f' (f i) = i
  inv' : ∀ i, i < g.length → f (f' i) = i
  adj : ∀ a b, a < g.length → b < g.length → AM.adj h (f a) (f b) = AM.adj g a b

theorem Iso.symm {g h : List Nat} {f f' : Nat → Nat} (s : Iso g h f f') : Iso h g f' f := by
  have hl := s.len
  refine ⟨hl.symm, fun i hi => by rw [hl] at hi ⊢; exact s.lt' i hi, fun i hi => by rw [hl] at hi ⊢; exact s.lt i hi, fun i hi => by rw [hl] at hi; exact s.inv' i hi, fun i hi => by rw [hl] at hi; exact s.inv i hi, fun a b ha hb => ?_⟩
  rw [hl] at ha hb
  rw [← s.adj _ _ (s.lt' a ha) (s.lt' b hb), s.inv' a ha, s.inv' b hb]

section
variable {g h : List Nat} {f f' : Nat → Nat} (s : Iso g h f f')
include s
theorem Iso.delE (hg : GrN g) (hh : GrN h) {a b : Nat} (ha : a < g.length) (hb : b < g.length) (hab : a ≠ b) : Iso (delE g a b) (AM.delE h (f a) (f b)) f f' := by
  have hl := s.len
  have hfab : f a ≠ f b := fun e => hab (by rw [← s.inv a ha, ← s.inv b hb, e])
  refine ⟨by rw [delE_len, delE_len]; exact hl, fun i hi => by rw [delE_len] at hi ⊢; exact s.lt i hi, fun i hi => by rw [delE_len] at hi ⊢; exact s.lt' i hi, fun i hi => by rw [delE_len] at hi; exact s.inv i hi, fun i hi => by rw [delE_len] at hi; exact s.inv' i hi, fun u v hu hv => ?_⟩
  rw [delE_len] at hu hv
  rw [adj_delE (by rw [hl]; exact s.lt a ha) (by rw [hl]; exact s.lt b hb) hfab, adj_delE ha hb hab, s.adj u v hu hv]
  have hi : ∀ x y, x < g.length → y < g.length → (f x = f y ↔ x = y) := fun x y hx hy => ⟨fun e => by rw [← s.inv x hx, ← s.inv y hy, e], fun e => by rw [e]⟩
  rw [decide_eq_decide.2 (and_congr (hi u a hu ha) (hi v b hv hb)), decide_eq_decide.2 (and_congr (hi u b hu hb) (hi v a hv ha))]

end
/-! ### Pairs in order, and how many there are -/
theorem len_le {α β : Type} [DecidableEq β] {F : α → β} : ∀ {l : List α} {l' : List β}, l.Nodup → (∀ x ∈ l, F x ∈ l') → (∀ x ∈ l, ∀ y ∈ l, F x = F y → x = y) → l.length ≤ l'.length := by
  intro l
  induction l with
  | nil => intro l' _ _ _; simp
  | cons x l ih =>
    intro l' hnd hm hi
    rw [List.nodup_cons] at hnd
    have h1 := hm x List.mem_cons_self
    have h2 := ih (l' := l'.erase (F x)) hnd.2 (fun y hy => by
      refine (List.mem_erase_of_ne fun e => ?_).2 (hm y (List.mem_cons_of_mem _ hy))
      have := hi y (List.mem_cons_of_mem _ hy) x List.mem_cons_self e
      subst this
      exact hnd.1 hy) fun a ha b hb => hi a (List.mem_cons_of_mem _ ha) b (List.mem_cons_of_mem _ hb)
    rw [List.length_erase_of_mem h1] at h2
    have := List.length_pos_of_mem h1
    rw [List.length_cons]
    omega

end Go.AM

end

section

/- Law 3: the width of a graph is the greatest width of one of its blocks. -/
namespace Go.AM
open Go.Proofs
variable {k : Nat} {R : Type}
attribute [local simp] nx_eq nx_new nx_set blk_new blk_set asI_int asK_int asB_bool asP_ptr al_eq bx_eq len_slice onE_exit onE_ret onR_ret Value.cells d3 d22 d23 cell_new cell_set rd_new rd_set off eq lt le ifB gv out
theorem bls23 (z : Int) (h : H) : buildSlice Tryd.prog 23 1 [(0, .int .i64 z)] h = some (.slice (some ⟨h.nx, 0, none⟩) 1 1, h.new (.row [iv z] 3 true)) := by kernel_rfl

/-- A graph is valid. -/
theorem valid_of2 {g : List Nat} (hg : GrN g) : validG (g.map Int.ofNat) = true := by
  have hlen := hg.len
  have hpos := hg.pos
  have hpow := hg.pow
  rw [validG_iff (by simpa using ⟨hpos, hlen⟩)]
  intro i x hx
  have hi : i < g.length := by have := (List.getElem?_eq_some_iff.1 hx).1; simpa using this
  obtain rfl := nb_eq hx
  have hlt := hg.nb_lt i
  unfold rowOk
  simp only [Bool.and_eq_true, Bool.not_eq_true', decide_eq_false_iff_not, List.all_eq_true, List.mem_range, decide_eq_true_iff, List.length_map]
  refine ⟨⟨⟨by omega, ?_⟩, ?_⟩, fun j hj => ?_⟩
  · rw [shl1_nat (by omega)]; omega
  · rw [bitI_nat (by omega) (by omega)]
    have : (nb g i).testBit i = false := hg.irr i
    rw [this]; simp
  · have h1 : (List.map Int.ofNat g).getD j 0 = ((nb g j : Nat) : Int) := by
      rw [List.getD_eq_getElem?_getD, nb_get hj]; rfl
    have hlt' := hg.nb_lt j
    rw [h1, bitI_nat (by omega) (by omega), bitI_nat (by omega) (by omega)]
    have : (nb g i).testBit j = (nb g j).testBit i := hg.sym i j
    rw [this]

theorem s11 {v : Value} {l : List Int} {h : H} (hs : SlR h 3 1 v (cellsI l)) : ∃ v' h', rn 11 #[v] h = some (v', h') ∧ Exw h h' ∧ SlR h' 3 1 v' (cellsI (l.take 13)) := by
  have e1 : imin ((cellsI l).length : Int) 13 = ((min l.length 13 : Nat) : Int) := by
    rw [List.length_map]
    unfold imin
    split <;> omega
  obtain ⟨v1, s1, e2⟩ := hs.take (i := ((min l.length 13 : Nat) : Int)) under23 sz3 (by omega) (by rw [List.length_map]; omega)
  have e3 : (cellsI l).take ((min l.length 13 : Nat) : Int).toNat = cellsI (l.take 13) := by
    rw [Int.toNat_natCast, ← List.map_take]
    congr 1
    rcases Nat.le_total l.length 13 with h1 | h1
    · rw [Nat.min_eq_left h1, List.take_of_length_le (Nat.le_refl _), List.take_of_length_le h1]
    · rw [Nat.min_eq_right h1]
  rw [e3] at s1
  obtain ⟨v', h', e4, x, s, a, n, c, rfl⟩ := s38 s1 (by rw [List.length_map, List.length_take]; omega)
  obtain ⟨h2, e5, m2, w2⟩ := x11 (k := 0) (h := h) (v0 := v) (h1 := h') (v := .slice a n c) (by
    unfold f11
    rw [hs.len, e1, e2, calls_eq e4]) rfl
  exact ⟨_, h2, e5, w2 x.toExt, s.ext m2.ext⟩

theorem s11g {v : Value} {g : List Nat} {h : H} (hg : GrB g) (hs : SlR h 3 1 v (cellsN g)) : ∃ v' h', rn 11 #[v] h = some (v', h') ∧ Exw h h' ∧ SlR h' 3 1 v' (cellsN g) := by
  have hlen := hg.len
  obtain ⟨v', h', e, x, s⟩ := s11 (l := g.map Int.ofNat) (by rw [cellsN_eq]; exact hs)
  refine ⟨v', h', e, x, ?_⟩
  rw [List.take_of_length_le (by simp; omega), cellsN_eq] at s
  exact s

/-! ### The graph of some nodes -/
def cntB (S i : Nat) : Nat := ((List.range i).filter fun u => S.testBit u).length

theorem cntB_succ (S i : Nat) : cntB S (i + 1) = cntB S i + if S.testBit i = true then 1 else 0 := by
  unfold cntB
  rw [List.range_succ, List.filter_append, List.length_append]
  congr 1
  by_cases h : S.testBit i = true <;> simp [h]

theorem elts_pre {S n i : Nat} (hn : n ≤ 10) (hS : S < 2 ^ n) (hi : i < n) : elts S = ((List.range i).filter fun u => S.testBit u) ++ ((List.range' i (n - i)).filter fun u => S.testBit u) := by
  rw [elts_n hn hS, ← List.filter_append]
  congr 1
  rw [List.range_eq_range', List.range_eq_range']
  have := List.range'_append (s := 0) (m := i) (n := n - i) (step := 1)
  simp only [Nat.zero_add, Nat.one_mul] at this
  rw [this]
  congr 1
  omega

theorem eAt_cnt {S n i : Nat} (hn : n ≤ 10) (hS : S < 2 ^ n) (hi : i < n) (hb : S.testBit i = true) : eAt S (cntB S i) = i := by
  unfold eAt cntB
  rw [elts_pre hn hS hi, List.getD_eq_getElem?_getD, List.getElem?_append_right (Nat.le_refl _), Nat.sub_self]
  obtain ⟨m, hm⟩ : ∃ m, n - i = m + 1 := ⟨n - i - 1, by omega⟩
  rw [hm, List.range'_succ, List.filter_cons_of_pos hb]
  rfl

theorem cntB_all {S n : Nat} (hn : n ≤ 10) (hS : S < 2 ^ n) : cntB S n = pop S := by
  rw [← elts_len, elts_n hn hS]; rfl

theorem cntB_le (S i : Nat) : cntB S i ≤ i := by
  unfold cntB
  have := List.length_filter_le (fun u => S.testBit u) (List.range i)
  rwa [List.length_range] at this

theorem s13 {v : Value} {g : List Nat} {S : Nat} {h : H} (hg : GrB g) (hS : S < 2 ^ g.length) (hs : SlR h 3 1 v (cellsN g)) :
    ∃ v' h', rn 13 #[v, iv S] h = some (v', h') ∧ Exw h h' ∧ SlR h' 3 1 v' (cellsN (withinP g S)) := by
  have hlen := hg.len
  have hpow := hg.pow
  have hn : ∀ {T : Type} (K : Int → Option T), len v K = K (g.length : Int) := fun K => by rw [hs.len]; simp
  let F : Nat → Nat := fun u => mkS (fun k => adj g u (eAt S k)) (pop S)
  -- the row of a node
  have inner : ∀ (u : Nat), u < g.length → ∀ g' : H, ∃ w, lpGo (f13_l2 rn 2000 S (nb g u) g.length) 2000 [iv 0, iv 0, iv 0] g' = some (.exit 2, [iv (F u), w, iv g.length], g') := by
    intro u hu g'
    have hnu := hg.nb_lt u
    obtain ⟨e, ws', h', hl, rfl, rfl, w, rfl⟩ := lp_range (F := f13_l2 rn 2000 S (nb g u) g.length) (k := 2000) (n := g.length)
      (fun i ws g2 => g2 = g' ∧ ws = [iv (mkS (fun k => adj g u (eAt S k)) (cntB S i) : Nat), iv (cntB S i : Nat), iv i])
      (fun e ws g2 => e = .exit 2 ∧ g2 = g' ∧ ∃ w, ws = [iv (F u), w, iv g.length])
      (by
        rintro i ws g2 hi ⟨rfl, rfl⟩
        have hadd : add .i64 (i : Int) 1 = ((i + 1 : Nat) : Int) := by rw [add64 (by omega) (by omega)]; omega
        have hb1 : AM.and .i64 (shr .i64 (S : Int) (i : Int)) 1 = if S.testBit i then 1 else 0 := bit_nat (by omega) (by omega)
        have hb2 : AM.and .i64 (shr .i64 ((nb g u : Nat) : Int) (i : Int)) 1 = if (nb g u).testBit i then 1 else 0 := bit_nat (by omega) (by omega)
        have hc := cntB_le S i
        have hadd2 : add .i64 ((cntB S i : Nat) : Int) 1 = ((cntB S i + 1 : Nat) : Int) := by rw [add64 (by omega) (by omega)]; omega
        have hsh : AM.shl .i64 (if (nb g u).testBit i then 1 else 0) ((cntB S i : Nat) : Int) = ((if (nb g u).testBit i = true then 2 ^ cntB S i else 0 : Nat) : Int) := by
          have hp : 2 ^ cntB S i < 2 ^ 63 := Nat.pow_lt_pow_right (by omega) (by omega)
          by_cases hq : (nb g u).testBit i = true
          · rw [if_pos hq, if_pos hq, shl1_nat (by omega)]
          · rw [if_neg hq, if_neg hq]
            have := shl_nat (a := 0) (p := cntB S i) (by omega) (by omega)
            simpa using this
        refine ⟨.normal, _, g2, ?_, .inl ⟨rfl, rfl, rfl⟩⟩
        unfold f13_l2
        rw [show gv [iv (mkS (fun k => adj g u (eAt S k)) (cntB S i) : Nat), iv (cntB S i : Nat), iv i] 2 = iv i from rfl, asI_int, lt_t (by omega), ifB_true, asK_int, nn_ge (by omega), hb1]
        by_cases hb : S.testBit i = true
        · have hx : mkS (fun k => adj g u (eAt S k)) (cntB S i) < 1024 := Nat.lt_of_lt_of_le (mkS_lt _ _) (show 2 ^ cntB S i ≤ 2 ^ 10 from Nat.pow_le_pow_right (by omega) (by omega))
          have hy : (if (nb g u).testBit i = true then 2 ^ cntB S i else 0 : Nat) < 1024 := by
            have : 2 ^ cntB S i < 2 ^ 10 := Nat.pow_lt_pow_right (by omega) (by omega)
            split <;> omega
          have hor : AM.or .i64 ((mkS (fun k => adj g u (eAt S k)) (cntB S i) : Nat) : Int) ((if (nb g u).testBit i = true then 2 ^ cntB S i else 0 : Nat) : Int) = ((mkS (fun k => adj g u (eAt S k)) (cntB S (i + 1)) : Nat) : Int) := by
            rw [or_nat (by omega) (by omega), cntB_succ, if_pos hb]
            simp only [mkS]
            have : adj g u (eAt S (cntB S i)) = (nb g u).testBit i := by rw [eAt_cnt hlen hS hi hb]; rfl
            simp only [this]
          rw [if_pos hb, show AM.eq 1 1 = true from rfl, ifB_true, asK_int, nn_ge (by omega), show gv [iv (mkS (fun k => adj g u (eAt S k)) (cntB S i) : Nat), iv (cntB S i : Nat), iv i] 1 = iv (cntB S i : Nat) from rfl, asK_int, nn_ge (by omega), show gv [iv (mkS (fun k => adj g u (eAt S k)) (cntB S i) : Nat), iv (cntB S i : Nat), iv i] 0 = iv (mkS (fun k => adj g u (eAt S k)) (cntB S i) : Nat) from rfl, asI_int, asI_int, hb2, hsh, hor, asI_int, hadd, hadd2, cntB_succ, if_pos hb]
          rfl
        · rw [if_neg hb, show AM.eq 0 1 = false from rfl, ifB_false, asI_int, hadd, cntB_succ, if_neg hb]
          rfl)
      (by
        rintro ws g2 ⟨rfl, rfl⟩
        refine ⟨.exit 2, _, g2, ?_, by simp, rfl, rfl, iv (cntB S g.length : Nat), rfl⟩
        unfold f13_l2
        rw [show gv [iv (mkS (fun k => adj g u (eAt S k)) (cntB S g.length) : Nat), iv (cntB S g.length : Nat), iv (g.length : Nat)] 2 = iv g.length from rfl, asI_int, lt_f (by omega), ifB_false, cntB_all hlen hS]
        rfl) (ws := [iv 0, iv 0, iv 0]) (h := g') (by omega) ⟨rfl, rfl⟩
    exact ⟨w, hl⟩
  obtain ⟨e, ws', h', hl, rfl, xg, v', hap, w, rfl⟩ := lp_range (F := f13_l1 rn 2000 v S g.length) (k := 2000) (n := g.length)
    (fun i ws g' => Ext h g' ∧ ∃ v', ws = [v', iv i] ∧ AqR h.nx g' 3 1 v' (cellsN (((List.range i).filter fun u => S.testBit u).map F)))
    (fun e ws g' => e = .exit 0 ∧ Ext h g' ∧ ∃ v', AqR h.nx g' 3 1 v' (cellsN (withinP g S)) ∧ ∃ w, ws = [v', w])
    (by
      rintro i ws g' hi ⟨xg, v', rfl, hap⟩
      have hadd : add .i64 (i : Int) 1 = ((i + 1 : Nat) : Int) := by rw [add64 (by omega) (by omega)]; omega
      have hb1 : AM.and .i64 (shr .i64 (S : Int) (i : Int)) 1 = if S.testBit i then 1 else 0 := bit_nat (by omega) (by omega)
      have e1 := fun (K : Value → Option (Ex × List Value × H)) => getN (hs.ext xg) hi K
      by_cases hb : S.testBit i = true
      · obtain ⟨w, hw⟩ := inner i hi g'
        have hcl := cntB_le S i
        obtain ⟨v2, g2, e2, a2, n2, k2, b2, hb2, hb2'⟩ := hap.push app23 app23 (bls23 (F i : Int)) rfl rfl (by simp only [List.length_map]; unfold cntB at hcl; omega) xg.nx
        have ee : ∀ (K : Value → H → Option (Ex × List Value × H)), (bls Tryd.prog g' 23 1 [(0, iv (F i : Nat))] fun y h2 => app Tryd.prog h2 23 23 v' y K) = K v2 g2 := fun K => e2 K
        refine ⟨.normal, [v2, iv ((i + 1 : Nat) : Int)], g2, ?_, .inl ⟨rfl, ⟨by have := xg.nx; omega, fun b hb => ?_⟩, v2, rfl, ?_⟩⟩
        · unfold f13_l1
          simp only [d3]
          rw [show gv [v', iv (i : Int)] 1 = iv i from rfl, asI_int, lt_t (by omega), ifB_true, asK_int, e1, asI_int, asK_int, nn_ge (by omega), hb1, if_pos hb, show AM.eq 1 0 = false from rfl, ifB_false, hn, lp_eq hw, onE_exit, if_pos rfl]
          rw [show gv [iv ((F i : Nat) : Int), w, iv (g.length : Int)] 0 = iv (F i : Nat) from rfl, show gv [v', iv (i : Int)] 0 = v' from rfl, ee, asI_int, hadd]
          rfl
        · rw [k2 b (by have := xg.nx; omega) (fun e => by have := (hap.blkOf e).1; omega)]
          exact xg.blk b hb
        · have : cellsN (((List.range (i + 1)).filter fun u => S.testBit u).map F) = cellsN (((List.range i).filter fun u => S.testBit u).map F) ++ [[iv (F i : Int)]] := by
            rw [List.range_succ, List.filter_append]
            simp [hb]
          rw [this]; exact a2
      · refine ⟨.normal, [v', iv ((i + 1 : Nat) : Int)], g', ?_, .inl ⟨rfl, xg, v', rfl, ?_⟩⟩
        · unfold f13_l1
          simp only [d3]
          rw [show gv [v', iv (i : Int)] 1 = iv i from rfl, asI_int, lt_t (by omega), ifB_true, asK_int, e1, asI_int, asK_int, nn_ge (by omega), hb1, if_neg hb, show AM.eq 0 0 = true from rfl, ifB_true, asI_int, hadd]
          rfl
        · have : ((List.range (i + 1)).filter fun u => S.testBit u) = (List.range i).filter fun u => S.testBit u := by
            rw [List.range_succ, List.filter_append]
            simp [hb]
          rw [this]; exact hap)
    (by
      rintro ws g' ⟨xg, v', rfl, hap⟩
      refine ⟨.exit 0, _, g', ?_, by simp, rfl, xg, v', ?_, iv g.length, rfl⟩
      · unfold f13_l1
        rw [show gv [v', iv (g.length : Int)] 1 = iv g.length from rfl, asI_int, lt_f (by omega), ifB_false]
        rfl
      · rw [← elts_n hlen hS] at hap
        exact hap)
    (ws := [.slice none 0 0, iv 0]) (h := h) (by omega) ⟨.refl _, .slice none 0 0, rfl, .nil⟩
  obtain ⟨h2, e2, m2, w2⟩ := x13 (k := 2000) (v0 := v) (n0 := S) (h := h) (h1 := h') (v := v') (by
    unfold f13
    rw [hn, lp_eq hl, onE_exit, if_pos rfl]
    rfl) (by obtain ⟨x, y, z, hz⟩ := hap.isSl; rw [hz]; rfl)
  exact ⟨v', h2, e2, w2 xg, hap.slR.ext m2.ext⟩

theorem pop_pos {b : Nat} (hb : b < 1024) (h0 : b ≠ 0) : 0 < pop b := Nat.pos_of_ne_zero fun e => h0 (pop_zero' hb e)

/-- The law. -/
theorem s3 (s9 : ∀ h, rn 9 #[] h = some (.bool true, h)) {h : H} {v : Value} {l : List Int} (hs : SlR h 3 1 v (cellsI l)) : ∃ h', rn 3 #[v] h = some (.bool true, h') := by
  have c9 := fun (g : H) (K : Value → H → Option (Value × H)) => calls_eq (K := K) (xs := []) (s9 g)
  have c8 := fun (K : Value → H → Option (Value × H)) => calls_eq (K := K) (xs := [v]) (s8 hs)
  have hn : ∀ {T : Type} (K : Int → Option T), len v K = K (l.length : Int) := fun K => by rw [hs.len]; simp
  by_cases hval : validG l = true
  · obtain ⟨g, rfl, hg⟩ := valid_nat hval
    have hlen := hg.len
    have hpow := hg.pow
    by_cases h9 : g.length ≤ 9
    · rw [cellsN_eq] at hs
      obtain ⟨v4, h4, e4, x4, hs4⟩ := s11g hg.toGrB hs
      obtain ⟨v6, h5, e5, x5, hs6⟩ := s10 hg hval hs4
      have hs5 := hs.ext (x4.tr x5).toExt
      obtain ⟨v8, h6, e6, x6, hs8⟩ := s11g hg.toGrB hs5
      have e7 := s12 hg.toGrB hval h9 hs8
      have hs7 := hs5.ext x6.toExt
      have hb7 := hs6.ext x6.toExt
      have hbl := blocks_len hg.toGrB
      have hnb : ∀ {T : Type} (K : Int → Option T), len v6 K = K ((blocksP g).length : Int) := fun K => by rw [hs6.len]; simp
      -- the greatest width of a block
      obtain ⟨ws', h', hl, xh, w, rfl⟩ := lp_for (F := f3_l1 rn 20000 v v6 (blocksP g).length) (k := 20000) (l := blocksP g) (fun _ b m => max m (wN (withinP g b) (allN (withinP g b))))
        (fun i m ws g' => Ext h6 g' ∧ ∃ w, ws = [w, iv m, iv i]) 0 (ws := [.bool false, iv 0, iv 0]) (h := h6) (s0 := 0) ⟨.refl _, _, rfl⟩ (by omega)
        (by
          rintro m ws g' ⟨_, w, rfl⟩
          simp [f3_l1])
        (by
          rintro i b m ws g' hx ⟨xg, w, rfl⟩
          have hi := (List.getElem?_eq_some_iff.1 hx).1
          have hbm := List.mem_of_getElem? hx
          have hb := blocks_lt hbm
          have hb0 := (mem_cands.1 (List.mem_filter.1 hbm).1).1
          have hgw := within_gr hg hb (by omega)
          have hpl := pop_le_n hlen hb
          obtain ⟨v13, g2, e13, x13, hs13⟩ := s13 hg.toGrB hb (hs7.ext xg)
          have e12 := s12 hgw.toGrB (valid_of2 hgw) (by rw [within_len]; omega) hs13
          have e1 : ∀ (K : Value → Option (Ex × List Value × H)), (six v6 (i : Int) 1 fun b o => (g'.cell b o).bind K) = K (iv b) := fun K => (hb7.ext xg).c0 (by omega) (x := [iv b]) (by simp [hx]) rfl K
          have hadd : add .i64 (i : Int) 1 = ((i + 1 : Nat) : Int) := by rw [add64 (by omega) (by omega)]; omega
          refine ⟨_, g2, ?_, xg.trans x13.toExt, w, rfl⟩
          unfold f3_l1
          simp only [d3]
          rw [show gv [w, iv (m : Int), iv (i : Int)] 2 = iv i from rfl, asI_int, lt_t (by omega), ifB_true, asK_int, e1, asI_int, lt_f (by omega), ifB_false, hn, List.length_map, nn_ge (by omega), shl1_nat (by omega), show AM.le ((2 ^ g.length : Nat) : Int) (b : Int) = false from decide_eq_false (by omega), ifB_false, calls_eq (xs := [v, iv b]) e13, calls_eq (xs := [v13]) e12, ext20, asI_int, ext21, asI_int, show AM.eq 0 0 = true from rfl, show (!true) = false from rfl, ifB_false, show gv [w, iv (m : Int), iv (i : Int)] 1 = iv m from rfl, asI_int, asI_int, hadd, imax_nat2]
          rfl)
      have hmax : wN g (allN g) = foldI (fun _ b m => max m (wN (withinP g b) (allN (withinP g b)))) (blocksP g) 0 0 := by
        rw [foldI_foldl (fun b m => max m (wN (withinP g b) (allN (withinP g b))))]
        have key : ∀ (L : List Nat) (m k : Nat), L.foldl (fun m b => max m (wN (withinP g b) (allN (withinP g b)))) m ≤ k ↔ m ≤ k ∧ ∀ b ∈ L, wN (withinP g b) (allN (withinP g b)) ≤ k := by
          intro L
          induction L with
          | nil => intro m k; simp
          | cons b L ih =>
            intro m k
            rw [List.foldl_cons, ih]
            constructor
            · rintro ⟨h1, h2⟩
              refine ⟨by omega, fun x hx => ?_⟩
              rcases List.mem_cons.1 hx with rfl | hx
              · omega
              · exact h2 x hx
            · rintro ⟨h1, h2⟩
              exact ⟨Nat.max_le.2 ⟨h1, h2 b List.mem_cons_self⟩, fun x hx => h2 x (List.mem_cons_of_mem _ hx)⟩
        refine Nat.le_antisymm ?_ ?_
        · exact (width_blocks hg _).2 ((key _ _ _).1 (Nat.le_refl _)).2
        · exact (key _ _ _).2 ⟨Nat.zero_le _, (width_blocks hg _).1 (Nat.le_refl _)⟩
      refine ⟨_, t3 (k := 20000) (v0 := v) (h1 := h') (v := .bool true) ?_⟩
      unfold f3
      rw [c8, hval, asB_bool, show (!true) = false from rfl, ifB_false, hn, List.length_map, lt_f (by omega), ifB_false, calls_eq (xs := [v]) e4, calls_eq (xs := [v4]) e5, ext20, ext21, asI_int, calls_eq (xs := [v]) e6, calls_eq (xs := [v8]) e7, ext20, asI_int, ext21, asI_int]
      simp only [show AM.eq 0 0 = true from rfl, Bool.not_true, ifB_false]
      rw [hnb, lp_eq hl, onE_exit, if_pos rfl, show gv [w, iv ((foldI (fun _ b m => max m (wN (withinP g b) (allN (withinP g b)))) (blocksP g) 0 0 : Nat) : Int), iv ((blocksP g).length : Int)] 1 = iv (foldI (fun _ b m => max m (wN (withinP g b) (allN (withinP g b)))) (blocksP g) 0 0 : Nat) from rfl, asI_int, ← hmax, show AM.eq ((wN g (allN g) : Nat) : Int) ((wN g (allN g) : Nat) : Int) = true by simp, ifB_true, c9, asB_bool]
    · refine ⟨_, t3 (k := 0) (v0 := v) (h1 := h) (v := .bool true) ?_⟩
      unfold f3
      rw [c8, hval, asB_bool, show (!true) = false from rfl, ifB_false, hn, List.length_map, lt_t (by omega), ifB_true, c9, asB_bool]
  · refine ⟨_, t3 (k := 0) (v0 := v) (h1 := h) (v := .bool true) ?_⟩
    unfold f3
    rw [c8, asB_bool, show validG l = false by simpa using hval, show (!false) = true from rfl, ifB_true, c9, asB_bool]

end Go.AM

end

section

/- PLAIN: outer orders: no two edges cross. Where each edge is in at most one cycle there is one; where there is one, the width is at most 2. -/
namespace Go.AM
open Go.Proofs
/-- No two edges cross. -/
def NX (a : Ad) (l : List Nat) : Prop := ∀ p q r s, [p, q, r, s].Sublist l → a p r = true → a q s = true → False

theorem NX.sub {a : Ad} {l m : List Nat} (h : NX a l) (s : m.Sublist l) : NX a m := fun p q r s' hs => h p q r s' (hs.trans s)

theorem sub_tail {α : Type} {x y : α} {l m : List α} (h : (x :: l).Sublist (y :: m)) : l.Sublist m := by
  cases h with
  | cons _ h => exact (List.sublist_cons_self x l).trans h
  | cons_cons _ h => exact h

/-- The first one may be the last one. -/
theorem NX.rot1 {a : Ad} (ha : Sym a) {x : Nat} {l : List Nat} (h : NX a (x :: l)) : NX a (l ++ [x]) := by
  intro p q r s hs h1 h2
  obtain ⟨u, v, e, hu, hv⟩ := List.sublist_append_iff.1 hs
  match v, hv with
  | [], _ =>
    rw [List.append_nil] at e
    subst e
    exact h p q r s (hu.trans (List.sublist_cons_self x l)) h1 h2
  | [y], hv =>
    have hy : y = x := by simpa using hv.subset List.mem_cons_self
    subst hy
    have e1 : u = [p, q, r] ∧ s = y := by
      match u, e with
      | [], e => simp at e
      | [_], e => simp at e
      | [_, _], e => simp at e
      | [a1, a2, a3], e => simp at e; simp [e]
      | _ :: _ :: _ :: _ :: _, e => simp at e
    obtain ⟨rfl, rfl⟩ := e1
    rw [ha.sym] at h2
    exact h s p q r (hu.cons_cons s) h2 h1
  | y :: z :: t, hv =>
    have := hv.length_le
    simp at this

theorem NX.rot {a : Ad} (ha : Sym a) : ∀ (l m : List Nat), NX a (l ++ m) → NX a (m ++ l)
  | [], m, h => by simpa using h
  | x :: l, m, h => by
    have h1 : NX a ((l ++ m) ++ [x]) := NX.rot1 ha (l := l ++ m) h
    rw [List.append_assoc] at h1
    have := NX.rot ha l (m ++ [x]) h1
    simpa using this

/-- Two orders that have their first node in common are put together. -/
theorem NX.glue {a : Ad} (ha : Sym a) {w : Nat} {α β : List Nat} (hβ : w ∉ β) (h1 : NX a (w :: α)) (h2 : NX a (w :: β)) (hne : ∀ x ∈ β, ∀ y ∈ α, a x y = false) : NX a (w :: (β ++ α)) := by
  intro p q r s hs e1 e2
  rw [show w :: (β ++ α) = (w :: β) ++ α from rfl] at hs
  obtain ⟨u, v, e, hu, hv⟩ := List.sublist_append_iff.1 hs
  have inβ : ∀ {x y : Nat} {t : List Nat}, (x :: y :: t).Sublist (w :: β) → y ∈ β := fun h => (sub_tail h).subset List.mem_cons_self
  match u, hu, e with
  | [], _, e =>
    rw [List.nil_append] at e
    subst e
    exact h1 p q r s (hv.trans (List.sublist_cons_self w α)) e1 e2
  | [x1], hu, e =>
    simp only [List.cons_append, List.nil_append, List.cons.injEq] at e
    obtain ⟨rfl, rfl⟩ := e
    have hp : p = w ∨ p ∈ β := List.mem_cons.1 (hu.subset List.mem_cons_self)
    rcases hp with rfl | hp
    · exact h1 p q r s (hv.cons_cons p) e1 e2
    · rw [hne p hp r (hv.subset (by simp))] at e1; cases e1
  | [x1, x2], hu, e =>
    simp only [List.cons_append, List.nil_append, List.cons.injEq] at e
    obtain ⟨rfl, rfl, rfl⟩ := e
    rw [hne q (inβ hu) s (hv.subset (by simp))] at e2; cases e2
  | [x1, x2, x3], hu, e =>
    simp only [List.cons_append, List.nil_append, List.cons.injEq] at e
    obtain ⟨rfl, rfl, rfl, rfl⟩ := e
    rw [hne q (inβ hu) s (hv.subset (by simp))] at e2; cases e2
  | [x1, x2, x3, x4], hu, e =>
    simp only [List.cons_append, List.nil_append, List.cons.injEq] at e
    obtain ⟨rfl, rfl, rfl, rfl, _⟩ := e
    exact h2 p q r s hu e1 e2
  | _ :: _ :: _ :: _ :: _ :: _, _, e => simp at e

/-! ### A cycle -/
/-- Positions of four nodes, one behind the other. -/
theorem four_at : ∀ {l : List Nat} {p q r s : Nat}, [p, q, r, s].Sublist l → ∃ i j k m : Nat, i < j ∧ j < k ∧ k < m ∧ l[i]? = some p ∧ l[j]? = some q ∧ l[k]? = some r ∧ l[m]? = some s := by
  have one : ∀ {l : List Nat} {p : Nat} {t : List Nat}, (p :: t).Sublist l → ∃ i, l[i]? = some p ∧ t.Sublist (l.drop (i + 1)) := by
    intro l
    induction l with
    | nil => intro p t h; cases h
    | cons x l ih =>
      intro p t h
      cases h with
      | cons _ h =>
        obtain ⟨i, h1, h2⟩ := ih h
        exact ⟨i + 1, by simpa using h1, by simpa using h2⟩
      | cons_cons _ h => exact ⟨0, by simp, by simpa using h⟩
  intro l p q r s h
  obtain ⟨i, hi, h⟩ := one h
  obtain ⟨j, hj, h⟩ := one h
  obtain ⟨k, hk, h⟩ := one h
  obtain ⟨m, hm, _⟩ := one h
  rw [List.getElem?_drop] at hj
  rw [List.drop_drop, List.getElem?_drop] at hk
  rw [List.drop_drop, List.drop_drop, List.getElem?_drop] at hm
  exact ⟨i, _, _, _, by omega, by omega, by omega, hi, hj, hk, hm⟩

theorem at_four : ∀ {l : List Nat} {i j k m p q r s : Nat}, i < j → j < k → k < m → l[i]? = some p → l[j]? = some q → l[k]? = some r → l[m]? = some s → [p, q, r, s].Sublist l := by
  have one : ∀ {l : List Nat} {i p : Nat} {t : List Nat}, l[i]? = some p → t.Sublist (l.drop (i + 1)) → (p :: t).Sublist l := by
    intro l
    induction l with
    | nil => intro i p t h; simp at h
    | cons x l ih =>
      intro i p t h ht
      cases i with
      | zero =>
        simp at h ht
        subst h
        exact ht.cons_cons x
      | succ i =>
        simp at h ht
        exact (ih h ht).cons x
  intro l i j k m p q r s h1 h2 h3 hi hj hk hm
  refine one hi (one (i := j - (i + 1)) ?_ (one (i := k - (j + 1)) ?_ (one (i := m - (k + 1)) ?_ (List.nil_sublist _))))
  · rw [List.getElem?_drop]; rw [show i + 1 + (j - (i + 1)) = j by omega]; exact hj
  · rw [List.drop_drop, List.getElem?_drop, show i + 1 + (j - (i + 1) + 1) + (k - (j + 1)) = k by omega]; exact hk
  · rw [List.drop_drop, List.drop_drop, List.getElem?_drop, show i + 1 + (j - (i + 1) + 1 + (k - (j + 1) + 1)) + (m - (k + 1)) = m by omega]; exact hm

/-! ### Nodes with at most two neighbours -/
theorem chord_min {a : Ad} {l : List Nat} (h : ∃ i k x y, i + 2 ≤ k ∧ l[i]? = some x ∧ l[k]? = some y ∧ a x y = true) :
    ∃ i k x y, i + 2 ≤ k ∧ l[i]? = some x ∧ l[k]? = some y ∧ a x y = true ∧ ∀ i' k' x' y', i' + 2 ≤ k' → l[i']? = some x' → l[k']? = some y' → a x' y' = true → k - i ≤ k' - i' := by
  have key : ∀ (d : Nat), (∃ i k x y, i + 2 ≤ k ∧ k - i ≤ d ∧ l[i]? = some x ∧ l[k]? = some y ∧ a x y = true) → ∃ i k x y, i + 2 ≤ k ∧ l[i]? = some x ∧ l[k]? = some y ∧ a x y = true ∧ ∀ i' k' x' y', i' + 2 ≤ k' → l[i']? = some x' → l[k']? = some y' → a x' y' = true → k - i ≤ k' - i' := by
    intro d
    induction d with
    | zero => rintro ⟨i, k, x, y, h1, h2, _⟩; omega
    | succ d ih =>
      rintro ⟨i, k, x, y, h1, h2, h3, h4, h5⟩
      by_cases hs : ∃ i k x y, i + 2 ≤ k ∧ k - i ≤ d ∧ l[i]? = some x ∧ l[k]? = some y ∧ a x y = true
      · exact ih hs
      · refine ⟨i, k, x, y, h1, h3, h4, h5, fun i' k' x' y' q1 q2 q3 q4 => ?_⟩
        refine Classical.byContradiction fun hc => hs ⟨i', k', x', y', q1, by omega, q2, q3, q4⟩
  obtain ⟨i, k, x, y, h1, h2, h3, h4⟩ := h
  exact key (k - i) ⟨i, k, x, y, h1, Nat.le_refl _, h2, h3, h4⟩

theorem count_two {l : List Nat} (hn : l.Nodup) {p : Nat → Bool} {x y : Nat} (h : ∀ z ∈ l, p z = true → z = x ∨ z = y) : l.countP p ≤ 2 := by
  rw [List.countP_eq_length_filter]
  refine len_sub (m := [x, y]) (hn.filter _) fun z hz => ?_
  have := List.mem_filter.1 hz
  rcases h z this.1 this.2 with rfl | rfl <;> simp

/-- In an outer order there is a node with at most two neighbours. -/
theorem NX.small {a : Ad} (ha : Sym a) {l : List Nat} (hn : l.Nodup) (h : NX a l) (h0 : l ≠ []) : ∃ v ∈ l, l.countP (a v) ≤ 2 := by
  by_cases hc : ∃ i k x y, i + 2 ≤ k ∧ l[i]? = some x ∧ l[k]? = some y ∧ a x y = true
  · obtain ⟨i, k, x, y, h1, h2, h3, h4, hmin⟩ := chord_min hc
    have hkl := (List.getElem?_eq_some_iff.1 h3).1
    have hv : l[i + 1]? = some l[i + 1] := List.getElem?_eq_getElem (by omega)
    have hu : l[i + 2]? = some l[i + 2] := List.getElem?_eq_getElem (by omega)
    refine ⟨l[i + 1], List.mem_of_getElem? hv, count_two hn (x := x) (y := l[i + 2]) fun z hz hvz => ?_⟩
    obtain ⟨j, hj⟩ := List.mem_iff_getElem?.1 hz
    have hji : j ≠ i + 1 := by
      rintro rfl
      rw [hv] at hj
      have := Option.some.inj hj
      rw [← this, ha.irr] at hvz; cases hvz
    rcases Nat.lt_trichotomy j i with hlt | rfl | hgt
    · exfalso
      refine h z x l[i + 1] y (at_four hlt (Nat.lt_succ_self i) (by omega) hj h2 hv h3) (by rw [ha.sym]; exact hvz) h4
    · rw [h2] at hj; exact .inl (Option.some.inj hj).symm
    · by_cases hjk : k < j
      · exfalso
        exact h x l[i + 1] y z (at_four (Nat.lt_succ_self i) (by omega) hjk h2 hv h3 hj) h4 hvz
      · by_cases hj2 : j = i + 2
        · subst hj2
          rw [hu] at hj; exact .inr (Option.some.inj hj).symm
        · have := hmin (i + 1) j _ z (by omega) hv hj hvz
          omega
  · obtain ⟨x, l', rfl⟩ : ∃ x l', l = x :: l' := by
      cases l with
      | nil => exact absurd rfl h0
      | cons x l' => exact ⟨x, l', rfl⟩
    refine ⟨x, List.mem_cons_self, count_two hn (x := (x :: l').getD 1 0) (y := (x :: l').getD 1 0) fun z hz hxz => ?_⟩
    obtain ⟨j, hj⟩ := List.mem_iff_getElem?.1 hz
    by_cases h0' : j = 0
    · subst h0'
      simp at hj
      subst hj
      rw [ha.irr] at hxz; cases hxz
    · by_cases h1 : j = 1
      · subst h1
        left
        rw [List.getD_eq_getElem?_getD, hj]; rfl
      · exact absurd ⟨0, j, x, z, by omega, rfl, hj, hxz⟩ hc

/-- A node with at most two neighbours is taken away. -/
theorem NX.elim {a : Ad} (ha : Sym a) {l1 l2 : List Nat} {v : Nat} (hn : (l1 ++ v :: l2).Nodup) (h : NX a (l1 ++ v :: l2)) (hd : (l1 ++ v :: l2).countP (a v) ≤ 2) : NX (elim a v) (l1 ++ l2) := by
  intro p q r s hs h1 h2
  have hsl : (l1 ++ l2).Sublist (l1 ++ v :: l2) := List.Sublist.append_left (List.sublist_cons_self v l2) l1
  have hn4 : [p, q, r, s].Nodup := hn.sublist (hs.trans hsl)
  simp only [List.nodup_cons, List.mem_cons, List.not_mem_nil, or_false, not_or, List.nodup_nil, not_false_eq_true, and_true] at hn4
  obtain ⟨⟨npq, npr, nps⟩, ⟨nqr, nqs⟩, nrs⟩ := hn4
  unfold Go.AM.elim at h1 h2
  simp only [Bool.or_eq_true, Bool.and_eq_true, decide_eq_true_eq] at h1 h2
  have ins : ∀ m : List Nat, ∀ u t : List Nat, u ++ t = [p, q, r, s] → u.Sublist l1 → t.Sublist l2 → m.Sublist (u ++ v :: t) → m.Sublist (l1 ++ v :: l2) :=
    fun m u t _ hu ht hm => hm.trans (hu.append (ht.cons_cons v))
  obtain ⟨u, t, e, hu, ht⟩ := List.sublist_append_iff.1 hs
  have s4 : ∀ {p q r s : Nat}, [p, q, r, s].Sublist (u ++ v :: t) → a p r = true → a q s = true → False := fun {p q r s} hm => h p q r s (ins _ u t e.symm hu ht hm)
  rcases h1 with h1 | ⟨_, vp, vr⟩
  · rcases h2 with h2 | ⟨_, vq, vs⟩
    · exact h p q r s (hs.trans hsl) h1 h2
    · have qv : a q v = true := by rw [ha.sym]; exact vq
      match u, t, e with
      | [], _, rfl => exact s4 (p := v) (q := p) (r := q) (s := r) (by simp) vq h1
      | [_], [_, _, _], rfl => exact s4 (p := p) (q := v) (r := r) (s := s) (by simp) h1 vs
      | [_, _], [_, _], rfl => exact s4 (p := p) (q := v) (r := r) (s := s) (by simp) h1 vs
      | [_, _, _], [_], rfl => exact s4 (p := p) (q := q) (r := r) (s := v) (by simp) h1 qv
      | [_, _, _, _], [], rfl => exact s4 (p := p) (q := q) (r := r) (s := v) (by simp) h1 qv
      | _ :: _ :: _ :: _ :: _ :: _, _, e => simp at e
  · have rv : a r v = true := by rw [ha.sym]; exact vr
    have pv : a p v = true := by rw [ha.sym]; exact vp
    rcases h2 with h2 | ⟨_, vq, vs⟩
    · match u, t, e with
      | [], _, rfl => exact s4 (p := v) (q := q) (r := r) (s := s) (by simp) vr h2
      | [_], [_, _, _], rfl => exact s4 (p := v) (q := q) (r := r) (s := s) (by simp) vr h2
      | [_, _], [_, _], rfl => exact s4 (p := p) (q := q) (r := v) (s := s) (by simp) pv h2
      | [_, _, _], [_], rfl => exact s4 (p := p) (q := q) (r := v) (s := s) (by simp) pv h2
      | [_, _, _, _], [], rfl => exact s4 (p := q) (q := r) (r := s) (s := v) (by simp) h2 rv
      | _ :: _ :: _ :: _ :: _ :: _, _, e => simp at e
    · rw [List.countP_eq_length_filter] at hd
      have := len_sub (l := [p, q, r, s]) (m := (l1 ++ v :: l2).filter (a v)) (by simp; exact ⟨⟨npq, npr, nps⟩, ⟨nqr, nqs⟩, nrs⟩) fun x hx => by
        rw [List.mem_filter]
        refine ⟨(hs.trans hsl).subset hx, ?_⟩
        simp only [List.mem_cons, List.not_mem_nil, or_false] at hx
        rcases hx with rfl | rfl | rfl | rfl
        · exact vp
        · exact vq
        · exact vr
        · exact vs
      simp only [List.length_cons, List.length_nil] at this
      omega

end Go.AM

end

section

/- Outer orders, as the program finds them. -/
namespace Go.AM
open Go.Proofs
variable {k : Nat} {R : Type}
attribute [local simp] nx_eq nx_new nx_set blk_new blk_set asI_int asK_int asB_bool asP_ptr al_eq bx_eq len_slice onE_exit onE_ret onR_ret Value.cells d3 d22 d23 cell_new cell_set rd_new rd_set off eq lt le ifB gv out
/-- A graph of at most eight nodes. -/
def valid8 (l : List Int) : Bool := validG l && decide (l.length ≤ 8)

theorem valid8_iff {l : List Int} (h : 1 ≤ l.length ∧ l.length ≤ 8) : valid8 l = true ↔ ∀ i x, l[i]? = some x → rowOk l i x = true := by
  unfold valid8
  rw [decide_eq_true h.2, Bool.and_true]
  exact validG_iff ⟨h.1, by omega⟩

theorem s46 {v : Value} {l : List Int} {h : H} (hs : SlR h 3 1 v (cellsI l)) : rn 46 #[v, iv 8] h = some (if valid8 l = true then .tuple #[v, .bool true] else .tuple #[.slice none 0 0, .bool false], h) := by
  have hn : ∀ {T : Type} (K : Int → Option T), len v K = K (l.length : Int) := fun K => by rw [hs.len]; simp
  by_cases hl : 1 ≤ l.length ∧ l.length ≤ 8
  · have hni : ∀ i : Nat, nn (i : Int) = fun (z : Option (Ex × List Value × H)) => z := fun i => by funext z; exact nn_ge (by omega) z
    have hb : ∀ a b : Int, AM.and .i64 (shr .i64 a b) 1 = bitI a b := fun _ _ => rfl
    have inner := fun (i : Nat) (x : Int) (_ : l[i]? = some x) => lp_all (F := f46_l2 rn 200010 v l.length [.slice none 0 0, .bool false, iv i] x) (k := 200010) (l := l) (h := h) (fun j => [.slice none 0 0, .bool false, iv j])
      (fun j y => decide (bitI x j = bitI y i)) (fun j => [.slice none 0 0, .bool false, iv j]) 2 [.slice none 0 0, .bool false, iv l.length] (ws := [.slice none 0 0, .bool false, iv 0]) rfl (by omega)
      (by simp [f46_l2])
      (by
        intro j y hy
        have hj := (List.getElem?_eq_some_iff.1 hy).1
        have hadd : add .i64 (j : Int) 1 = (j : Int) + 1 := add64 (by omega) (by omega)
        have e1 := fun (K : Value → Option (Ex × List Value × H)) => getL hs hy K
        by_cases hq : bitI x j = bitI y i
        · simp [f46_l2, hj, hni, e1, hb, hq, hadd]
        · simp [f46_l2, hj, hni, e1, hb, hq])
    have hlp := lp_all (F := f46_l1 rn 200010 v l.length l.length) (k := 200010) (l := l) (h := h) (fun i => [.slice none 0 0, .bool false, iv i])
      (fun i x => rowOk l i x) (fun i => [.slice none 0 0, .bool false, iv i]) 0 [.slice none 0 0, .bool false, iv l.length] (ws := [.slice none 0 0, .bool false, iv 0]) rfl (by omega)
      (by simp [f46_l1])
      (by
        intro i x hx
        have hi := (List.getElem?_eq_some_iff.1 hx).1
        have hadd : add .i64 (i : Int) 1 = (i : Int) + 1 := add64 (by omega) (by omega)
        have e1 := fun (K : Value → Option (Ex × List Value × H)) => getL hs hx K
        have hall : rowOk l i x = (!decide (x < 0) && !decide (AM.shl .i64 1 (l.length : Int) ≤ x) && !decide (bitI x i = 1) && (List.range l.length).all fun j => decide (bitI x j = bitI (l.getD j 0) i)) := rfl
        by_cases h1 : x < 0
        · have : rowOk l i x = false := by rw [hall, decide_eq_true h1]; rfl
          simp [f46_l1, hi, e1, h1, this]
        · by_cases h2 : AM.shl .i64 1 (l.length : Int) ≤ x
          · have : rowOk l i x = false := by rw [hall, decide_eq_true h2]; simp
            simp [f46_l1, hi, e1, h1, hni, h2, this]
          · by_cases h3 : bitI x i = 1
            · have : rowOk l i x = false := by rw [hall, decide_eq_true h3]; simp
              simp [f46_l1, hi, e1, h1, hni, h2, hb, h3, this]
            · rcases inner i x hx with ⟨j, y, hy, q2, _, q1⟩ | ⟨q2, q1⟩
              · have : rowOk l i x = false := by
                  have : ((List.range l.length).all fun j => decide (bitI x j = bitI (l.getD j 0) i)) = false := by
                    rw [List.all_eq_false]
                    refine ⟨j, List.mem_range.2 (List.getElem?_eq_some_iff.1 hy).1, ?_⟩
                    rw [show l.getD j 0 = y by simp [List.getD, hy], q2]; simp
                  rw [hall, this]; simp
                have hlq := fun (K : Ex → List Value → H → Option (Ex × List Value × H)) => lp_eq (K := K) q1
                simp [f46_l1, hi, e1, h1, hni, h2, hb, h3, this, hlq]
              · have : rowOk l i x = true := by
                  have : ((List.range l.length).all fun j => decide (bitI x j = bitI (l.getD j 0) i)) = true := by
                    rw [List.all_eq_true]
                    intro j hj
                    have hj := List.mem_range.1 hj
                    have := q2 j _ (List.getElem?_eq_getElem hj)
                    simpa [List.getD, List.getElem?_eq_getElem hj] using this
                  rw [hall, this, decide_eq_false h1, decide_eq_false h2, decide_eq_false h3]; rfl
                have hlq := fun (K : Ex → List Value → H → Option (Ex × List Value × H)) => lp_eq (K := K) q1
                simp [f46_l1, hi, e1, h1, hni, h2, hb, h3, this, hlq, hadd])
    have hle1 : ¬ (l.length : Int) < 1 := by omega
    have hle2 : ¬ (8 : Int) < (l.length : Int) := by omega
    rcases hlp with ⟨j, y, hy, q2, _, q1⟩ | ⟨q2, q1⟩
    · have hv : valid8 l = false := by
        rw [Bool.eq_false_iff]
        intro hc
        have := (valid8_iff hl).1 hc j y hy
        rw [this] at q2
        cases q2
      rw [hv]
      exact y46 (k := 200010) (by simp [f46, hn, hle1, hle2, lp_eq q1])
    · have hv : valid8 l = true := (valid8_iff hl).2 q2
      rw [hv, if_pos rfl]
      exact y46 (k := 200010) (by simp [f46, hn, hle1, hle2, lp_eq q1])
  · have hv : valid8 l = false := by
      unfold valid8 validG
      rw [Bool.eq_false_iff]
      intro hc
      simp only [Bool.and_eq_true, decide_eq_true_iff] at hc
      exact hl ⟨hc.1.1.1, hc.2⟩
    rw [hv]
    refine y46 (k := 0) ?_
    simp [f46, hn]
    omega

theorem s49 {S : Nat} (hS : S < 1024) (h : H) : ∃ v' h', rn 49 #[iv S] h = some (v', h') ∧ Exw h h' ∧ SlR h' 3 1 v' (cellsN (elts S)) ∧ ∀ q, AM.blkOf v' = some q → h.nx ≤ q := by
  obtain ⟨e, ws', h', hl, rfl, xg, v, w, hap, rfl⟩ := lpGo_inv (F := f49_l1 rn 2000)
    (fun d ws g => Ext h g ∧ ∃ (v : Value) (x : Nat) (L : List Nat), ws = [v, iv x] ∧ d = x ∧ x < 1024 ∧ L ++ elts x = elts S ∧ AqR h.nx g 3 1 v (cellsN L))
    (fun e ws g => e = .exit 0 ∧ Ext h g ∧ ∃ v w, AqR h.nx g 3 1 v (cellsN (elts S)) ∧ ws = [v, w])
    (by
      rintro d ws g ⟨xg, v, x, L, rfl, rfl, hx, hL, hap⟩
      by_cases hx0 : d = 0
      · subst hx0
        rw [elts_zero, List.append_nil] at hL
        subst hL
        exact ⟨.exit 0, [v, iv 0], _, by simp [f49_l1], .inr ⟨by simp, rfl, xg, v, iv 0, hap, rfl⟩⟩
      · have h0 : 0 < d := Nat.pos_of_ne_zero hx0
        obtain ⟨h1, h2⟩ := elts_next h0 hx
        have c89 := fun (K : Value → H → Option (Ex × List Value × H)) => calls_eq (K := K) (xs := [.int .u64 d]) (s79 h0 hx g)
        have hsub : sub .i64 (d : Int) 1 = ((d - 1 : Nat) : Int) := by rw [sub64 (by omega) (by omega)]; omega
        have hand : AM.and .i64 (d : Int) ((d - 1 : Nat) : Int) = ((d &&& (d - 1) : Nat) : Int) := and_nat (by omega) (by omega)
        have hLl : L.length ≤ 10 := by
          have h3 := congrArg List.length hL
          rw [List.length_append, elts_len S] at h3
          have := pop_le_n (Nat.le_refl 10) hS
          omega
        obtain ⟨v', g2, e2, a2, n2, k2, b2, hb2, hb2'⟩ := hap.push app22 app22 (bls22 (low d : Int)) rfl rfl (by simp; omega) xg.nx
        have ee : ∀ (K : Value → H → Option (Ex × List Value × H)), (bls Tryd.prog g 22 1 [(0, iv (low d : Nat))] fun y h2 => app Tryd.prog h2 22 22 v y K) = K v' g2 := fun K => e2 K
        refine ⟨.normal, [v', iv (d &&& (d - 1) : Nat)], g2, ?_, .inl ⟨rfl, d &&& (d - 1), h2, ⟨by have := xg.nx; omega, fun b hb => ?_⟩, v', d &&& (d - 1), L ++ [low d], rfl, rfl, by omega, ?_, ?_⟩⟩
        · unfold f49_l1
          rw [show AM.gv [v, iv d] 1 = iv d from rfl, show AM.gv [v, iv d] 0 = v from rfl, asI_int, show AM.eq (d : Int) 0 = false by simp; omega, show (!false) = true from rfl, ifB_true, asI_int, wr64u hx, c89, asI_int, ee, asI_int, asI_int, hsub, hand]
          rfl
        · rw [k2 b (by have := xg.nx; omega) (fun e => by have := (hap.blkOf e).1; omega)]
          exact xg.blk b hb
        · rw [← hL, h1]; simp
        · have : cellsN (L ++ [low d]) = cellsN L ++ [[iv (low d : Int)]] := by simp
          rw [this]; exact a2)
    S 2000 (by omega) ⟨.refl _, .slice none 0 0, S, [], rfl, rfl, hS, rfl, .nil⟩
  obtain ⟨h2, e2, m2, w2⟩ := x49 (k := 2000) (n0 := S) (h := h) (h1 := h') (v := v) (by
    unfold f49
    exact (lp_eq hl).trans rfl) (by obtain ⟨x, y, z, hz⟩ := hap.isSl; rw [hz]; rfl)
  exact ⟨v, h2, e2, w2 xg, hap.slR.ext m2.ext, fun q hq => (hap.blkOf hq).1⟩

theorem s57 {tv : Value} {g : List Nat} {h : H} (hg : GrB g) (hs : SlR h 3 1 tv (cellsN g)) : rn 57 #[tv] h = some (iv (allN g : Nat), h) := by
  have hlen := hg.len
  refine p57 (k := 0) (h1 := h) ?_ rfl (.refl _)
  unfold f57
  rw [hs.len, List.length_map, nn_ge (by omega), shl_all hlen]
  rfl

end Go.AM

end

section

/- The search for an outer order. -/
namespace Go.AM
open Go.Proofs
variable {k : Nat} {R : Type}
attribute [local simp] nx_eq nx_new nx_set blk_new blk_set asI_int asK_int asB_bool asP_ptr al_eq bx_eq len_slice onE_exit onE_ret onR_ret Value.cells d3 d22 d23 cell_new cell_set rd_new rd_set off eq lt le ifB gv out
/-- Does an edge to a node behind a row cross an edge within it? -/
def hitB (g L : List Nat) (j : Nat) : Bool := (List.range j).any fun i => (List.range (L.length - (j + 1))).any fun k => adj g (L.getD i 0) (L.getD (j + 1 + k) 0)

def crossB (g L : List Nat) (w : Nat) : Bool := (List.range L.length).any fun j => adj g (L.getD j 0) w && hitB g L j

theorem getD_of {L : List Nat} {j x : Nat} (h : L[j]? = some x) : L.getD j 0 = x := by rw [List.getD_eq_getElem?_getD, h]; rfl

theorem get_of {L : List Nat} {j : Nat} (h : j < L.length) : L[j]? = some (L.getD j 0) := by rw [List.getD_eq_getElem?_getD, List.getElem?_eq_getElem h]; rfl

theorem cross_iff {g L : List Nat} {w : Nat} : crossB g L w = true ↔ ∃ i j k, i < j ∧ j < k ∧ k < L.length ∧ adj g (L.getD i 0) (L.getD k 0) = true ∧ adj g (L.getD j 0) w = true := by
  unfold crossB hitB
  simp only [List.any_eq_true, List.mem_range, Bool.and_eq_true]
  constructor
  · rintro ⟨j, hj, h1, i, hi, k, hk, h2⟩
    exact ⟨i, j, j + 1 + k, hi, by omega, by omega, h2, h1⟩
  · rintro ⟨i, j, k, h1, h2, h3, h4, h5⟩
    exact ⟨j, by omega, h5, i, h1, k - (j + 1), by omega, by rw [show j + 1 + (k - (j + 1)) = k by omega]; exact h4⟩

theorem nx_snoc {g L : List Nat} {w : Nat} : NX (adj g) (L ++ [w]) ↔ NX (adj g) L ∧ crossB g L w = false := by
  constructor
  · intro h
    refine ⟨h.sub (List.sublist_append_left _ _), ?_⟩
    rw [Bool.eq_false_iff]
    intro hc
    obtain ⟨i, j, k, h1, h2, h3, h4, h5⟩ := cross_iff.1 hc
    have at_ : ∀ {i : Nat}, i < L.length → (L ++ [w])[i]? = some (L.getD i 0) := fun hi => by rw [List.getElem?_append_left hi]; exact get_of hi
    exact h _ _ _ _ (at_four h1 h2 h3 (at_ (by omega)) (at_ (by omega)) (at_ h3) (by simp)) h4 h5
  · rintro ⟨h, hc⟩ p q r s hs e1 e2
    obtain ⟨i, j, k, m, h1, h2, h3, w1, w2, w3, w4⟩ := four_at hs
    have hm := (List.getElem?_eq_some_iff.1 w4).1
    rw [List.length_append, List.length_singleton] at hm
    have lo_ : ∀ {i x : Nat}, i < L.length → (L ++ [w])[i]? = some x → L[i]? = some x := fun hi hx => by rwa [List.getElem?_append_left hi] at hx
    by_cases hml : m < L.length
    · exact h p q r s (at_four h1 h2 h3 (lo_ (by omega) w1) (lo_ (by omega) w2) (lo_ (by omega) w3) (lo_ hml w4)) e1 e2
    · have hmL : m = L.length := by omega
      subst hmL
      have : s = w := by simpa using w4.symm
      subst this
      rw [Bool.eq_false_iff] at hc
      refine hc (cross_iff.2 ⟨i, j, k, h1, h2, h3, ?_, ?_⟩)
      · rw [getD_of (lo_ (by omega) w1), getD_of (lo_ h3 w3)]; exact e1
      · rw [getD_of (lo_ (by omega) w2)]; exact e2

theorem s92 {tv lv : Value} {g L : List Nat} {w : Nat} {h : H} (hg : GrB g) (hs : SlR h 3 1 tv (cellsN g)) (hL : SlR h 3 1 lv (cellsN (L ++ [w]))) (hlt : ∀ x ∈ L ++ [w], x < g.length) (hl : L.length ≤ 20) :
    rn 92 #[tv, lv] h = some (.bool (crossB g L w), h) := by
  have hlen := hg.len
  have hpow := hg.pow
  have hn : ∀ {T : Type} (K : Int → Option T), len lv K = K ((L.length : Int) + 1) := fun K => by rw [hL.len]; simp
  have hsub : sub .i64 ((L.length : Int) + 1) 1 = (L.length : Int) := by rw [sub64 (by omega) (by omega)]; omega
  obtain ⟨v2, s2, e2⟩ := hL.take (i := (L.length : Int)) under22 sz3 (by omega) (by simp; omega)
  rw [Int.toNat_natCast, ← List.map_take, List.take_left' rfl] at s2
  have hn2 : ∀ {T : Type} (K : Int → Option T), len v2 K = K (L.length : Int) := fun K => by rw [s2.len]; simp
  have atL : ∀ {i x : Nat}, L[i]? = some x → ∀ (K : Value → Option (Ex × List Value × H)), (six lv (i : Int) 1 fun b o => (h.cell b o).bind K) = K (iv x) := fun {i x} hx K => by
    have := (List.getElem?_eq_some_iff.1 hx).1
    exact hL.c0 (by omega) (x := [iv x]) (by rw [Int.toNat_natCast, List.getElem?_map, List.getElem?_append_left this, hx]; rfl) rfl K
  have atW : ∀ (K : Value → Option (Ex × List Value × H)), (six lv (L.length : Int) 1 fun b o => (h.cell b o).bind K) = K (iv w) := fun K =>
    hL.c0 (by omega) (x := [iv w]) (by rw [Int.toNat_natCast]; simp) rfl K
  have at2 : ∀ {i x : Nat}, L[i]? = some x → ∀ (K : Value → Option (Ex × List Value × H)), (six v2 (i : Int) 1 fun b o => (h.cell b o).bind K) = K (iv x) := fun {i x} hx K => s2.c0 (by omega) (x := [iv x]) (by simp [hx]) rfl K
  have ltL : ∀ {i x : Nat}, L[i]? = some x → x < g.length := fun hx => hlt _ (List.mem_append.2 (.inl (List.mem_of_getElem? hx)))
  have hwl : w < g.length := hlt _ (List.mem_append.2 (.inr List.mem_cons_self))
  have hb : ∀ x y : Nat, y < g.length → AM.and .i64 (shr .i64 ((nb g x : Nat) : Int) (y : Int)) 1 = if adj g x y then 1 else 0 := fun x y hy => by
    have := hg.nb_lt x
    exact bit_nat (by omega) (by omega)
  have atg : ∀ {x : Nat}, x < g.length → ∀ (K : Value → Option (Ex × List Value × H)), (six tv (x : Int) 1 fun b o => (h.cell b o).bind K) = K (iv (nb g x : Nat)) := fun hx K => getN hs hx K
  -- the third loop
  have l3 : ∀ (j i : Nat) (x : Nat), L[i]? = some x → j < L.length → ∃ u, lpGo (f92_l3 rn 2000 tv lv ((L.length : Int) + 1) [.bool false, iv i]) 2000 [.bool false, iv ((j + 1 : Nat) : Int)] h =
      some (if ((List.range (L.length - (j + 1))).any fun k => adj g x (L.getD (j + 1 + k) 0)) = true then (.ret, [.bool true, u], h) else (.exit 4, [.bool false, u], h)) := by
    intro j i x hx hj
    have := lp_all (F := f92_l3 rn 2000 tv lv ((L.length : Int) + 1) [.bool false, iv i]) (k := 2000) (l := List.range (L.length - (j + 1))) (h := h) (fun k => [.bool false, iv ((j + 1 + k : Nat) : Int)])
      (fun _ k => !adj g x (L.getD (j + 1 + k) 0)) (fun k => [.bool true, iv ((j + 1 + k : Nat) : Int)]) 4 [.bool false, iv L.length] (ws := [.bool false, iv ((j + 1 : Nat) : Int)]) rfl (by simp; omega)
      (by
        rw [List.length_range, show j + 1 + (L.length - (j + 1)) = L.length by omega]
        unfold f92_l3
        rw [show gv [Value.bool false, iv (L.length : Int)] 1 = iv L.length from rfl, asI_int, hsub, lt_f (by omega), ifB_false]
        rfl)
      (by
        intro k y hk
        have hkl := (List.getElem?_eq_some_iff.1 hk).1
        rw [List.length_range] at hkl
        have hky : y = k := by rw [List.getElem?_range hkl] at hk; exact (Option.some.inj hk).symm
        subst hky
        have hadd : add .i64 ((j + 1 + y : Nat) : Int) 1 = ((j + 1 + (y + 1) : Nat) : Int) := by rw [add64 (by omega) (by omega)]; omega
        have hz := get_of (L := L) (j := j + 1 + y) (by omega)
        unfold f92_l3
        simp only [d3]
        rw [show gv [Value.bool false, iv ((j + 1 + y : Nat) : Int)] 1 = iv ((j + 1 + y : Nat) : Int) from rfl, asI_int, hsub, lt_t (by omega), ifB_true, show gv [Value.bool false, iv (i : Int)] 1 = iv i from rfl, asK_int, atL hx, asI_int, atg (ltL hx), asI_int, asK_int, atL hz, asI_int, nn_ge (by omega), hb _ _ (ltL hz)]
        by_cases hq : adj g x (L.getD (j + 1 + y) 0) = true
        · rw [if_pos hq, hq, show AM.eq 1 1 = true from rfl, ifB_true]; rfl
        · rw [if_neg hq, show AM.eq 0 1 = false from rfl, ifB_false, asI_int, hadd, show adj g x (L.getD (j + 1 + y) 0) = false by simpa using hq]; rfl)
    rcases this with ⟨k, y, hy, q2, _, q1⟩ | ⟨q2, q1⟩
    · have hkl := (List.getElem?_eq_some_iff.1 hy).1
      rw [List.length_range] at hkl
      have hky : y = k := by rw [List.getElem?_range hkl] at hy; exact (Option.some.inj hy).symm
      subst hky
      refine ⟨iv ((j + 1 + y : Nat) : Int), q1.trans ?_⟩
      rw [if_pos]
      rw [List.any_eq_true]
      exact ⟨y, List.mem_range.2 hkl, by simpa using q2⟩
    · refine ⟨iv (L.length : Int), q1.trans ?_⟩
      rw [if_neg]
      rw [List.any_eq_true]
      rintro ⟨y, hy, hq⟩
      have := q2 y y (by rw [List.getElem?_range (List.mem_range.1 hy)])
      rw [hq] at this; cases this
  -- the second loop
  have l2 : ∀ (j : Nat) (z : Value), j < L.length → ∃ u, lpGo (f92_l2 rn 2000 tv lv ((L.length : Int) + 1) [z, iv j]) 2000 [.bool false, iv 0] h =
      some (if hitB g L j = true then (.ret, [.bool true, u], h) else (.exit 2, [.bool false, u], h)) := by
    intro j z hj
    have := lp_all (F := f92_l2 rn 2000 tv lv ((L.length : Int) + 1) [z, iv j]) (k := 2000) (l := List.range j) (h := h) (fun i => [.bool false, iv i])
      (fun _ i => !((List.range (L.length - (j + 1))).any fun k => adj g (L.getD i 0) (L.getD (j + 1 + k) 0))) (fun i => [.bool true, iv i]) 2 [.bool false, iv j] (ws := [.bool false, iv 0]) rfl (by simp; omega)
      (by
        rw [List.length_range]
        unfold f92_l2
        rw [show gv [Value.bool false, iv (j : Int)] 1 = iv j from rfl, show gv [z, iv (j : Int)] 1 = iv j from rfl, asI_int, asI_int, lt_f (by omega), ifB_false]
        rfl)
      (by
        intro i y hi
        have hil := (List.getElem?_eq_some_iff.1 hi).1
        rw [List.length_range] at hil
        have hiy : y = i := by rw [List.getElem?_range hil] at hi; exact (Option.some.inj hi).symm
        subst hiy
        have hadd : add .i64 (y : Int) 1 = ((y + 1 : Nat) : Int) := by rw [add64 (by omega) (by omega)]; omega
        have hadd2 : add .i64 (j : Int) 1 = ((j + 1 : Nat) : Int) := by rw [add64 (by omega) (by omega)]; omega
        obtain ⟨u, hu⟩ := l3 j y (L.getD y 0) (get_of (by omega)) hj
        unfold f92_l2
        rw [show gv [Value.bool false, iv (y : Int)] 1 = iv y from rfl, show gv [z, iv (j : Int)] 1 = iv j from rfl, asI_int, asI_int, lt_t (by omega), ifB_true, asI_int, hadd2, show gv [Value.bool false, iv (y : Int)] 0 = .bool false from rfl]
        by_cases hq : ((List.range (L.length - (j + 1))).any fun k => adj g (L.getD y 0) (L.getD (j + 1 + k) 0)) = true
        · rw [if_pos hq] at hu
          rw [lp_eq hu, onE_ret, onR_ret, hq]; rfl
        · rw [if_neg hq] at hu
          rw [lp_eq hu, onE_exit, if_pos rfl, asI_int, hadd]
          simp only [Bool.not_eq_true] at hq
          rw [hq]; rfl)
    rcases this with ⟨k, y, hy, q2, _, q1⟩ | ⟨q2, q1⟩
    · have hkl := (List.getElem?_eq_some_iff.1 hy).1
      rw [List.length_range] at hkl
      have hky : y = k := by rw [List.getElem?_range hkl] at hy; exact (Option.some.inj hy).symm
      subst hky
      refine ⟨iv (y : Int), q1.trans ?_⟩
      rw [if_pos]
      unfold hitB
      rw [List.any_eq_true]
      exact ⟨y, List.mem_range.2 hkl, by simpa using q2⟩
    · refine ⟨iv (j : Int), q1.trans ?_⟩
      rw [if_neg]
      unfold hitB
      rw [List.any_eq_true]
      rintro ⟨y, hy, hq⟩
      have := q2 y y (by rw [List.getElem?_range (List.mem_range.1 hy)])
      rw [hq] at this; cases this
  have l1 := lp_all (F := f92_l1 rn 2000 tv lv ((L.length : Int) + 1) v2 L.length) (k := 2000) (l := L) (h := h) (fun j => [.bool false, iv j])
      (fun j y => !(adj g y w && hitB g L j)) (fun j => [.bool true, iv j]) 0 [.bool false, iv L.length] (ws := [.bool false, iv 0]) rfl (by omega)
      (by
        unfold f92_l1
        rw [show gv [Value.bool false, iv (L.length : Int)] 1 = iv L.length from rfl, asI_int, lt_f (by omega), ifB_false]
        rfl)
      (by
        intro j y hj
        have hjl := (List.getElem?_eq_some_iff.1 hj).1
        have hadd : add .i64 (j : Int) 1 = ((j + 1 : Nat) : Int) := by rw [add64 (by omega) (by omega)]; omega
        obtain ⟨u, hu⟩ := l2 j (.bool false) hjl
        unfold f92_l1
        simp only [d3]
        rw [show gv [Value.bool false, iv (j : Int)] 1 = iv j from rfl, asI_int, lt_t (by omega), ifB_true, asK_int, at2 hj, asI_int, atg (ltL hj), asI_int, hsub, atW, asI_int, nn_ge (by omega), hb _ _ hwl]
        by_cases hq : adj g y w = true
        · rw [if_pos hq, show AM.eq 1 0 = false from rfl, ifB_false, show gv [Value.bool false, iv (j : Int)] 0 = .bool false from rfl, hq, Bool.true_and]
          by_cases hh : hitB g L j = true
          · rw [if_pos hh] at hu
            rw [lp_eq hu, onE_ret, onR_ret, hh]; rfl
          · rw [if_neg hh] at hu
            rw [lp_eq hu, onE_exit, if_pos rfl, asI_int, hadd, show hitB g L j = false by simpa using hh]; rfl
        · rw [if_neg hq, show AM.eq 0 0 = true from rfl, ifB_true, asI_int, hadd, show adj g y w = false by simpa using hq]; rfl)
  refine p92 (k := 2000) (h1 := h) ?_ rfl (.refl _)
  unfold f92
  rw [hn, hsub, e2, hn2]
  rcases l1 with ⟨j, y, hy, q2, _, q1⟩ | ⟨q2, q1⟩
  · have : crossB g L w = true := by
      unfold crossB
      rw [List.any_eq_true]
      refine ⟨j, List.mem_range.2 (List.getElem?_eq_some_iff.1 hy).1, ?_⟩
      rw [getD_of hy]
      simpa using q2
    rw [lp_eq q1, onE_ret, onR_ret, this]; rfl
  · have : crossB g L w = false := by
      rw [Bool.eq_false_iff]
      unfold crossB
      rw [ne_eq, List.any_eq_true]
      rintro ⟨j, hj, hq⟩
      have := q2 j _ (get_of (List.mem_range.1 hj))
      rw [hq] at this; cases this
    rw [lp_eq q1, onE_exit, if_pos rfl, this]

/-! ### The search -/
/-- What the search holds. -/
structure OS (lo : Nat) (tv : Value) (g : List Nat) (lb tb gb : Nat) (l : List Nat) (lv : Value) (h : H) : Prop where
  lo_ : lo ≤ h.nx
  ts : SlR h 3 1 tv (cellsN g)
  tlo : ∀ b, blkOf tv = some b → b < lo
  hlb : lo ≤ lb ∧ lb < h.nx ∧ h.blk lb = some (.row [lv] 22 true)
  htb : lo ≤ tb ∧ tb < h.nx ∧ h.blk tb = some (.row [tv] 84 true)
  hgb : lo ≤ gb ∧ gb < h.nx ∧ h.blk gb = some (.row [.func (.func 91) #[] #[pt lb 0, pt tb 0, pt gb 0]] 82 true)
  lq : WqR lo h 3 1 lv (cellsN l)

section
variable {lo : Nat} {tv lv : Value} {g : List Nat} {lb tb gb : Nat} {l : List Nat} {h : H}
theorem OS.wne (s : OS lo tv g lb tb gb l lv h) {b : Nat} (hb : blkOf lv = some b) : lo ≤ b ∧ b < h.nx ∧ b ≠ lb ∧ b ≠ tb ∧ b ≠ gb := by
  obtain ⟨h1, h2, c, h3⟩ := s.lq.blkOf hb
  refine ⟨h1, h2, ?_, ?_, ?_⟩
  · rintro rfl; have := s.hlb.2.2; rw [h3] at this; simp at this
  · rintro rfl; have := s.htb.2.2; rw [h3] at this; simp at this
  · rintro rfl; have := s.hgb.2.2; rw [h3] at this; simp at this

theorem OS.ne (s : OS lo tv g lb tb gb l lv h) : lb ≠ tb ∧ lb ≠ gb := by
  constructor
  · rintro rfl; have := s.htb.2.2; rw [s.hlb.2.2] at this; simp at this
  · rintro rfl; have := s.hgb.2.2; rw [s.hlb.2.2] at this; simp at this

theorem OS.turn (s : OS lo tv g lb tb gb l lv h) {h' : H} {l' : List Nat} {lv' : Value} (hn : h.nx ≤ h'.nx) (hf : ∀ b, b < h.nx → b ≠ lb → blkOf lv ≠ some b → h'.blk b = h.blk b)
    (hl : h'.blk lb = some (.row [lv'] 22 true)) (ha : WqR lo h' 3 1 lv' (cellsN l')) : OS lo tv g lb tb gb l' lv' h' := by
  have := s.lo_
  refine ⟨Nat.le_trans s.lo_ hn, s.ts.keepB hn fun b e => ?_, s.tlo, ⟨s.hlb.1, Nat.lt_of_lt_of_le s.hlb.2.1 hn, hl⟩, ⟨s.htb.1, Nat.lt_of_lt_of_le s.htb.2.1 hn, ?_⟩, ⟨s.hgb.1, Nat.lt_of_lt_of_le s.hgb.2.1 hn, ?_⟩, ha⟩
  · have hb := s.tlo b e
    exact hf b (by omega) (by have := s.hlb.1; omega) (fun e => by have := (s.wne e).1; omega)
  · exact (hf tb s.htb.2.1 (Ne.symm s.ne.1) (fun e => (s.wne e).2.2.2.1 rfl)).trans s.htb.2.2
  · exact (hf gb s.hgb.2.1 (Ne.symm s.ne.2) (fun e => (s.wne e).2.2.2.2 rfl)).trans s.hgb.2.2

theorem OS.ext (s : OS lo tv g lb tb gb l lv h) {h' : H} (x : Ext h h') : OS lo tv g lb tb gb l lv h' :=
  s.turn x.nx (fun b hb _ _ => x.blk b hb) ((x.blk _ s.hlb.2.1).trans s.hlb.2.2) (s.lq.keep x.nx fun b hb => x.blk b (s.lq.blkOf hb).2.1)

theorem OS.sm (s : OS lo tv g lb tb gb l lv h) {h' : H} (x : Sm h h') : OS lo tv g lb tb gb l lv h' := s.ext x.ext

/-- Nothing old is turned but the cell of the slice, and its row. -/
structure FO (lb : Nat) (h : H) (lv : Value) (h' : H) (lv' : Value) : Prop where
  nx : h.nx ≤ h'.nx
  fr : ∀ b, b < h.nx → b ≠ lb → blkOf lv ≠ some b → h'.blk b = h.blk b
  wb : ∀ b, blkOf lv' = some b → h.nx ≤ b ∨ blkOf lv = some b

theorem FO.refl (lb : Nat) (h : H) (lv : Value) : FO lb h lv h lv := ⟨Nat.le_refl _, fun _ _ _ _ => rfl, fun _ h => .inr h⟩

theorem FO.ofExt {lb : Nat} {h h' : H} (lv : Value) (x : Ext h h') : FO lb h lv h' lv := ⟨x.nx, fun b hb _ _ => x.blk b hb, fun _ h => .inr h⟩

theorem FO.trans {lb : Nat} {h h' h2 : H} {lv lv' lv2 : Value} (a : FO lb h lv h' lv') (b : FO lb h' lv' h2 lv2) : FO lb h lv h2 lv2 := by
  have n1 := a.nx
  refine ⟨Nat.le_trans a.nx b.nx, fun i hi h1 h3 => ?_, fun i hi => ?_⟩
  · rw [b.fr i (by omega) h1 (fun e => ?_), a.fr i hi h1 h3]
    rcases a.wb i e with h | h
    · omega
    · exact h3 h
  · rcases b.wb i hi with h | h
    · exact .inl (by omega)
    · exact a.wb i h

/-- One node more. -/
theorem OS.push (s : OS lo tv g lb tb gb l lv h) (x : Nat) (hl : l.length ≤ 20) : ∃ v7 h4 h5, (∀ {R : Type} (K : Value → H → Option R), (bls Tryd.prog h 22 1 [(0, iv x)] fun y h2 => app Tryd.prog h2 22 22 lv y K) = K v7 h4) ∧
    wrc 1 h4 lb 0 v7 = some h5 ∧ OS lo tv g lb tb gb (l ++ [x]) v7 h5 ∧ FO lb h lv h5 v7 := by
  obtain ⟨v7, h4, e4, a4, n4, k4, b4, hb4, hb4'⟩ := s.lq.push app22 app22 (bls22 (x : Int)) rfl rfl (by simp; omega) s.lo_
  have hlb4 : h4.blk lb = some (.row [lv] 22 true) := (k4 lb s.hlb.2.1 (fun e => (s.wne e).2.2.1 rfl)).trans s.hlb.2.2
  have hw : wrc 1 h4 lb 0 v7 = some (h4.set lb (.row [v7] 22 true)) := by rw [wrc_one hlb4 a4.cells.1 a4.cells.2 (by simp)]; rfl
  have ha : WqR lo (h4.set lb (.row [v7] 22 true)) 3 1 v7 (cellsN (l ++ [x])) := by
    have := a4.keep (h' := h4.set lb (.row [v7] 22 true)) (Nat.le_refl _) fun b hb => blk_set_ne _ _ _ (fun e => by
      subst e
      obtain ⟨_, _, c', h5⟩ := a4.blkOf hb
      rw [hlb4] at h5
      simp at h5)
    simpa using this
  have hf : ∀ b, b < h.nx → b ≠ lb → blkOf lv ≠ some b → (h4.set lb (.row [v7] 22 true)).blk b = h.blk b := fun b h1 h2 h3 => by rw [blk_set_ne _ _ _ h2]; exact k4 b h1 h3
  refine ⟨v7, h4, _, e4, hw, s.turn n4 hf (blk_set_self _ _ _) ha, n4, hf, fun b hb => ?_⟩
  rw [hb4] at hb
  cases hb
  exact hb4'

/-- And without it again. -/
theorem OS.pop {x : Nat} (s : OS lo tv g lb tb gb (l ++ [x]) lv h) (hl : l.length ≤ 20) : ∃ v' h', (∀ {R : Type} (K : Value → Option R), (len lv fun n => sli Tryd.prog h 22 lv none (some (.int .i64 (sub .i64 n 1))) none K) = K v') ∧
    wrc 1 h lb 0 v' = some h' ∧ OS lo tv g lb tb gb l v' h' ∧ FO lb h lv h' v' := by
  have hway : WqR lo h 3 1 lv (cellsN l ++ [[iv (x : Int)]]) := by simpa using s.lq
  obtain ⟨v', e', a', b'⟩ := hway.pop under22 sz3
  refine ⟨v', h.set lb (.row [v'] 22 true), fun K => ?_, by rw [wrc_one s.hlb.2.2 a'.cells.1 a'.cells.2 (by simp)]; rfl, ?_, Nat.le_refl _, fun b _ hb _ => blk_set_ne _ _ _ hb, fun b hb => .inr (b' ▸ hb)⟩
  · rw [hway.slR.len]
    have : sub .i64 (((cellsN l ++ [[iv (x : Int)]]).length : Nat) : Int) 1 = ((cellsN l).length : Int) := by
      simp only [List.length_append, List.length_map, List.length_cons, List.length_nil]
      rw [sub64 (by omega) (by omega)]; omega
    rw [this]
    exact e' K
  · exact s.turn (Nat.le_refl _) (fun b h1 h2 _ => blk_set_ne _ _ _ h2) (blk_set_self _ _ _) (a'.keep (Nat.le_refl _) fun b hb => blk_set_ne _ _ _ (fun e => by
      subst e
      obtain ⟨_, _, c', h5⟩ := a'.blkOf hb
      rw [s.hlb.2.2] at h5
      simp at h5))

/-- A call's heap, cut back. -/
theorem OS.trunc {h1 : H} {l' : List Nat} {lv' v : Value} (s : OS lo tv g lb tb gb l lv h) (s1 : OS lo tv g lb tb gb l' lv' h1) (f : FO lb h lv h1 lv') :
    OS lo tv g lb tb gb l' lv' (AM.trunc Tryd.prog h h1 v) ∧ FO lb h lv (AM.trunc Tryd.prog h h1 v) lv' := by
  obtain ⟨q1, q2, q3⟩ := trunc_blk (P := Tryd.prog) (v := v) f.nx
  refine ⟨?_, q1, fun b hb h1 h2 => (q3 b hb).trans (f.fr b hb h1 h2), f.wb⟩
  unfold AM.trunc
  by_cases hu : ∀ b, b < h.nx → h1.blk b = h.blk b
  · rw [if_pos hu]
    split
    · -- nothing old was turned: the slice is the same one
      have e : lv' = lv := by
        have h1 := s1.hlb.2.2
        rw [hu lb s.hlb.2.1, s.hlb.2.2] at h1
        simpa using h1.symm
      subst e
      refine ⟨s.lo_, s.ts, s.tlo, s.hlb, s.htb, s.hgb, ?_⟩
      have a := s1.lq
      generalize cellsN l' = c' at a
      cases a with
      | nil => exact .nil
      | @at_ b c m l0 junk hlo hb hr hx hm hj hc =>
        have hbn : b < h.nx := (s.lq.blkOf (b := b) rfl).2.1
        exact .at_ hlo hbn ((hu b hbn).symm.trans hr) hx hm hj hc
    · exact s1.ext ⟨Nat.le_refl _, fun _ _ => rfl⟩
  · rw [if_neg hu]; exact s1

end
/-- The rest of an order. -/
def Fits (g l : List Nat) (left : Nat) (m : List Nat) : Prop := m.Nodup ∧ (∀ i, i ∈ m ↔ left.testBit i = true) ∧ NX (adj g) (l ++ m)

theorem s91 {lo : Nat} {tv : Value} {g : List Nat} {lb tb gb : Nat} (hg : GrB g) : ∀ (n left : Nat) (l : List Nat) (lv : Value) (h : H), pop left ≤ n → left < 2 ^ g.length → l.length + n ≤ 20 → (∀ x ∈ l, x < g.length) → NX (adj g) l → OS lo tv g lb tb gb l lv h →
    ∃ h' r lv', rn 91 #[iv left, pt lb 0, pt tb 0, pt gb 0] h = some (.bool r, h') ∧ FO lb h lv h' lv' ∧
      ((r = true ∧ ∃ m, Fits g l left m ∧ OS lo tv g lb tb gb (l ++ m) lv' h') ∨ (r = false ∧ (∀ m, ¬ Fits g l left m) ∧ OS lo tv g lb tb gb l lv' h')) := by
  have hlen := hg.len
  have hpow := hg.pow
  intro n
  have zero : ∀ (l : List Nat) (lv : Value) (h : H), NX (adj g) l → OS lo tv g lb tb gb l lv h → ∃ h' r lv', rn 91 #[iv (0 : Nat), pt lb 0, pt tb 0, pt gb 0] h = some (.bool r, h') ∧ FO lb h lv h' lv' ∧
      ((r = true ∧ ∃ m, Fits g l 0 m ∧ OS lo tv g lb tb gb (l ++ m) lv' h') ∨ (r = false ∧ (∀ m, ¬ Fits g l 0 m) ∧ OS lo tv g lb tb gb l lv' h')) := fun l lv h hnx s =>
    ⟨h, true, lv, y91 (k := 0) (by unfold f91; rfl), .refl _ _ _, .inl ⟨rfl, [], ⟨.nil, by simp, by simpa using hnx⟩, by simpa using s⟩⟩
  induction n with
  | zero =>
    intro left l lv h hp hleft hl hlx hnx s
    have h0 : left = 0 := pop_zero' (by omega) (by omega)
    subst h0
    exact zero l lv h hnx s
  | succ n ih =>
    intro left l lv h hp hleft hl hlx hnx s
    by_cases h0 : left = 0
    · subst h0
      exact zero l lv h hnx s
    · have hleft' : left < 1024 := by omega
      obtain ⟨nv, h1, e49, x1, hn1, hnq⟩ := s49 hleft' h
      have hnl : ∀ {T : Type} (K : Int → Option T), len nv K = K ((elts left).length : Int) := fun K => by rw [hn1.len]; simp
      have hpl : (elts left).length ≤ 10 := by rw [elts_len]; exact pop_le_n (Nat.le_refl 10) hleft'
      have s1 := s.ext x1.toExt
      have hbel : ∀ {v : Value} {L : List (List Value)} {b : Nat}, SlR h1 3 1 v L → blkOf v = some b → b < h1.nx := fun a hb => by
        cases a with
        | nil => cases hb
        | at_ hb' => cases hb; exact hb'
      have hnb : ∀ b, blkOf nv = some b → h.nx ≤ b ∧ b < h1.nx := fun b hb => ⟨hnq b hb, hbel hn1 hb⟩
      have nvk : ∀ {g1 : H} {lv1 : Value}, FO lb h1 lv g1 lv1 → SlR g1 3 1 nv (cellsN (elts left)) := fun f => hn1.keepB f.nx fun b hb => by
        obtain ⟨q1, q2⟩ := hnb b hb
        have := s.hlb.2.1
        exact f.fr b q2 (by omega) (fun e => by have := (s.wne e).2.1; omega)
      -- the search over the nodes
      obtain ⟨e, ws', h', hl', lv', hf', hq⟩ := lp_range (F := f91_l1 rn 2000 left (pt lb 0) (pt tb 0) (pt gb 0) nv (elts left).length) (k := 2000) (n := (elts left).length)
        (fun i ws g' => ws = [.bool false, iv i] ∧ (∃ lv', FO lb h1 lv g' lv' ∧ OS lo tv g lb tb gb l lv' g') ∧ ∀ j x, j < i → (elts left)[j]? = some x → ∀ m, ¬ Fits g l left (x :: m))
        (fun e ws g' => ∃ lv', FO lb h1 lv g' lv' ∧
          ((e = .ret ∧ ∃ w, ws = [.bool true, w] ∧ ∃ m, Fits g l left m ∧ OS lo tv g lb tb gb (l ++ m) lv' g') ∨ (e = .exit 0 ∧ (∀ m, ¬ Fits g l left m) ∧ OS lo tv g lb tb gb l lv' g')))
        (by
          rintro i ws g1 hi ⟨rfl, ⟨lv1, fo1, o1⟩, hno⟩
          have hx := List.getElem?_eq_getElem hi
          generalize (elts left)[i] = x at hx
          have hxl := (mem_elts hleft').1 (List.mem_of_getElem? hx)
          have hxg : x < g.length := bit_lt hleft hxl
          have hadd : add .i64 (i : Int) 1 = ((i + 1 : Nat) : Int) := by rw [add64 (by omega) (by omega)]; omega
          have hng := nvk fo1
          have e1 : ∀ (K : Value → Option (Ex × List Value × H)), (six nv (i : Int) 1 fun b o => (g1.cell b o).bind K) = K (iv x) := fun K => hng.c0 (by omega) (x := [iv x]) (by simp [hx]) rfl K
          obtain ⟨v7, h4, h5, e4, w5, o5, fo5⟩ := o1.push x (by omega)
          have hlx' : ∀ y ∈ l ++ [x], y < g.length := fun y hy => by
            rcases List.mem_append.1 hy with hy | hy
            · exact hlx y hy
            · rw [List.mem_singleton.1 hy]; exact hxg
          have c92 := s92 (L := l) (w := x) hg o5.ts o5.lq.slR hlx' (by omega)
          have c1 : g1.cell lb 0 = some lv1 := by rw [cell_of o1.hlb.2.2]; rfl
          have c5 : h5.cell lb 0 = some v7 := by rw [cell_of o5.hlb.2.2]; rfl
          have t5 : h5.cell tb 0 = some tv := by rw [cell_of o5.htb.2.2]; rfl
          have g5 : h5.cell gb 0 = some (.func (.func 91) #[] #[pt lb 0, pt tb 0, pt gb 0]) := by rw [cell_of o5.hgb.2.2]; rfl
          have hand : AM.andNot .i64 (left : Int) (AM.shl .i64 1 (x : Int)) = ((without left (2 ^ x) : Nat) : Int) := by
            have : 2 ^ x < 2 ^ 10 := Nat.pow_lt_pow_right (by omega) (by omega)
            rw [shl1_nat (by omega), andNot_nat (by omega) (by omega)]
          -- back
          have back : ∀ (lv9 : Value) (h9 : H), OS lo tv g lb tb gb (l ++ [x]) lv9 h9 → FO lb h1 lv h9 lv9 → (∀ m, ¬ Fits g l left (x :: m)) →
              ∃ v10 h10, h9.cell lb 0 = some lv9 ∧ (∀ {R : Type} (K : Value → Option R), (len lv9 fun n => sli Tryd.prog h9 22 lv9 none (some (.int .i64 (sub .i64 n 1))) none K) = K v10) ∧ wrc 1 h9 lb 0 v10 = some h10 ∧
                (∃ lv', FO lb h1 lv h10 lv' ∧ OS lo tv g lb tb gb l lv' h10) ∧ ∀ j y, j < i + 1 → (elts left)[j]? = some y → ∀ m, ¬ Fits g l left (y :: m) := by
            intro lv9 h9 o9 fo9 hx9
            obtain ⟨v10, h10, e10, w10, o10, fo10⟩ := o9.pop (by omega)
            refine ⟨v10, h10, by rw [cell_of o9.hlb.2.2]; rfl, e10, w10, ⟨v10, fo9.trans fo10, o10⟩, fun j y hj hy => ?_⟩
            by_cases hji : j < i
            · exact hno j y hji hy
            · have : j = i := by omega
              subst this
              rw [hx] at hy
              cases hy
              exact hx9
          by_cases hc : crossB g l x = true
          · obtain ⟨v10, h10, q1, q2, q3, q4, q5⟩ := back v7 h5 o5 (fo1.trans fo5) (fun m hm => by
              have := (nx_snoc (w := x)).1 (hm.2.2.sub (m := l ++ [x]) (by
                rw [show l ++ x :: m = (l ++ [x]) ++ m by simp]; exact List.sublist_append_left _ _))
              rw [hc] at this
              cases this.2)
            refine ⟨.normal, [.bool false, iv ((i + 1 : Nat) : Int)], h10, ?_, .inl ⟨rfl, rfl, q4, q5⟩⟩
            unfold f91_l1
            simp only [d3, d22, d84, d82, w22, asP_ptr]
            rw [show gv [Value.bool false, iv (i : Int)] 1 = iv i from rfl, show gv [Value.bool false, iv (i : Int)] 0 = .bool false from rfl, asI_int, lt_t (by omega), ifB_true, asK_int, e1, asI_int, c1, Option.bind_some, e4, w5, Option.bind_some, t5, Option.bind_some, c5, Option.bind_some, calls_eq (xs := [tv, v7]) c92, asB_bool, hc, show (!true) = false from rfl, ifB_false]
            simp only [c5, Option.bind_some]
            rw [q2, q3, Option.bind_some, asI_int, hadd]
            rfl
          · have hc' : crossB g l x = false := by simpa using hc
            have hnx5 := (nx_snoc (g := g) (L := l) (w := x)).2 ⟨hnx, hc'⟩
            have hsub := without_ltv hleft' hxl
            have hplt : pop (without left (2 ^ x)) < pop left := pop_lt hleft' (fun j hj => (bit_del.1 hj).1) hxl (by
              rw [Bool.eq_false_iff]; intro h; exact (bit_del.1 h).2 rfl)
            have fit : ∀ m, Fits g (l ++ [x]) (without left (2 ^ x)) m ↔ Fits g l left (x :: m) := by
              intro m
              unfold Fits
              rw [List.nodup_cons, show (l ++ [x]) ++ m = l ++ x :: m by simp]
              constructor
              · rintro ⟨a1, a2, a3⟩
                refine ⟨⟨fun h => (bit_del.1 ((a2 x).1 h)).2 rfl, a1⟩, fun i => ?_, a3⟩
                rw [List.mem_cons, a2, bit_del]
                constructor
                · rintro (rfl | h)
                  · exact hxl
                  · exact h.1
                · intro h
                  by_cases e : i = x
                  · exact .inl e
                  · exact .inr ⟨h, e⟩
              · rintro ⟨⟨a0, a1⟩, a2, a3⟩
                refine ⟨a1, fun i => ?_, a3⟩
                rw [bit_del, ← a2, List.mem_cons]
                constructor
                · intro h; exact ⟨.inr h, fun e => a0 (e ▸ h)⟩
                · rintro ⟨h, e⟩; exact h.resolve_left e
            obtain ⟨h7, r, lv7, e7, fo7, q⟩ := ih (without left (2 ^ x)) (l ++ [x]) v7 h5 (by omega) (by omega) (by simp; omega) hlx' hnx5 o5
            have fo17 := (fo1.trans fo5).trans fo7
            have e7' := fun (K : Value → H → Option (Ex × List Value × H)) => calls_eq (K := K) (xs := [iv (without left (2 ^ x) : Nat), pt lb 0, pt tb 0, pt gb 0]) e7
            rcases q with ⟨rfl, m, hm, o7⟩ | ⟨rfl, hm, o7⟩
            · refine ⟨.ret, [.bool true, iv i], h7, ?_, .inr ⟨by simp, lv7, fo17, .inl ⟨rfl, _, rfl, x :: m, (fit m).1 hm, by simpa using o7⟩⟩⟩
              unfold f91_l1
              simp only [d3, d22, d84, d82, w22, asP_ptr]
              rw [show gv [Value.bool false, iv (i : Int)] 1 = iv i from rfl, show gv [Value.bool false, iv (i : Int)] 0 = .bool false from rfl, asI_int, lt_t (by omega), ifB_true, asK_int, e1, asI_int, c1, Option.bind_some, e4, w5, Option.bind_some, t5, Option.bind_some, c5, Option.bind_some, calls_eq (xs := [tv, v7]) c92, asB_bool, hc', show (!false) = true from rfl, ifB_true, g5, Option.bind_some, nn_ge (by omega), callsV_eq, hand]
              exact (e7' _).trans rfl
            · obtain ⟨v10, h10, q1, q2, q3, q4, q5⟩ := back lv7 h7 o7 fo17 (fun m hm' => hm m ((fit m).2 hm'))
              refine ⟨.normal, [.bool false, iv ((i + 1 : Nat) : Int)], h10, ?_, .inl ⟨rfl, rfl, q4, q5⟩⟩
              unfold f91_l1
              simp only [d3, d22, d84, d82, w22, asP_ptr]
              rw [show gv [Value.bool false, iv (i : Int)] 1 = iv i from rfl, show gv [Value.bool false, iv (i : Int)] 0 = .bool false from rfl, asI_int, lt_t (by omega), ifB_true, asK_int, e1, asI_int, c1, Option.bind_some, e4, w5, Option.bind_some, t5, Option.bind_some, c5, Option.bind_some, calls_eq (xs := [tv, v7]) c92, asB_bool, hc', show (!false) = true from rfl, ifB_true, g5, Option.bind_some, nn_ge (by omega), callsV_eq, hand]
              refine (e7' _).trans ?_
              rw [asB_bool, ifB_false]
              simp only [q1, Option.bind_some]
              rw [q2, q3, Option.bind_some, asI_int, hadd]
              rfl)
        (by
          rintro ws g1 ⟨rfl, ⟨lv1, fo1, o1⟩, hno⟩
          refine ⟨.exit 0, [.bool false, iv (elts left).length], g1, ?_, by simp, lv1, fo1, .inr ⟨rfl, fun m hm => ?_, o1⟩⟩
          · unfold f91_l1
            rw [show gv [Value.bool false, iv ((elts left).length : Int)] 1 = iv (elts left).length from rfl, asI_int, lt_f (by omega), ifB_false]
            rfl
          · cases m with
            | nil =>
              have := (hm.2.1 (low left)).2 (low_bit (Nat.pos_of_ne_zero h0) hleft')
              simp at this
            | cons x m =>
              obtain ⟨j, hj⟩ := List.mem_iff_getElem?.1 ((mem_elts hleft').2 ((hm.2.1 x).1 List.mem_cons_self))
              exact hno j x (List.getElem?_eq_some_iff.1 hj).1 hj m hm)
        (ws := [.bool false, iv 0]) (h := h1) (by omega) ⟨rfl, ⟨lv, .refl _ _ _, s1⟩, fun j x hj => by omega⟩
      have hz : AM.eq (left : Int) 0 = false := by simp; omega
      have fo := (FO.ofExt (lb := lb) lv x1.toExt).trans hf'
      rcases hq with ⟨rfl, w, rfl, m, hm, o⟩ | ⟨rfl, hm, o⟩
      · obtain ⟨t1, t2⟩ := s.trunc (v := .bool true) o fo
        refine ⟨_, true, lv', t91 (k := 2000) (h1 := h') ?_, t2, .inl ⟨rfl, m, hm, t1⟩⟩
        unfold f91
        rw [hz, ifB_false, calls_eq (xs := [iv left]) e49, hnl, lp_eq hl', onE_ret, onR_ret]
        rfl
      · obtain ⟨t1, t2⟩ := s.trunc (v := .bool false) o fo
        refine ⟨_, false, lv', t91 (k := 2000) (h1 := h') ?_, t2, .inr ⟨rfl, hm, t1⟩⟩
        unfold f91
        rw [hz, ifB_false, calls_eq (xs := [iv left]) e49, hnl, lp_eq hl', onE_exit, if_pos rfl]

end Go.AM

end

section

/- Outer, and law 5: where every edge is in at most one cycle there is an outer order, and the width is at most 2. -/
namespace Go.AM
open Go.Proofs
variable {k : Nat} {R : Type}
theorem s56 {tv : Value} {g : List Nat} {S : Nat} {h : H} (hg : GrB g) (hs : SlR h 3 1 tv (cellsN g)) (hS : S < 2 ^ g.length) :
    ∃ v' h', rn 56 #[tv, iv S] h = some (v', h') ∧ Exw h h' ∧ ((∃ m, Fits g [] S m ∧ SlR h' 3 1 v' (cellsN m) ∧ (m ≠ [] → ∃ b o n c, v' = .slice (some ⟨b, o, none⟩) n c)) ∨ (v' = .slice none 0 0 ∧ ∀ m, ¬ Fits g [] S m)) := by
  have hlen := hg.len
  have hpow := hg.pow
  obtain ⟨ta, tn, tc, rfl⟩ := hs.isSl
  let h1 := h.new (.row [.slice ta tn tc] 84 true)
  let h2 := h1.new (.row [.slice none 0 0] 22 true)
  let h3 := h2.fresh 82 [.nilFunc] [.func (.func 91) #[] #[pt h1.nx 0, pt h.nx 0, pt h2.nx 0]]
  have x3 : Ext h h3 := ((Ext.new h _).trans (Ext.new h1 _)).fresh 82 _ _
  have b0 : h3.blk h.nx = some (.row [.slice ta tn tc] 84 true) := by
    rw [show h3.blk h.nx = h2.blk h.nx from ((Ext.refl h2).fresh 82 _ _).blk _ (show h.nx < h2.nx from (by show h.nx < h.nx + 1 + 1; omega))]
    show (h1.new _).blk h.nx = _
    rw [blk_new, if_neg (show ¬ h.nx = h1.nx from (by show ¬ h.nx = h.nx + 1; omega))]
    exact blk_new_self _ _
  have b1 : h3.blk h1.nx = some (.row [.slice none 0 0] 22 true) := by
    rw [show h3.blk h1.nx = h2.blk h1.nx from ((Ext.refl h2).fresh 82 _ _).blk _ (show h1.nx < h2.nx from (by show h.nx + 1 < h.nx + 1 + 1; omega))]
    exact blk_new_self _ _
  have b2 : h3.blk h2.nx = some (.row [.func (.func 91) #[] #[pt h1.nx 0, pt h.nx 0, pt h2.nx 0]] 82 true) := blk_fresh h2 82 _ _
  have e1 : h1.nx = h.nx + 1 := rfl
  have e2 : h2.nx = h.nx + 2 := rfl
  have e3 : h3.nx = h.nx + 3 := rfl
  have os : OS h.nx (.slice ta tn tc) g h1.nx h.nx h2.nx [] (.slice none 0 0) h3 := by
    refine ⟨x3.nx, hs.ext x3, fun b hb => ?_, ⟨by omega, by omega, b1⟩, ⟨by omega, by omega, b0⟩, ⟨by omega, by omega, b2⟩, .nil⟩
    cases ta with
    | none => cases hb
    | some a =>
      obtain ⟨b', o, r⟩ := a
      cases r with
      | none => cases hb; exact hs.below _ _ _ _ rfl
      | some _ => exact absurd hs (by intro hs; generalize cellsN g = L at hs; cases hs)
  have hpl := pop_le_n hlen hS
  obtain ⟨h5, r, lv', e91, fo, q⟩ := s91 hg (pop S) S [] (.slice none 0 0) h3 (Nat.le_refl _) hS (by simp; omega) (by simp) (fun p q r s hs => by simpa using hs.length_le) os
  have x5 : Ext h h5 := ⟨Nat.le_trans x3.nx fo.nx, fun b hb => by
    rw [fo.fr b (by omega) (by omega) (by intro h; cases h)]
    exact x3.blk b hb⟩
  have c91 := fun (K : Value → H → Option (Value × H)) => calls_eq (K := K) (xs := [iv S, pt h1.nx 0, pt h.nx 0, pt h2.nx 0]) e91
  have start : f56 rn 2000 (.slice ta tn tc) S h = asB (.bool r) fun q0 => ifB (not q0) (some ((.slice none 0 0), h5)) (ld Tryd.prog h5 22 h1.nx 0 fun v3 => some (v3, h5)) := by
    unfold f56
    rw [bx_eq]
    show (al h1 22 [(.slice none 0 0)] fun h2 => al h2 82 [.nilFunc] fun h3 => st Tryd.prog h3 82 (AM.nx h2) 0 (.func (.func 91) #[] #[(pt (AM.nx h1) 0), (pt (AM.nx h) 0), (pt (AM.nx h2) 0)]) fun h4 => _) = _
    rw [al_eq]
    show (al h2 82 [.nilFunc] fun h3 => st Tryd.prog h3 82 (AM.nx h2) 0 (.func (.func 91) #[] #[(pt h1.nx 0), (pt h.nx 0), (pt h2.nx 0)]) fun h4 => _) = _
    rw [al_st1 sz82 rfl rfl]
    show (ld Tryd.prog h3 82 h2.nx 0 fun v1 => _) = _
    rw [d82, cell_of b2, List.getElem?_cons_zero, Option.bind_some, callsV_eq]
    exact c91 _
  rcases q with ⟨rfl, m, hm, o⟩ | ⟨rfl, hm, o⟩
  · have hcl : h5.cell h1.nx 0 = some lv' := by rw [cell_of o.hlb.2.2]; rfl
    have hsl := o.lq.slR
    rw [List.nil_append] at hsl
    obtain ⟨h6, e6, m6, w6⟩ := x56 (k := 2000) (v0 := .slice ta tn tc) (n0 := S) (h := h) (h1 := h5) (v := lv') (by
      rw [start, asB_bool, show (!true) = false from rfl, ifB_false, d22, hcl]; rfl) (by obtain ⟨x, y, z, hz⟩ := hsl.isSl; rw [hz]; rfl)
    refine ⟨lv', h6, e6, w6 x5, .inl ⟨m, hm, hsl.ext m6.ext, fun hne => ?_⟩⟩
    generalize hL : cellsN m = L at hsl
    cases hsl with
    | nil => cases m with
      | nil => exact absurd rfl hne
      | cons a t => cases hL
    | at_ hb hr hk hc hl hx => exact ⟨_, _, _, _, rfl⟩
  · obtain ⟨h6, e6, m6, w6⟩ := x56 (k := 2000) (v0 := .slice ta tn tc) (n0 := S) (h := h) (h1 := h5) (v := .slice none 0 0) (by
      rw [start, asB_bool, show (!false) = true from rfl, ifB_true]) rfl
    exact ⟨_, h6, e6, w6 x5, .inr ⟨rfl, hm⟩⟩

/-- Outer. -/
theorem s22 {v : Value} {g : List Nat} {h : H} (hg : GrN g) (h8 : g.length ≤ 8) (hs : SlR h 3 1 v (cellsN g)) :
    ∃ v' e h', rn 22 #[v] h = some (.tuple #[v', iv e], h') ∧ Exw h h' ∧ ((e = 0 ∧ ∃ m, Fits g [] (allN g) m ∧ SlR h' 3 1 v' (cellsN m)) ∨ (e = 4 ∧ v' = .slice none 0 0 ∧ ∀ m, ¬ Fits g [] (allN g) m)) := by
  have hval : valid8 (g.map Int.ofNat) = true := by unfold valid8; rw [valid_of2 hg]; simp [h8]
  have e46 := s46 (v := v) (l := g.map Int.ofNat) (h := h) (by rw [cellsN_eq]; exact hs)
  rw [if_pos hval] at e46
  obtain ⟨v5, h5, e5, x5, q⟩ := s56 hg.toGrB hs (allN_lt g)
  have start : f22 rn 0 v h = eqv Tryd.prog 22 v5 (.slice none 0 0) fun q1 => ifB q1 (some ((.tuple #[(.slice none 0 0), (.int .i64 4)]), h5)) (some ((.tuple #[v5, (.int .i64 0)]), h5)) := by
    unfold f22
    rw [calls_eq (xs := [v, iv 8]) e46, ext20, ext21, asB_bool, show (!true) = false from rfl, ifB_false, calls_eq (xs := [v]) (s57 hg.toGrB hs), asI_int, calls_eq (xs := [v, iv (allN g : Nat)]) e5]
  rcases q with ⟨m, hm, hsl, hne⟩ | ⟨rfl, hm⟩
  · have hm0 : m ≠ [] := by
      rintro rfl
      have := (hm.2.1 0).2 (by rw [allN_bit, decide_eq_true_iff]; exact hg.pos)
      simp at this
    obtain ⟨b, o, n, c, rfl⟩ := hne hm0
    obtain ⟨h6, e6, m6, w6⟩ := x22 (k := 0) (v0 := v) (h := h) (h1 := h5) (v := .tuple #[.slice (some ⟨b, o, none⟩) n c, iv 0]) (by
      rw [start]
      unfold eqv
      rw [some22]
      rfl) rfl
    exact ⟨_, 0, h6, e6, w6 x5.toExt, .inl ⟨rfl, m, hm, hsl.ext m6.ext⟩⟩
  · obtain ⟨h6, e6, m6, w6⟩ := x22 (k := 0) (v0 := v) (h := h) (h1 := h5) (v := .tuple #[.slice none 0 0, iv 4]) (by
      rw [start]
      unfold eqv
      rw [nil22]
      rfl) rfl
    exact ⟨_, 4, h6, e6, w6 x5.toExt, .inr ⟨rfl, rfl, hm⟩⟩

theorem s22_bad {v : Value} {l : List Int} {h : H} (hval : valid8 l = false) (hs : SlR h 3 1 v (cellsI l)) : rn 22 #[v] h = some (.tuple #[.slice none 0 0, iv 2], h) := by
  have e46 := s46 (v := v) (l := l) (h := h) hs
  rw [if_neg (by rw [hval]; simp)] at e46
  refine y22 (k := 0) ?_
  unfold f22
  rw [calls_eq (xs := [v, iv 8]) e46, ext20, ext21, asB_bool, show (!false) = true from rfl, ifB_true]

end Go.AM

end

section

/- Sets of nodes, edges that are laid, patterns. -/
namespace Go.AM
open Go.Proofs
variable {k : Nat} {R : Type}
attribute [local simp] nx_eq nx_new nx_set blk_new blk_set asI_int asK_int asB_bool asP_ptr al_eq bx_eq len_slice onE_exit onE_ret onR_ret Value.cells d3 d22 d23 cell_new cell_set rd_new rd_set off eq lt le ifB gv out
/-! ### Edges that are laid -/
def joinL (L : List Nat) (a b : Nat) : List Nat := (L.set a (nb L a ||| 2 ^ b)).set b (nb (L.set a (nb L a ||| 2 ^ b)) b ||| 2 ^ a)

/-- A row of small numbers that is one's own. -/
abbrev NA (h : H) (b : Nat) (v : Value) (L : List Nat) : Prop := IA h b v (L.map Int.ofNat)

theorem NA.at_ {h : H} {b : Nat} {v : Value} {L : List Nat} (a : NA h b v L) {i : Nat} (hi : i < L.length) : h.cell b i = some (iv (nb L i : Nat)) := by
  rw [cell_of a.row, List.getElem?_map, List.getElem?_map, List.getElem?_eq_getElem hi]
  unfold nb
  rw [List.getD_eq_getElem?_getD, List.getElem?_eq_getElem hi]
  rfl

theorem NA.set {h : H} {b : Nat} {v : Value} {L : List Nat} (a : NA h b v L) (i x : Nat) : NA (h.set b (.row (((L.map Int.ofNat).set i (x : Int)).map iv) 3 true)) b v (L.set i x) := by
  have := IA.set a i (x : Int)
  rw [show (L.map Int.ofNat).set i (x : Int) = (L.set i x).map Int.ofNat by rw [List.map_set]; rfl] at this ⊢
  exact this

theorem NA.slR {h : H} {b : Nat} {v : Value} {L : List Nat} (a : NA h b v L) : SlR h 3 1 v (cellsN L) := by
  have := IA.slR a
  rw [List.map_map] at this
  exact this

theorem s86 {v : Value} {L : List Nat} {b i j : Nat} {h : H} (a : NA h b v L) (hi : i < L.length) (hj : j < L.length) (hlt : ∀ x ∈ L, x < 1024) (hi10 : i < 10) (hj10 : j < 10) :
    ∃ h', rn 86 #[v, iv i, iv j] h = some (undef, h') ∧ NA h' b v (joinL L i j) ∧ h'.nx = h.nx ∧ ∀ q, q < h.nx → q ≠ b → h'.blk q = h.blk q := by
  have h2i : 2 ^ i < 2 ^ 10 := Nat.pow_lt_pow_right (by omega) hi10
  have h2j : 2 ^ j < 2 ^ 10 := Nat.pow_lt_pow_right (by omega) hj10
  have nbl : ∀ {L : List Nat} {i : Nat}, (∀ x ∈ L, x < 1024) → nb L i < 1024 := by
    intro L i h
    unfold nb
    rw [List.getD_eq_getElem?_getD]
    cases hc : L[i]? with
    | none => decide
    | some x => exact h x (List.mem_of_getElem? hc)
  have ll : (L.map Int.ofNat).length = L.length := List.length_map _
  let L1 := L.set i (nb L i ||| 2 ^ j)
  have hn1 : nb L i ||| 2 ^ j < 2 ^ 10 := Nat.or_lt_two_pow (nbl hlt) h2j
  have hlt1 : ∀ x ∈ L1, x < 1024 := fun x hx => by
    rcases List.mem_or_eq_of_mem_set hx with h | h
    · exact hlt x h
    · rw [h]; exact hn1
  have hor1 : AM.or .i64 ((nb L i : Nat) : Int) ((2 ^ j : Nat) : Int) = ((nb L i ||| 2 ^ j : Nat) : Int) := by
    have := nbl (i := i) hlt
    exact or_nat (by omega) (by omega)
  have hor2 : AM.or .i64 ((nb L1 j : Nat) : Int) ((2 ^ i : Nat) : Int) = ((nb L1 j ||| 2 ^ i : Nat) : Int) := by
    have := nbl (i := j) hlt1
    exact or_nat (by omega) (by omega)
  have w1 := IA.wrc a (i := i) (by rw [ll]; exact hi) ((nb L i ||| 2 ^ j : Nat) : Int)
  have a1 := a.set i (nb L i ||| 2 ^ j)
  have ll1 : (L1.map Int.ofNat).length = L.length := by rw [List.length_map, List.length_set]
  have hq1 : ∀ q, q < h.nx → q ≠ b → (h.set b (.row (((L.map Int.ofNat).set i ((nb L i ||| 2 ^ j : Nat) : Int)).map iv) 3 true)).blk q = h.blk q := fun q _ hq => blk_set_ne _ _ _ hq
  have hnx1 : (h.set b (.row (((L.map Int.ofNat).set i ((nb L i ||| 2 ^ j : Nat) : Int)).map iv) 3 true)).nx = h.nx := rfl
  have c1 := a.at_ hi
  generalize h.set b (.row (((L.map Int.ofNat).set i ((nb L i ||| 2 ^ j : Nat) : Int)).map iv) 3 true) = h1 at *
  have c2 := a1.at_ (i := j) (by rw [List.length_set]; exact hj)
  have w2 := IA.wrc a1 (i := j) (by rw [ll1]; exact hj) ((nb L1 j ||| 2 ^ i : Nat) : Int)
  have a2 := a1.set j (nb L1 j ||| 2 ^ i)
  have hq2 : ∀ q, q < h.nx → q ≠ b → (h1.set b (.row (((L1.map Int.ofNat).set j ((nb L1 j ||| 2 ^ i : Nat) : Int)).map iv) 3 true)).blk q = h.blk q := fun q hq hb => by rw [blk_set_ne _ _ _ hb, hq1 q hq hb]
  have hnx2 : (h1.set b (.row (((L1.map Int.ofNat).set j ((nb L1 j ||| 2 ^ i : Nat) : Int)).map iv) 3 true)).nx = h.nx := hnx1
  generalize h1.set b (.row (((L1.map Int.ofNat).set j ((nb L1 j ||| 2 ^ i : Nat) : Int)).map iv) 3 true) = h2 at *
  obtain ⟨h3, e3, m3, _⟩ := x86 (k := 0) (v0 := v) (n0 := i) (n1 := j) (h := h) (h1 := h2) (v := undef) (by
    unfold f86
    simp only [d3, w3]
    rw [IA.put a (by omega) (by rw [Int.toNat_natCast, ll]; exact hi), Int.toNat_natCast, c1, Option.bind_some, asI_int, nn_ge (by omega), shl1_nat (by omega), hor1, IA.put a (by omega) (by rw [Int.toNat_natCast, ll]; exact hi), Int.toNat_natCast, w1, Option.bind_some]
    rw [IA.put a1 (by omega) (by rw [Int.toNat_natCast, ll1]; exact hj), Int.toNat_natCast, c2, Option.bind_some, asI_int, nn_ge (by omega), shl1_nat (by omega)]
    rw [show nb (L.set i (nb L i ||| 2 ^ j)) j = nb L1 j from rfl, hor2, IA.put a1 (by omega) (by rw [Int.toNat_natCast, ll1]; exact hj), Int.toNat_natCast, w2, Option.bind_some]) rfl
  exact ⟨h3, e3, IA.ext a2 m3.ext, by rw [m3.nx, hnx2], fun q hq hb => by rw [m3.blk]; exact hq2 q hq hb⟩

end Go.AM

end

section

/- K(4), and the search for a model. -/
namespace Go.AM
open Go.Proofs
variable {k : Nat} {R : Type}
attribute [local simp] nx_eq nx_new nx_set blk_new blk_set asI_int asK_int asB_bool asP_ptr al_eq bx_eq len_slice onE_exit onE_ret onR_ret Value.cells d3 d22 d23 cell_new cell_set rd_new rd_set off eq lt le ifB gv out
/-! ### K(4) -/
def k4 : List Nat := [14, 13, 11, 7]

theorem app84 : okApp Tryd.prog 84 3 1 = true := by kernel_rfl

end Go.AM

end

section

/- The search for a model of a pattern. -/
namespace Go.AM
open Go.Proofs
variable {k : Nat} {R : Type}
attribute [local simp] nx_eq nx_new nx_set blk_new blk_set asI_int asK_int asB_bool asP_ptr al_eq bx_eq len_slice onE_exit onE_ret onR_ret Value.cells d3 d22 d23 cell_new cell_set rd_new rd_set off eq lt le ifB gv out
theorem nil_pt (b o : Nat) (x : Option R) : nil (pt b o) x = x := rfl

section
variable {lo : Nat} {tv pv sv mv : Value} {g pat sets : List Nat} {sb : Nat} {M : List Nat} {h : H}
end
end Go.AM

end

section

/- Reduce. -/
namespace Go.AM
open Go.Proofs
variable {k : Nat} {R : Type}
attribute [local simp] eq lt le
theorem some84 (b o n c : Nat) : binOp Tryd.prog .eql 84 (.slice (some ⟨b, o, none⟩) n c) (.slice none 0 0) = some (.bool false) := by kernel_rfl

theorem bls84e (h : H) : buildSlice Tryd.prog 84 0 [] h = some (.slice (some ⟨h.nx, 0, none⟩) 0 0, h.new (.row [] 3 true)) := by kernel_rfl

theorem app39 : okApp Tryd.prog 39 95 4 = true := by kernel_rfl

theorem bls39 (a b c d : Int) (h : H) : buildSlice Tryd.prog 39 1 [(0, .agg #[iv a, iv b, iv c, iv d])] h = some (.slice (some ⟨h.nx, 0, none⟩) 1 1, h.new (.row [iv a, iv b, iv c, iv d] 95 true)) := by kernel_rfl

theorem kbld95 (a b c d : Int) (K : Value → Option R) : bld Tryd.prog 95 [(0, .int .i64 a), (1, .int .i64 b), (2, .int .i64 c), (3, .int .i64 d)] K = K (.agg #[iv a, iv b, iv c, iv d]) := bld_some (by kernel_rfl)

theorem kbld92 (a : Option Addr) (n c : Nat) (x : Int) (K : Value → Option R) : bld Tryd.prog 92 [(0, .slice a n c), (1, .int .i64 x)] K = K (.agg #[.slice a n c, iv x]) := bld_some (by kernel_rfl)

theorem s89 {v : Value} {g : List Nat} {h : H} (hs : SlR h 3 1 v (cellsN g)) (hg : g ≠ []) (hm : g.length < 1000) : ∃ v' h' b, rn 89 #[v] h = some (v', h') ∧ Exw h h' ∧ h.nx ≤ b ∧ NA h' b v' g := by
  obtain ⟨v', h', b, e, x, hb, hia, _⟩ := copy_ia app84 bls84e hs hg hm
  have hv : ∃ b o n c, v = .slice (some ⟨b, o, none⟩) n c := by
    generalize hC : cellsN g = C at hs
    cases hs with
    | nil => cases g with
      | nil => exact absurd rfl hg
      | cons a t => cases hC
    | at_ hb hr hk hc hl hx => exact ⟨_, _, _, _, rfl⟩
  obtain ⟨vb, vo, vn, vc, rfl⟩ := hv
  obtain ⟨h2, e2, m2, w2⟩ := x89 (k := 0) (v0 := .slice (some ⟨vb, vo, none⟩) vn vc) (h := h) (h1 := h') (v := v') (by
    unfold f89 eqv
    rw [some84]
    simp only []
    rw [ifB_false]
    exact e _) hia.slR.notR
  exact ⟨v', h2, b, e2, w2 x, hb, IA.ext hia m2.ext⟩

/-- A town that is being reduced. -/
structure RS (rb gb : Nat) (tv : Value) (G : List Nat) (left : Nat) (h : H) : Prop where
  lt : rb < h.nx
  row : h.blk rb = some (.row [tv, iv left] 92 true)
  na : NA h gb tv G

theorem RS.ext {rb gb : Nat} {tv : Value} {G : List Nat} {left : Nat} {h h' : H} (s : RS rb gb tv G left h) (x : Ext h h') : RS rb gb tv G left h' :=
  ⟨Nat.lt_of_lt_of_le s.lt x.nx, (x.blk _ s.lt).trans s.row, IA.ext s.na x⟩

theorem RS.ne {rb gb : Nat} {tv : Value} {G : List Nat} {left : Nat} {h : H} (s : RS rb gb tv G left h) : rb ≠ gb := by
  rintro rfl
  have := s.na.row
  rw [s.row] at this
  simp at this

theorem s48 {v : Value} {g : List Nat} {h : H} (hg : GrN g) (hs : SlR h 3 1 v (cellsN g)) : ∃ rb gb tv h', rn 48 #[v] h = some (pt rb 0, h') ∧ Exw h h' ∧ h.nx ≤ rb ∧ h.nx ≤ gb ∧ RS rb gb tv g (allN g) h' := by
  have hlen := hg.len
  have hpos := hg.pos
  obtain ⟨tv, h1, b, e1, x1, hb, na⟩ := s89 hs (by rintro rfl; simp at hpos) (by omega)
  have e2 := s57 hg.toGrB (hs.ext x1.toExt)
  obtain ⟨a, n, c, htv⟩ := na.slR.isSl
  have hbn := na.lt
  have x2 := Ext.new h1 (.row [tv, iv (allN g : Nat)] 92 true)
  have rs : RS h1.nx b tv g (allN g) (h1.new (.row [tv, iv (allN g : Nat)] 92 true)) := ⟨Nat.lt_succ_self _, blk_new_self _ _, IA.ext na x2⟩
  obtain ⟨h3, e3, m3, w3⟩ := x48 (k := 0) (v0 := v) (h := h) (h1 := h1.new (.row [tv, iv (allN g : Nat)] 92 true)) (v := pt h1.nx 0) (by
    unfold f48
    rw [calls_eq (xs := [v]) e1, calls_eq (xs := [v]) e2, asI_int, htv, kbld92, bx_eq, ← htv]
    rw [show (Value.agg #[tv, iv (allN g : Nat)]).cells.toList = [tv, iv (allN g : Nat)] from rfl]
    rfl) rfl
  exact ⟨h1.nx, b, tv, h3, e3, w3 (x1.toExt.trans x2), x1.nx, hb, rs.ext m3.ext⟩

/-! ### A step -/
def nearL (G : List Nat) (left v : Nat) : List Nat := elts (nb G v &&& left)

def stepI (L : List Nat) (v : Nat) : List Int := if L.length = 1 then [1, v, (L.getD 0 0 : Nat), -1] else if L.length = 2 then [2, v, (L.getD 0 0 : Nat), (L.getD 1 0 : Nat)] else [L.length, v, -1, -1]

def stepV (L : List Nat) (v : Nat) : Value := .agg ((stepI L v).map iv).toArray

theorem stepI_len (L : List Nat) (v : Nat) : ∃ a b c d, stepI L v = [a, b, c, d] ∧ a = L.length ∧ b = v ∧ (L.length = 2 → c = (L.getD 0 0 : Nat) ∧ d = (L.getD 1 0 : Nat)) := by
  unfold stepI
  by_cases h1 : L.length = 1
  · rw [if_pos h1]; exact ⟨_, _, _, _, rfl, by omega, rfl, fun h => by omega⟩
  · rw [if_neg h1]
    by_cases h2 : L.length = 2
    · rw [if_pos h2]; exact ⟨_, _, _, _, rfl, by omega, rfl, fun _ => ⟨rfl, rfl⟩⟩
    · rw [if_neg h2]; exact ⟨_, _, _, _, rfl, rfl, rfl, fun h => absurd h h2⟩

theorem wrc_row {c xs : List Value} {n e b : Nat} {h : H} (hb : h.blk b = some (.row c e true)) (hx : xs.length = n) (hc : c.length = n) (hs : xs.all scal = true) : wrc n h b 0 (.agg xs.toArray) = some (h.set b (.row xs e true)) := by
  unfold wrc
  rw [hb]
  have h1 : (Value.agg xs.toArray).cells = xs.toArray := rfl
  simp only [h1]
  have h2 : setAt c 0 xs = xs := by
    have := setAt_mid xs [] c [] (by omega)
    simpa using this
  simp only [List.size_toArray, h2, List.toList_toArray]
  rw [if_pos ⟨by omega, by omega, hs⟩]

theorem s50 {rb gb : Nat} {tv : Value} {G : List Nat} {left v : Nat} {h : H} (s : RS rb gb tv G left h) (hv : v < G.length) (hG : ∀ x ∈ G, x < 1024) (hleft : left < 1024) (hv10 : v < 10) :
    rn 50 #[pt rb 0, iv v] h = some (.tuple #[stepV (nearL G left v) v, .bool (decide ((nearL G left v).length ≤ 2))], h) := by
  let z4 : List Value := [iv 0, iv 0, iv 0, iv 0]
  let h1 := h.new (.row z4 95 true)
  have x1 : Ext h h1 := Ext.new h _
  have s1 := s.ext x1
  have hnbm : nb G v ∈ G := by
    unfold nb
    rw [List.getD_eq_getElem?_getD, List.getElem?_eq_getElem hv]
    exact List.getElem_mem hv
  have hnb := hG _ hnbm
  have hmask : nb G v &&& left < 1024 := Nat.lt_of_le_of_lt Nat.and_le_left hnb
  obtain ⟨nv, h2, e49, x2, hn2, hq2⟩ := s49 hmask h1
  have hll : (nearL G left v).length ≤ 10 := by unfold nearL; rw [elts_len]; exact pop_le_n (Nat.le_refl 10) hmask
  rw [show elts (nb G v &&& left) = nearL G left v from rfl] at hn2
  generalize hL : nearL G left v = L at *
  have hnl : ∀ {T : Type} (K : Int → Option T), len nv K = K (L.length : Int) := fun K => by rw [hn2.len]; simp
  have hand : AM.and .i64 ((nb G v : Nat) : Int) (left : Int) = ((nb G v &&& left : Nat) : Int) := and_nat (by omega) (by omega)
  have gt : ∀ (K : Value → Option (Value × H)), (six tv (v : Int) 1 fun b o => (h1.cell b o).bind K) = K (iv (nb G v : Nat)) := fun K => getN s1.na.slR hv K
  -- the answer's own row
  let r0 : List Value := [iv (L.length : Nat), iv v, iv (-1), iv (-1)]
  let h4 := h2.fresh 95 z4 r0
  have x4 : Ext h2 h4 := (Ext.refl h2).fresh 95 _ _
  have b4 : h4.blk h2.nx = some (.row r0 95 true) := blk_fresh _ _ _ _
  have hn1 : h1.nx = h.nx + 1 := rfl
  have x2n := x2.nx
  have b0 : h4.blk h.nx = some (.row z4 95 true) := (x4.blk _ (by omega)).trans ((x2.blk _ (by omega)).trans (blk_new_self _ _))
  have x04 : Ext h h4 := (x1.trans x2.toExt).trans x4
  have h4n : h4.nx = h2.nx + 1 := rfl
  -- its copy into the result
  have fin : ∀ (h5 : H) (xs : List Value), Ext h h5 → h5.nx = h4.nx → h5.blk h2.nx = some (.row xs 95 true) → xs.length = 4 → xs.all scal = true → h5.blk h.nx = some (.row z4 95 true) → ∃ h6, Ext h h6 ∧
      (ld Tryd.prog h5 95 h2.nx 0 fun v7 => st Tryd.prog h5 95 h.nx 0 v7 fun h6 => ld Tryd.prog h6 95 h.nx 0 fun v8 => some (Value.tuple #[v8, Value.bool (le (L.length : Int) 2)], h6)) = some (Value.tuple #[.agg xs.toArray, .bool (decide (L.length ≤ 2))], h6) := by
    intro h5 xs x5 hn5 hb hx hsc hb0
    have hle : AM.le (L.length : Int) 2 = decide (L.length ≤ 2) := by unfold AM.le; rw [decide_eq_decide]; omega
    refine ⟨h5.set h.nx (.row xs 95 true), ⟨by rw [nx_set]; exact x5.nx, fun b hb' => by rw [blk_set_ne _ _ _ (by omega)]; exact x5.blk b hb'⟩, ?_⟩
    rw [d95, rd_all hb hx, Option.bind_some, w95, wrc_row hb0 hx rfl hsc, Option.bind_some, d95, rd_all (blk_set_self _ _ _) hx, Option.bind_some, hle]
  have e0 : ∀ {i x : Nat}, L[i]? = some x → ∃ b o, b < h2.nx ∧ (h4.cell b o = some (iv x)) ∧ ∀ {T : Type} (K : Nat → Nat → Option T), six nv (i : Int) 1 K = K b o := by
    intro i x hx
    obtain ⟨b, o, cs, own, q1, q2, q3, q4, q5, q6⟩ := hn2.six (i := (i : Int)) (by omega) (x := [iv x]) (by simp [hx])
    refine ⟨b, o, q1, ?_, q6⟩
    rw [cell_of ((x4.blk _ q1).trans q2)]
    have := q5 0 (by omega)
    simpa using this
  have start : ∀ (K : Value → H → Option (Value × H)), True := fun _ => trivial
  have hpl : ∀ xs : List Int, xs.length = 4 → plainO (.tuple #[.agg (xs.map iv).toArray, .bool (decide (L.length ≤ 2))]) = true := by
    intro xs hx
    match xs, hx with
    | [a, b, c, d], _ => rfl
  obtain ⟨h6, x6, e6⟩ : ∃ h6, Ext h h6 ∧ f50 rn 0 (pt rb 0) v h = some (.tuple #[stepV L v, .bool (decide (L.length ≤ 2))], h6) := by
    have hal : ∀ (K : H → Option (Value × H)), (al h2 95 [iv 0, iv 0, iv 0, iv 0] fun h3 => st Tryd.prog h3 95 h2.nx 0 (.agg #[iv (L.length : Nat), iv v, iv (-1), iv (-1)]) K) = K h4 := fun K => al_st (P := Tryd.prog) (h := h2) (zs := z4) (xs := r0) (t := 95) (K := K) sz95 rfl rfl
    unfold f50
    rw [al_eq, nil_pt, asP_ptr]
    rw [show h.new (.row [(.int .i64 0), (.int .i64 0), (.int .i64 0), (.int .i64 0)] 95 true) = h1 from rfl]
    simp only [nil_pt, asP_ptr, d3, d84, nx_eq]
    rw [show h1.cell rb 0 = some tv by rw [cell_of s1.row]; rfl, Option.bind_some, gt, asI_int, show AM.off 0 1 = 1 from rfl, show h1.cell rb 1 = some (iv left) by rw [cell_of s1.row]; rfl, Option.bind_some, asI_int, hand, calls_eq (xs := [iv (nb G v &&& left : Nat)]) e49, hnl, kbld95]
    rw [hal, hnl]
    by_cases h1' : L.length = 1
    · obtain ⟨a, ha⟩ : ∃ a, L[0]? = some a := ⟨_, List.getElem?_eq_getElem (by omega)⟩
      obtain ⟨b, o, q1, q2, q3⟩ := e0 ha
      have w5 : wrc 1 h4 h2.nx 2 (iv a) = some (h4.set h2.nx (.row [iv (L.length : Nat), iv v, iv a, iv (-1)] 95 true)) := by rw [wrc_one b4 rfl rfl (by simp [r0])]; rfl
      obtain ⟨h6, x6, e6⟩ := fin (h4.set h2.nx (.row [iv (L.length : Nat), iv v, iv a, iv (-1)] 95 true)) [iv (L.length : Nat), iv v, iv a, iv (-1)] ⟨by rw [nx_set]; exact x04.nx, fun b hb => by rw [blk_set_ne _ _ _ (by omega)]; exact x04.blk b hb⟩ rfl (blk_set_self _ _ _) rfl rfl (by rw [blk_set_ne _ _ _ (by omega)]; exact b0)
      refine ⟨h6, x6, ?_⟩
      have q3' := q3 (T := Value × H)
      rw [show AM.eq (L.length : Int) 1 = true by simp [h1'], ifB_true]
      rw [show ((0 : Nat) : Int) = 0 from rfl] at q3'
      rw [q3', q2, Option.bind_some, asI_int, show AM.off 0 2 = 2 from rfl, w3, w5, Option.bind_some]
      simp only [hnl]
      rw [e6]
      unfold stepV stepI
      rw [if_pos h1', getD_of ha, h1']; rfl
    · rw [show AM.eq (L.length : Int) 1 = false by simp; omega, ifB_false]
      by_cases h2' : L.length = 2
      · obtain ⟨a, ha⟩ : ∃ a, L[0]? = some a := ⟨_, List.getElem?_eq_getElem (by omega)⟩
        obtain ⟨c, hc⟩ : ∃ a, L[1]? = some a := ⟨_, List.getElem?_eq_getElem (by omega)⟩
        obtain ⟨b, o, q1, q2, q3⟩ := e0 ha
        obtain ⟨b', o', p1, p2, p3⟩ := e0 hc
        have w5 : wrc 1 h4 h2.nx 2 (iv a) = some (h4.set h2.nx (.row [iv (L.length : Nat), iv v, iv a, iv (-1)] 95 true)) := by rw [wrc_one b4 rfl rfl (by simp [r0])]; rfl
        have w6 : wrc 1 (h4.set h2.nx (.row [iv (L.length : Nat), iv v, iv a, iv (-1)] 95 true)) h2.nx 3 (iv c) = some ((h4.set h2.nx (.row [iv (L.length : Nat), iv v, iv a, iv (-1)] 95 true)).set h2.nx (.row [iv (L.length : Nat), iv v, iv a, iv c] 95 true)) := by rw [wrc_one (blk_set_self _ _ _) rfl rfl (by simp)]; rfl
        obtain ⟨h6, x6, e6⟩ := fin ((h4.set h2.nx (.row [iv (L.length : Nat), iv v, iv a, iv (-1)] 95 true)).set h2.nx (.row [iv (L.length : Nat), iv v, iv a, iv c] 95 true)) [iv (L.length : Nat), iv v, iv a, iv c] ⟨by rw [nx_set, nx_set]; exact x04.nx, fun b hb => by rw [blk_set_ne _ _ _ (by omega), blk_set_ne _ _ _ (by omega)]; exact x04.blk b hb⟩ rfl (blk_set_self _ _ _) rfl rfl (by rw [blk_set_ne _ _ _ (by omega), blk_set_ne _ _ _ (by omega)]; exact b0)
        refine ⟨h6, x6, ?_⟩
        have q3' := q3 (T := Value × H)
        have p3' := p3 (T := Value × H)
        rw [show AM.eq (L.length : Int) 2 = true by simp [h2'], ifB_true]
        rw [show ((0 : Nat) : Int) = 0 from rfl] at q3'
        rw [show ((1 : Nat) : Int) = 1 from rfl] at p3'
        rw [q3', q2, Option.bind_some, asI_int, p3', p2, Option.bind_some, asI_int, show AM.off 0 2 = 2 from rfl, w3, w5, Option.bind_some]
        rw [show fre b' h4.nx o' 1 h2.nx 2 1 = true by unfold fre; rw [decide_eq_true (by omega), decide_eq_true (.inl (by omega))]; rfl, ck_true, show AM.off 0 3 = 3 from rfl, w3, w6, Option.bind_some]
        simp only [hnl]
        rw [e6]
        unfold stepV stepI
        rw [if_neg h1', if_pos h2', getD_of ha, getD_of hc, h2']; rfl
      · obtain ⟨h6, x6, e6⟩ := fin h4 r0 x04 rfl b4 rfl rfl b0
        refine ⟨h6, x6, ?_⟩
        rw [show AM.eq (L.length : Int) 2 = false by simp; omega, ifB_false]
        simp only [hnl]
        rw [e6]
        unfold stepV stepI
        rw [if_neg h1', if_neg h2']; rfl
  refine p50 (k := 0) (h1 := h6) e6 ?_ x6
  obtain ⟨a, b, c, d, e, _⟩ := stepI_len L v
  unfold stepV
  exact hpl _ (by rw [e]; rfl)

end Go.AM

end
