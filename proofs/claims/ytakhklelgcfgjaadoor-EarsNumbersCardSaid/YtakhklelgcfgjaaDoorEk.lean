/- Blocks, the walk. -/
import Derived.Test.YtakhklelgcfgjaaDoorEj
import Derived.Test.YtakhklelgcfgjaaDoorF5
namespace Go.AM
open Go.Proofs

variable {R : Type}

attribute [local simp] nx_eq nx_new nx_set blk_new blk_set asI_int asK_int asB_bool asP_ptr al_eq bx_eq len_slice onE_exit onE_ret onR_ret Value.cells d3 d22 d23 d32 d78 w3 w32 cell_new cell_set rd_new rd_set off eq lt le ifB gv out ext20 ext21

/-- A loop that appends what passes a test. -/
theorem lp_filter {α : Type} {F : List Value → H → Option (Ex × List Value × H)} {k : Nat} {l : List α} {h0 : H} (p : α → Bool) (f : α → Nat) (jv : Nat → Value) (oj : Nat) (hk : l.length < k)
    (fin : ∀ sv g, Ext h0 g → F [sv, jv l.length] g = some (.exit oj, [sv, jv l.length], g))
    (step : ∀ i x sv g, l[i]? = some x → Ext h0 g → ∃ g', Ext g g' ∧ F [sv, jv i] g = if p x = true then (bls Tryd.prog g' 22 1 [(0, iv (f x : Nat))] fun v5 h5 => app Tryd.prog h5 22 22 sv v5 fun v6 h6 => some (.normal, [v6, jv (i + 1)], h6)) else some (.normal, [sv, jv (i + 1)], g'))
    {acc : List Nat} {sv : Value} {h : H} (x0 : Ext h0 h) (hap : AqR h0.nx h 3 1 sv (cellsN acc)) (hl : acc.length + l.length < 2 ^ 25) :
    ∃ sv' h', lpGo F k [sv, jv 0] h = some (.exit oj, [sv', jv l.length], h') ∧ Ext h0 h' ∧ AqR h0.nx h' 3 1 sv' (cellsN (acc ++ (l.filter p).map f)) := by
  obtain ⟨ws', h', hl', xg, hll, sv', hap', rfl⟩ := lp_for (F := F) (k := k) (l := l) (fun _ x acc => if p x = true then acc ++ [f x] else acc)
    (fun i acc' ws h' => Ext h0 h' ∧ acc'.length ≤ acc.length + i ∧ ∃ sv, AqR h0.nx h' 3 1 sv (cellsN acc') ∧ ws = [sv, jv i]) oj (ws := [sv, jv 0]) (h := h) (s0 := acc)
    ⟨x0, by omega, sv, hap, rfl⟩ hk
    (by
      rintro acc' ws g ⟨xg, _, sv, _, rfl⟩
      exact fin sv g xg)
    (by
      rintro i x acc' ws g hx ⟨xg, hal, sv, hap1, rfl⟩
      have hi := (List.getElem?_eq_some_iff.1 hx).1
      obtain ⟨g', x', hF⟩ := step i x sv g hx xg
      by_cases hp : p x = true
      · rw [if_pos hp] at hF ⊢
        obtain ⟨sv', h2, e2, a2, n2, k2, b2, hb2, hb2'⟩ := (hap1.ext x').push app22 app22 (bls22 (f x : Int)) rfl rfl (by rw [List.length_map]; omega) (xg.trans x').nx
        rw [hF, e2]
        refine ⟨_, _, rfl, ⟨by have := (xg.trans x').nx; omega, fun b hb => ?_⟩, by simp; omega, sv', ?_, rfl⟩
        · rw [k2 b (by have := (xg.trans x').nx; omega) (fun e => by have := ((hap1.ext x').blkOf e).1; omega)]
          exact (xg.trans x').blk b hb
        · have : cellsN (acc' ++ [f x]) = cellsN acc' ++ [[iv (f x : Int)]] := by simp
          rw [this]; exact a2
      · rw [if_neg hp] at hF ⊢
        rw [hF]
        exact ⟨_, _, rfl, xg.trans x', by omega, sv, hap1.ext x', rfl⟩)
  rw [foldI_filter] at hap'
  exact ⟨sv', h', hl', xg, hap'⟩

theorem s93 {S : Nat} (hS : S < 1024) (h : H) : rn 93 #[iv S] h = some (iv (pop S : Nat), h) := by
  refine p93 (k := 0) (h1 := h) ?_ rfl (.refl _)
  unfold f93
  rw [wr64u hS, calls_eq (xs := [.int .u64 S]) (s109 hS h), asI_int]

/-- The document's count. -/
theorem s43 {S : Nat} (hS : S < 1024) (h : H) : rn 43 #[iv S] h = some (iv (pop S : Nat), h) := by
  obtain ⟨e, ws', h', hl, rfl, rfl, w, rfl⟩ := lpGo_inv (F := f43_l1 rn 2000)
    (fun d ws g => g = h ∧ ∃ (x c : Nat), ws = [iv c, iv x] ∧ d = x ∧ x < 1024 ∧ c + pop x = pop S)
    (fun e ws g => e = .exit 0 ∧ g = h ∧ ∃ w, ws = [iv (pop S : Nat), w])
    (by
      rintro d ws g ⟨rfl, x, c, rfl, rfl, hx, hc⟩
      have hcp : c ≤ 10 := by
        have := pop_le_n (Nat.le_refl 10) hS
        omega
      by_cases hx0 : d = 0
      · subst hx0
        have : pop 0 = 0 := by decide
        refine ⟨.exit 0, [iv c, iv 0], g, by simp [f43_l1], .inr ⟨by simp, rfl, rfl, iv 0, ?_⟩⟩
        rw [show c = pop S by omega]
      · have h0 : 0 < d := Nat.pos_of_ne_zero hx0
        obtain ⟨h1, h2⟩ := elts_next h0 hx
        have hsub : sub .i64 (d : Int) 1 = ((d - 1 : Nat) : Int) := by rw [sub64 (by omega) (by omega)]; omega
        have hand : AM.and .i64 (d : Int) ((d - 1 : Nat) : Int) = ((d &&& (d - 1) : Nat) : Int) := and_nat (by omega) (by omega)
        have hadd : add .i64 (c : Int) 1 = ((c + 1 : Nat) : Int) := by rw [add64 (by omega) (by omega)]; omega
        have hpop : pop d = pop (d &&& (d - 1)) + 1 := by rw [← elts_len, ← elts_len, h1]; rfl
        refine ⟨.normal, [iv ((c + 1 : Nat) : Int), iv (d &&& (d - 1) : Nat)], g, ?_, .inl ⟨rfl, d &&& (d - 1), h2, rfl, _, _, rfl, rfl, by omega, by omega⟩⟩
        unfold f43_l1
        simp only [gv, List.getD_cons_succ, List.getD_cons_zero, asI_int, hsub, hand, hadd]
        rw [show AM.lt (0 : Int) (d : Int) = true by simp; omega, ifB_true]
        rfl)
    S 2000 (by omega) ⟨rfl, S, 0, rfl, rfl, hS, by omega⟩
  refine p43 (k := 2000) (h1 := h') ?_ rfl (.refl _)
  unfold f43
  exact (lp_eq hl).trans rfl

/-- Two slices of numbers: are they the same? -/
theorem s40 {v0 v1 : Value} {a b : List Nat} {h : H} (ha : SlR h 3 1 v0 (cellsN a)) (hb : SlR h 3 1 v1 (cellsN b)) : rn 40 #[v0, v1] h = some (.bool (decide (a = b)), h) := by
  have hla := ha.lt62
  rw [List.length_map] at hla
  have hn0 : ∀ {T : Type} (K : Int → Option T), len v0 K = K (a.length : Int) := fun K => by rw [ha.len]; simp
  have hn1 : ∀ {T : Type} (K : Int → Option T), len v1 K = K (b.length : Int) := fun K => by rw [hb.len]; simp
  by_cases hlen : a.length = b.length
  · have hlp := lp_all (F := f40_l1 rn (a.length + 1) v0 v1 a.length) (k := a.length + 1) (l := a) (h := h) (fun i => [.bool false, iv i])
      (fun i x => decide (b[i]? = some x)) (fun i => [.bool false, iv i]) 0 [.bool false, iv a.length] (ws := [.bool false, iv 0]) rfl (by omega)
      (by simp [f40_l1])
      (by
        intro i x hx
        have hi := (List.getElem?_eq_some_iff.1 hx).1
        have hy := List.getElem?_eq_getElem (show i < b.length by omega)
        have hadd : add .i64 (i : Int) 1 = (i : Int) + 1 := add64 (by omega) (by omega)
        generalize b[i] = y at hy
        have e1 : ∀ (K : Value → Option (Ex × List Value × H)), (six v0 (i : Int) 1 fun b o => (h.cell b o).bind K) = K (iv x) := fun K => ha.c0 (by omega) (x := [iv x]) (by simp [hx]) rfl K
        have e2 : ∀ (K : Value → Option (Ex × List Value × H)), (six v1 (i : Int) 1 fun b o => (h.cell b o).bind K) = K (iv y) := fun K => hb.c0 (by omega) (x := [iv y]) (by simp [hy]) rfl K
        rw [hy]
        by_cases hxy : y = x
        · subst hxy; simp [f40_l1, hi, e1, e2, hadd]
        · have : ¬ (x : Int) = (y : Int) := by omega
          simp [f40_l1, hi, e1, e2, hxy, this])
    rcases hlp with ⟨i, x, hx, hf, _, hl⟩ | ⟨hall, hl⟩
    · have hne : a ≠ b := fun e => by subst e; rw [hx] at hf; simp at hf
      rw [decide_eq_false hne]
      refine p40 (k := a.length + 1) (h1 := h) ?_ rfl (.refl _)
      simp only [f40, hn0, hn1]
      rw [show AM.eq (a.length : Int) (b.length : Int) = true by simp [hlen], show (!true) = false from rfl, ifB_false]
      refine (lp_eq hl).trans ?_
      simp
    · have he : a = b := List.ext_getElem? fun i => by
        by_cases hi : i < a.length
        · have h1 := List.getElem?_eq_getElem hi
          have := hall i _ h1
          rw [h1]; exact (of_decide_eq_true this).symm
        · rw [List.getElem?_eq_none (by omega), List.getElem?_eq_none (by omega)]
      rw [decide_eq_true he]
      refine p40 (k := a.length + 1) (h1 := h) ?_ rfl (.refl _)
      simp only [f40, hn0, hn1]
      rw [show AM.eq (a.length : Int) (b.length : Int) = true by simp [hlen], show (!true) = false from rfl, ifB_false]
      refine (lp_eq hl).trans ?_
      simp
  · have hne : a ≠ b := fun e => hlen (by rw [e])
    rw [decide_eq_false hne]
    refine p40 (k := 0) (h1 := h) ?_ rfl (.refl _)
    simp [f40, hn0, hn1]
    omega

/-- Is there an element with a property? -/
theorem s108 {v : Value} {F cb : Nat} {L : List Nat} {p : Nat → Bool} {h : H} (hs : SlR h 3 1 v (cellsN L)) (hm : L.length < 2 ^ 20)
    (hp : ∀ e ∈ L, rn F #[iv e, pt cb 0] h = some (.bool (p e), h)) :
    ∃ i : Int, rn 108 #[v, .func (.func F) #[] #[pt cb 0]] h = some (iv i, h) ∧ (0 ≤ i ↔ L.any p = true) := by
  have hn : ∀ {T : Type} (K : Int → Option T), len v K = K (L.length : Int) := fun K => by rw [hs.len]; simp
  have hlp := lp_all (F := f108_l1 rn (2 ^ 21) v (.func (.func F) #[] #[pt cb 0]) L.length) (k := 2 ^ 21) (l := L) (h := h) (fun i => [iv 0, iv i])
    (fun _ x => !p x) (fun i => [iv i, iv i]) 0 [iv 0, iv L.length] (ws := [iv 0, iv 0]) rfl (by omega)
    (by simp [f108_l1])
    (by
      intro i x hx
      have hi := (List.getElem?_eq_some_iff.1 hx).1
      have hadd : add .i64 (i : Int) 1 = (i : Int) + 1 := add64 (by omega) (by omega)
      have e1 : ∀ (K : Value → Option (Ex × List Value × H)), (six v (i : Int) 1 fun b o => (h.cell b o).bind K) = K (iv x) := fun K => hs.c0 (by omega) (x := [iv x]) (by simp [hx]) rfl K
      have cF := fun (K : Value → H → Option (Ex × List Value × H)) => calls_eq (K := K) (xs := [iv x, pt cb 0]) (hp x (List.mem_of_getElem? hx))
      unfold f108_l1
      rw [show AM.gv [iv 0, iv i] 1 = iv i from rfl, asI_int, lt_t (by omega), ifB_true, asK_int]
      simp only [d3]
      rw [e1, asI_int, callsV_eq]
      rw [show (#[] : Array Value).toList ++ [Value.int .i64 x] ++ (#[pt cb 0] : Array Value).toList = [iv x, pt cb 0] from rfl, cF, asB_bool]
      cases p x <;> simp [hadd])
  rcases hlp with ⟨i, x, hx, hf, hbe, hl⟩ | ⟨hall, hl⟩
  · refine ⟨i, ?_, fun _ => ?_, fun _ => by omega⟩
    · refine p108 (k := 2 ^ 21) (h1 := h) ?_ rfl (.refl _)
      unfold f108
      rw [hn]
      exact (lp_eq hl).trans rfl
    · rw [List.any_eq_true]
      exact ⟨x, List.mem_of_getElem? hx, by simpa using hf⟩
  · refine ⟨-1, ?_, fun hc => by omega, fun hc => ?_⟩
    · refine p108 (k := 2 ^ 21) (h1 := h) ?_ rfl (.refl _)
      unfold f108
      rw [hn]
      exact (lp_eq hl).trans rfl
    · obtain ⟨x, hx, hpx⟩ := List.any_eq_true.1 hc
      obtain ⟨i, hi, rfl⟩ := List.getElem_of_mem hx
      have := hall i _ (List.getElem?_eq_getElem hi)
      rw [hpx] at this
      cases this

theorem s91 {v : Value} {F cb : Nat} {L : List Nat} {p : Nat → Bool} {h : H} (hs : SlR h 3 1 v (cellsN L)) (hm : L.length < 2 ^ 20)
    (hp : ∀ e ∈ L, rn F #[iv e, pt cb 0] h = some (.bool (p e), h)) : rn 91 #[v, .func (.func F) #[] #[pt cb 0]] h = some (.bool (L.any p), h) := by
  obtain ⟨i, e, hi⟩ := s108 hs hm hp
  refine p91 (k := 0) (h1 := h) ?_ rfl (.refl _)
  unfold f91
  rw [calls_eq (xs := [v, .func (.func F) #[] #[pt cb 0]]) e, asI_int]
  have : AM.le 0 i = L.any p := by
    rw [Bool.eq_iff_iff, ← hi, AM.le, decide_eq_true_iff]
  rw [this]

/-- Does another set contain this one? The closure. -/
def overQ (b x : Nat) : Bool := decide (x ≠ b) && decide (without b x = 0)

theorem s107 {q b x : Nat} {h : H} (hb : b < 1024) (hx : x < 1024) (hq : h.cell q 0 = some (iv b)) : rn 107 #[iv x, pt q 0] h = some (.bool (overQ b x), h) := by
  have hcalc : AM.andNot .i64 (b : Int) (x : Int) = ((without b x : Nat) : Int) := andNot_nat (by omega) (by omega)
  refine p107 (k := 0) (h1 := h) ?_ rfl (.refl _)
  unfold f107
  simp only [asP_ptr, d3, hq, Option.bind_some, asI_int, hcalc]
  unfold overQ
  by_cases h1 : x = b
  · subst h1; simp
  · have : AM.eq (x : Int) (b : Int) = false := by simp; omega
    rw [this, decide_eq_true h1]
    by_cases h2 : without b x = 0
    · rw [h2]; rfl
    · have : AM.eq ((without b x : Nat) : Int) 0 = false := by simp; omega
      rw [this, decide_eq_false h2]; rfl

/-! ### The program's blocks -/

/-- A lone node, or a set of more that is connected without a cut node. -/
noncomputable def cand2 (g : List Nat) (S : Nat) : Bool := decide (1 < pop S) && connS g S && decide (cutsP g S = 0)
noncomputable def loneQ (g : List Nat) (S : Nat) : Bool := decide (pop S = 1) && decide (nb g (low S) = 0)
noncomputable def candQ (g : List Nat) (S : Nat) : Bool := loneQ g S || cand2 g S

noncomputable def candsP (g : List Nat) : List Nat := ((List.range (allN g)).map (· + 1)).filter (candQ g)
/-- All blocks, rising. -/
noncomputable def blocksP (g : List Nat) : List Nat := (candsP g).filter fun b => !(candsP g).any (overQ b)

theorem mem_cands {g : List Nat} {S : Nat} : S ∈ candsP g ↔ 0 < S ∧ S < 2 ^ g.length ∧ candQ g S = true := by
  have := Nat.two_pow_pos g.length
  unfold candsP allN
  rw [List.mem_filter, List.mem_map]
  constructor
  · rintro ⟨⟨i, hi, rfl⟩, h⟩
    have := List.mem_range.1 hi
    exact ⟨by omega, by omega, h⟩
  · rintro ⟨h1, h2, h3⟩
    exact ⟨⟨S - 1, List.mem_range.2 (by omega), by omega⟩, h3⟩

theorem cands_len {g : List Nat} (hg : GrB g) : (candsP g).length ≤ 1023 := by
  have := hg.pow
  unfold candsP
  refine Nat.le_trans (List.length_filter_le _ _) ?_
  unfold allN
  simp
  omega

set_option maxHeartbeats 1000000 in
theorem s90 {tv : Value} {g : List Nat} {h : H} (hg : GrB g) (hs : SlR h 3 1 tv (cellsN g)) :
    ∃ v' h', rn 90 #[tv] h = some (v', h') ∧ Exw h h' ∧ SlR h' 3 1 v' (cellsN (blocksP g)) := by
  have hlen := hg.len
  have hpow := hg.pow
  have hp2 := Nat.two_pow_pos g.length
  have hall : allN g < 1024 := by have := allN_lt g; omega
  obtain ⟨sv1, h1, hl1, x1, hap1⟩ := lp_filter (F := f90_l1 rn 200000 tv) (k := 200000) (l := (List.range (allN g)).map (· + 1)) (h0 := h) (candQ g) id (fun i => iv ((i + 1 : Nat) : Int)) 0 (by simp; omega)
    (by
      intro sv g' xg
      have c65 := fun (K : Value → H → Option (Ex × List Value × H)) => calls_eq (K := K) (xs := [tv]) (s65 hg (hs.ext xg))
      have : ¬ ((allN g : Int) + 1 ≤ (allN g : Int)) := by omega
      simp [f90_l1, c65, this])
    (by
      intro i S sv g' hx xg
      obtain ⟨j, hj, rfl⟩ : ∃ j, i < allN g ∧ S = i + 1 := by
        rw [List.getElem?_map] at hx
        obtain ⟨j, hj, rfl⟩ := Option.map_eq_some_iff.1 hx
        obtain ⟨h1, rfl⟩ := range_get hj
        exact ⟨0, h1, rfl⟩
      have hsg := hs.ext xg
      have hS : i + 1 < 2 ^ g.length := by have := allN_lt g; omega
      have hS' : i + 1 < 1024 := by omega
      obtain ⟨S, hSe⟩ : ∃ S, S = i + 1 := ⟨_, rfl⟩
      rw [← hSe] at hS hS' ⊢
      have c65 := fun (K : Value → H → Option (Ex × List Value × H)) => calls_eq (K := K) (xs := [tv]) (s65 hg hsg)
      have c93 := fun (K : Value → H → Option (Ex × List Value × H)) => calls_eq (K := K) (xs := [iv S]) (s93 hS' g')
      have c89 := fun (K : Value → H → Option (Ex × List Value × H)) => calls_eq (K := K) (xs := [.int .u64 S]) (s89 (by omega) hS' g')
      have hlow := low_lt hg hS (by omega)
      have e2 := fun (K : Value → Option (Ex × List Value × H)) => getN hsg hlow K
      have c64 := fun (K : Value → H → Option (Ex × List Value × H)) => calls_eq (K := K) (xs := [tv, iv S]) (s64 hg hsg hS)
      have c70 := fun (K : Value → H → Option (Ex × List Value × H)) => calls_eq (K := K) (xs := [tv, iv S]) (s70 hg hsg hS)
      have hadd : add .i64 (S : Int) 1 = ((S + 1 : Nat) : Int) := by rw [add64 (by omega) (by omega)]; omega
      have hle : (S : Int) ≤ (allN g : Int) := by omega
      refine ⟨g', .refl _, ?_⟩
      unfold f90_l1 candQ loneQ cand2
      rw [show AM.gv [sv, iv S] 1 = iv S from rfl, show AM.gv [sv, iv S] 0 = sv from rfl]
      simp only [c65, asI_int, c93, wr64u hS', c89, d3, e2, c64, asB_bool, c70, hadd, id_eq]
      rw [show AM.le (S : Int) (allN g : Int) = true by simp; omega, ifB_true]
      by_cases h1 : pop S = 1
      · rw [h1, show AM.eq ((1 : Nat) : Int) 1 = true from rfl, ifB_true, show AM.lt 1 ((1 : Nat) : Int) = false from rfl, ifB_false]
        by_cases h2 : nb g (low S) = 0
        · rw [h2, show AM.eq ((0 : Nat) : Int) 0 = true from rfl, ifB_true]
          simp
        · rw [show AM.eq (nb g (low S) : Int) 0 = false by simp; omega, ifB_false]
          simp [h2]
      · rw [show AM.eq (pop S : Int) 1 = false by simp; omega, ifB_false]
        by_cases h2 : 1 < pop S
        · rw [show AM.lt 1 (pop S : Int) = true by simp; omega, ifB_true]
          cases h3 : connS g S with
          | false => simp [h1, h2]
          | true =>
            by_cases h4 : cutsP g S = 0
            · rw [h4]; simp [h1, h2]
            · rw [ifB_true, show AM.eq (cutsP g S : Int) 0 = false by simp; omega, ifB_false]
              simp [h1, h2, h4]
        · rw [show AM.lt 1 (pop S : Int) = false by simp; omega, ifB_false]
          simp [h1, h2])
    (acc := []) (sv := .slice none 0 0) (h := h) (.refl _) .nil (by simp; omega)
  rw [List.nil_append, List.map_id_fun, id_eq] at hap1
  have hs1 := hap1.slR
  have hcl := cands_len hg
  have hn1 : ∀ {T : Type} (K : Int → Option T), len sv1 K = K ((candsP g).length : Int) := fun K => by
    rw [hs1.len, List.length_map]; rfl
  obtain ⟨sv2, h2, hl2, x2, hap2⟩ := lp_filter (F := f90_l2 rn 200000 [sv1, iv (((List.range (allN g)).map (· + 1)).length + 1 : Nat)] (candsP g).length) (k := 200000) (l := candsP g) (h0 := h1) (fun b => !(candsP g).any (overQ b)) id (fun i => iv (i : Int)) 2 (by omega)
    (by
      intro sv g' xg
      simp [f90_l2])
    (by
      intro i b sv g' hx xg
      have hi := (List.getElem?_eq_some_iff.1 hx).1
      obtain ⟨hb0, hb1, hb2⟩ := mem_cands.1 (List.mem_of_getElem? hx)
      have hsg := hs1.ext xg
      have e1 : ∀ (K : Value → Option (Ex × List Value × H)), (six sv1 (i : Int) 1 fun b o => (g'.cell b o).bind K) = K (iv b) := fun K => hsg.c0 (by omega) (x := [iv b]) (by
        have : (cellsN (candsP g))[i]? = some [iv b] := by simp [hx]
        exact this) rfl K
      obtain ⟨g3, hg3⟩ : ∃ g3, g3 = (g'.new (.row [.int .i64 0] 3 true)).set g'.nx (.row [iv b] 3 true) := ⟨_, rfl⟩
      have hb3 : g3.blk g'.nx = some (.row [iv b] 3 true) := by rw [hg3]; exact blk_set_self _ _ _
      have x3 : Ext g' g3 := by rw [hg3]; exact ((Ext.refl g').new' _).set (Nat.le_refl _) _
      have hc3 : g3.cell g'.nx 0 = some (iv b) := by rw [cell_of hb3]; rfl
      have w2 : ∀ (K : H → Option (Ex × List Value × H)), (wrc 1 (g'.new (.row [.int .i64 0] 3 true)) g'.nx 0 (iv b)).bind K = K g3 := fun K => by
        rw [wrc_one (blk_new_self _ _) rfl rfl (by simp), hg3]; rfl
      have c91 := fun (K : Value → H → Option (Ex × List Value × H)) => calls_eq (K := K) (xs := [sv1, .func (.func 107) #[] #[pt g'.nx 0]]) (s91 (F := 107) (cb := g'.nx) (p := overQ b) (hsg.ext x3) (by
        show (candsP g).length < 2 ^ 20; omega) (fun e he => by
        obtain ⟨_, h5, _⟩ := mem_cands.1 he
        exact s107 (by omega) (by omega) hc3))
      have hadd : add .i64 (i : Int) 1 = ((i + 1 : Nat) : Int) := by rw [add64 (by omega) (by omega)]; omega
      refine ⟨g3, x3, ?_⟩
      unfold f90_l2
      rw [show AM.gv [sv, iv i] 1 = iv i from rfl, show AM.gv [sv, iv i] 0 = sv from rfl, asI_int, lt_t (by omega), ifB_true, asK_int]
      simp only [gv, List.getD_cons_zero, d3, e1, asI_int, al_eq, w3, nx_eq, w2, c91, asB_bool, hc3, Option.bind_some, hadd, id_eq]
      have : (List.filter (candQ g) (List.map (fun x => x + 1) (List.range (allN g)))).any (overQ b) = (candsP g).any (overQ b) := rfl
      rw [this]
      cases (candsP g).any (overQ b) <;> simp)
    (acc := []) (sv := .slice none 0 0) (h := h1) (.refl _) .nil (by simp; omega)
  rw [List.nil_append, List.map_id_fun, id_eq] at hap2
  obtain ⟨h3, e3, m3, w3'⟩ := x90 (k := 200000) (v0 := tv) (h := h) (h1 := h2) (v := sv2) (by
    unfold f90
    refine (lp_eq hl1).trans ?_
    rw [onE_exit, if_pos rfl]
    simp only [gv, List.getD_cons_zero, hn1]
    refine (lp_eq hl2).trans ?_
    rfl) hap2.slR.notR
  exact ⟨sv2, h3, e3, w3' (x1.trans x2), hap2.slR.ext m3.ext⟩

end Go.AM
