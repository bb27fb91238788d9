/- Rounds that keep a bound, and the walks. -/
import Derived.Test.YtnhmgokjijlhbaaSi
import Derived.Test.YtnhmgokjijlhbaaF7
namespace Go.AM
open Go.Proofs Go.Lives

/-! ### Rounds that keep a bound -/

noncomputable def sweepsB (gl : List Nat) (l : List Int) (b : Int) : Bool := by
  classical
  exact isRoundP gl.length 20000 l && decide (∀ (i n : Nat), gl[i]? = some n → ∃ m : Nat, 1 ≤ m ∧ ((m * n : Nat) : Int) ≤ b ∧ Win (l.map Int.toNat) i m)

theorem sweepsB_iff {gl : List Nat} {l : List Int} {b : Int} : sweepsB gl l b = true ↔ isRoundP gl.length 20000 l = true ∧ ∀ (i n : Nat), gl[i]? = some n → ∃ m : Nat, 1 ≤ m ∧ ((m * n : Nat) : Int) ≤ b ∧ Win (l.map Int.toNat) i m := by
  unfold sweepsB
  simp

theorem sweeps_keeps {gl : List Nat} (hg : GrowI gl) {r : List Nat} {b : Nat} (hb : ∀ n ∈ gl, n ≤ b) (hk : KeepsR (divL gl b) r) (hl : r.length ≤ 20000) : sweepsB gl (nI r) b = true := by
  obtain ⟨h1, h2, h3⟩ := hk
  rw [sweepsB_iff]
  unfold isRoundP
  rw [Bool.and_eq_true, decide_eq_true_iff, List.all_eq_true, toNat_nI]
  refine ⟨⟨⟨by rw [List.length_map]; exact List.length_pos_iff.2 h1, by simpa using hl⟩, fun x hx => ?_⟩, fun i n hi => ?_⟩
  · obtain ⟨y, hy, rfl⟩ := List.mem_map.1 hx
    have := h2 y hy
    simp only [divL, List.length_map] at this
    simp
    omega
  · have hn := hg.rng n (List.mem_of_getElem? hi)
    have hnb := hb n (List.mem_of_getElem? hi)
    refine ⟨b / n, (Nat.le_div_iff_mul_le (by omega)).2 (by omega), ?_, h3 i (b / n) ?_⟩
    · have := Nat.div_mul_le_self b n
      exact_mod_cast this
    · unfold divL
      rw [List.getElem?_map, hi]; rfl

theorem sweeps_feas {gl : List Nat} (hg : GrowI gl) {l : List Int} {b : Nat} (h : sweepsB gl l b = true) : feas gl b := by
  rw [sweepsB_iff] at h
  obtain ⟨h1, h2⟩ := h
  obtain ⟨r, rfl, hrne, hrl, hrt⟩ := isRound_nI h1
  rw [toNat_nI] at h2
  have hle : ∀ n ∈ gl, n ≤ b := fun n hn => by
    obtain ⟨i, hi⟩ := List.getElem?_of_mem hn
    obtain ⟨m, hm1, hm2, _⟩ := h2 i n hi
    have h3 : m * n ≤ b := by exact_mod_cast hm2
    have : n ≤ m * n := Nat.le_mul_of_pos_left n hm1
    omega
  refine (feas_keeps hg.rng).2 ⟨hle, r, hrne, fun x hx => by simp only [divL, List.length_map]; exact hrt x hx, fun i m hi => ?_⟩
  obtain ⟨n, hn, rfl⟩ := divL_get hi
  obtain ⟨m', hm1, hm2, hw⟩ := h2 i n hn
  have h3 : m' * n ≤ b := by exact_mod_cast hm2
  have hn1 := hg.rng n (List.mem_of_getElem? hn)
  exact hw.mono ((Nat.le_div_iff_mul_le (by omega)).2 h3)

/-! ### The walks -/

variable {R : Type}

attribute [local simp] nx_eq nx_new nx_set blk_new blk_set asI_int asK_int asB_bool asP_ptr al_eq bx_eq len_slice onE_exit onE_ret onR_ret Value.cells d3 d22 d31 d60 d69 d70 w70 w60 w3 w22 cell_new cell_set rd_new rd_set off eq lt le ifB gv out eqF1 eqF2 eqF3 eqF4 eqF5 eqF6 eqF7 eqF8 ext20 ext21

theorem s95 {v : Value} {x0 : Int} {l : List Int} {h : H} (hs : SlR h 3 1 v (cellsI (x0 :: l))) (hlen : l.length < 100000) : rn 95 #[v] h = some (iv (minP (x0 :: l)), h) := by
  refine p95 (k := 200010) (h1 := h) ?_ rfl (.refl _)
  have hn : ∀ {T : Type} (K : Int → Option T), len v K = K ((l.length + 1 : Nat) : Int) := fun K => by rw [hs.len, List.length_map, List.length_cons]
  have hl := lp_same (ρ := Empty) (F := f95_l1 rn 200010 v) (k := 200010) (l := l) (h := h) (fun i st => [iv st, iv ((i : Int) + 1)])
    (fun _ x st => .inl (imin st x)) (fun _ _ => True) (fun _ => .ret) (fun _ => []) 0 (fun st => [iv st, iv ((l.length : Int) + 1)]) (ws := [iv x0, iv 1]) (s0 := x0) rfl trivial (by omega) (by simp)
    (fun _ _ => by simp [f95_l1, hn])
    (by
      intro i x st hx _
      have hi := (List.getElem?_eq_some_iff.1 hx).1
      refine ⟨fun _ _ => trivial, ?_⟩
      have g1 : ∀ (K : Value → Option (Ex × List Value × H)), (six v ((i : Int) + 1) 1 fun b o => (h.cell b o).bind K) = K (iv x) := fun K => hs.c0 (by omega) (x := [iv x]) (by rw [show ((i : Int) + 1).toNat = i + 1 by omega]; simp [hx]) rfl K
      have hadd : add .i64 ((i : Int) + 1) 1 = (i : Int) + 1 + 1 := add64 (by omega) (by omega)
      simp [f95_l1, hn, show i < l.length by omega, g1, rnd, hadd])
  rw [itL_inl (fun _ x st => imin st x), foldI_l (fun st x => imin st x)] at hl
  have g0 : ∀ (K : Value → Option (Value × H)), (six v 0 1 fun b o => (h.cell b o).bind K) = K (iv x0) := fun K => hs.c0 (by omega) (x := [iv x0]) rfl rfl K
  simp [f95, hn, g0, lp_eq hl.1, minP, show ¬ ((l.length : Int) + 1 < 1) by omega]

theorem s96 {v : Value} {x0 : Int} {l : List Int} {h : H} (hs : SlR h 3 1 v (cellsI (x0 :: l))) (hlen : l.length < 100000) : rn 96 #[v] h = some (iv (maxP (x0 :: l)), h) := by
  refine p96 (k := 200010) (h1 := h) ?_ rfl (.refl _)
  have hn : ∀ {T : Type} (K : Int → Option T), len v K = K ((l.length + 1 : Nat) : Int) := fun K => by rw [hs.len, List.length_map, List.length_cons]
  have hl := lp_same (ρ := Empty) (F := f96_l1 rn 200010 v) (k := 200010) (l := l) (h := h) (fun i st => [iv st, iv ((i : Int) + 1)])
    (fun _ x st => .inl (imax st x)) (fun _ _ => True) (fun _ => .ret) (fun _ => []) 0 (fun st => [iv st, iv ((l.length : Int) + 1)]) (ws := [iv x0, iv 1]) (s0 := x0) rfl trivial (by omega) (by simp)
    (fun _ _ => by simp [f96_l1, hn])
    (by
      intro i x st hx _
      have hi := (List.getElem?_eq_some_iff.1 hx).1
      refine ⟨fun _ _ => trivial, ?_⟩
      have g1 : ∀ (K : Value → Option (Ex × List Value × H)), (six v ((i : Int) + 1) 1 fun b o => (h.cell b o).bind K) = K (iv x) := fun K => hs.c0 (by omega) (x := [iv x]) (by rw [show ((i : Int) + 1).toNat = i + 1 by omega]; simp [hx]) rfl K
      have hadd : add .i64 ((i : Int) + 1) 1 = (i : Int) + 1 + 1 := add64 (by omega) (by omega)
      simp [f96_l1, hn, show i < l.length by omega, g1, rnd, hadd])
  rw [itL_inl (fun _ x st => imax st x), foldI_l (fun st x => imax st x)] at hl
  have g0 : ∀ (K : Value → Option (Value × H)), (six v 0 1 fun b o => (h.cell b o).bind K) = K (iv x0) := fun K => hs.c0 (by omega) (x := [iv x0]) rfl rfl K
  simp [f96, hn, g0, lp_eq hl.1, maxP, show ¬ ((l.length : Int) + 1 < 1) by omega]

/-- Are numbers growths? -/
def growP (l : List Int) : Bool := decide (1 ≤ l.length ∧ l.length ≤ 4) && l.all fun x => decide (1 ≤ x ∧ x ≤ 5)

theorem grow_nI {l : List Int} (h : growP l = true) : ∃ gl : List Nat, l = nI gl ∧ GrowI gl ∧ l.take 14 = l := by
  simp only [growP, Bool.and_eq_true, decide_eq_true_eq, List.all_eq_true] at h
  obtain ⟨⟨h1, h2⟩, h3⟩ := h
  have hl : l = nI (l.map Int.toNat) := by
    show l = List.map _ (List.map _ l)
    rw [List.map_map]
    conv => lhs; rw [← List.map_id l]
    apply List.map_congr_left
    intro x hx
    have := h3 x hx
    simp
    omega
  refine ⟨l.map Int.toNat, hl, ⟨by simpa using ⟨h1, h2⟩, fun x hx => ?_⟩, List.take_of_length_le (by omega)⟩
  obtain ⟨y, hy, rfl⟩ := List.mem_map.1 hx
  have := h3 y hy
  omega

theorem grow_take (l : List Int) : growP (l.take 14) = growP l := by
  rcases Nat.le_total l.length 14 with h | h
  · rw [List.take_of_length_le h]
  · unfold growP
    rw [List.length_take, Nat.min_eq_left h, decide_eq_false (by omega), decide_eq_false (by omega)]
    rfl

theorem s75 {v : Value} {l : List Int} {h : H} (hs : SlR h 3 1 v (cellsI l)) : rn 75 #[v] h = some (.bool (growP l), h) := by
  refine p75 (k := 0) (h1 := h) ?_ rfl (.refl _)
  have hn : ∀ {T : Type} (K : Int → Option T), len v K = K (l.length : Int) := fun K => by rw [hs.len, List.length_map]
  cases l with
  | nil => simp [f75, hn, growP]
  | cons x0 l =>
    have h1 : (1 : Int) ≤ ((x0 :: l).length : Nat) := by simp only [List.length_cons]; omega
    by_cases h5 : (x0 :: l).length ≤ 4
    · have hll : l.length < 100000 := by simp only [List.length_cons] at h5; omega
      have c1 := fun (K : Value → H → Option (Value × H)) => calls_eq (K := K) (xs := [_]) (s95 hs hll)
      have c2 := fun (K : Value → H → Option (Value × H)) => calls_eq (K := K) (xs := [_]) (s96 hs hll)
      have hne : x0 :: l ≠ [] := by simp
      have h5' : (((x0 :: l).length : Nat) : Int) ≤ 4 := by omega
      have h1' : 1 ≤ (x0 :: l).length := by omega
      generalize x0 :: l = L at *
      have hall : L.all (fun x => decide (1 ≤ x ∧ x ≤ 5)) = (decide (1 ≤ minP L) && decide (maxP L ≤ 5)) := by
        rw [Bool.eq_iff_iff, List.all_eq_true, Bool.and_eq_true, decide_eq_true_iff, decide_eq_true_iff, min_iff hne, max_iff hne]
        constructor
        · intro h
          exact ⟨fun y hy => by have := h y hy; simp at this; omega, fun y hy => by have := h y hy; simp at this; omega⟩
        · rintro ⟨h2, h3⟩ y hy
          have := h2 y hy
          have := h3 y hy
          simp
          omega
      have hL1 : decide (1 ≤ L.length ∧ L.length ≤ 4) = true := by simp; omega
      unfold growP
      rw [hall, hL1]
      by_cases q1 : 1 ≤ minP L
      · simp [f75, hn, h1, h5', c1, c2, q1, h1', h5]
      · simp [f75, hn, h1, h5', c1, q1, h1', h5]
    · have h5' : ¬ (((x0 :: l).length : Nat) : Int) ≤ 4 := by omega
      have hL1 : decide (1 ≤ (x0 :: l).length ∧ (x0 :: l).length ≤ 4) = false := by
        rw [decide_eq_false_iff_not]; omega
      unfold growP
      rw [hL1]
      generalize x0 :: l = L at *
      simp [f75, hn, h1, h5', h5]

theorem s44 {v : Value} {l : List Int} {h : H} (hs : SlR h 3 1 v (cellsI l)) : rn 44 #[v] h = some (.bool (growP l), h) := by
  have hlen := hs.lt62
  rw [List.length_map] at hlen
  have hn : ∀ {T : Type} (K : Int → Option T), len v K = K (l.length : Int) := fun K => by rw [hs.len, List.length_map]
  refine p44 (k := l.length + 1) (h1 := h) ?_ rfl (.refl _)
  have hlp := lp_same (ρ := Nat) (F := f44_l1 rn (l.length + 1) v l.length) (k := l.length + 1) (l := l) (h := h) (fun i (_ : Unit) => [.bool false, iv i])
    (fun i x s => if decide (1 ≤ x ∧ x ≤ 5) = true then .inl s else .inr i) (fun _ _ => True) (fun _ => .ret) (fun i => [.bool false, iv i]) 0 (fun _ => [.bool false, iv l.length]) (ws := [.bool false, iv 0]) (s0 := ()) rfl trivial (by omega) (by simp)
    (fun _ _ => by simp [f44_l1])
    (by
      intro i x _ hx _
      have hi := (List.getElem?_eq_some_iff.1 hx).1
      refine ⟨fun _ _ => trivial, ?_⟩
      have e1 : ∀ (K : Value → Option (Ex × List Value × H)), (six v (i : Int) 1 fun b o => (h.cell b o).bind K) = K (iv x) := fun K => hs.c0 (by omega) (x := [iv x]) (by simp [hx]) rfl K
      have hadd : add .i64 (i : Int) 1 = (i : Int) + 1 := add64 (by omega) (by omega)
      by_cases h0 : x < 1
      · simp [f44_l1, hi, e1, h0, show ¬ 1 ≤ x by omega, rnd]
      · by_cases h2 : 5 < x
        · simp [f44_l1, hi, e1, h0, h2, show ¬ x ≤ 5 by omega, rnd]
        · simp [f44_l1, hi, e1, h0, h2, show 1 ≤ x by omega, show x ≤ 5 by omega, hadd, rnd])
  rcases itL_all (σ := Unit) (ρ := Nat) (ok := fun _ (x : Int) => decide (1 ≤ x ∧ x ≤ 5)) (g := fun i _ => i) (s0 := ()) l 0 with ⟨⟨x, hx⟩, j, y, hj, hf⟩ | ⟨hx, hall⟩
  · rw [hx] at hlp
    have : growP l = false := by
      have : (l.all fun x => decide (1 ≤ x ∧ x ≤ 5)) = false := by
        rw [List.all_eq_false]
        exact ⟨y, List.mem_of_getElem? hj, by rw [hf]; simp⟩
      unfold growP
      rw [this, Bool.and_false]
    rw [this]
    simp [f44, hn, lp_eq hlp]
  · rw [hx] at hlp
    have hall' : (l.all fun x => decide (1 ≤ x ∧ x ≤ 5)) = true := by
      rw [List.all_eq_true]
      intro x hx
      obtain ⟨j, hj⟩ := List.getElem?_of_mem hx
      exact hall j x hj
    have : growP l = decide (1 ≤ l.length ∧ l.length ≤ 4) := by
      unfold growP
      rw [hall', Bool.and_true]
    rw [this]
    have c1 : (1 ≤ (l.length : Int)) = (1 ≤ l.length) := propext (by omega)
    have c5 : ((l.length : Int) ≤ 4) = (l.length ≤ 4) := propext (by omega)
    by_cases q1 : 1 ≤ l.length <;> by_cases q5 : l.length ≤ 4 <;> simp [f44, hn, lp_eq hlp.1, c1, c5, q1, q5]

theorem nil69 : binOp Try.prog .eql 69 (.slice none 0 0) (.slice none 0 0) = some (.bool true) := by kernel_rfl
theorem some69 (b o n c : Nat) : binOp Try.prog .eql 69 (.slice (some ⟨b, o, none⟩) n c) (.slice none 0 0) = some (.bool false) := by kernel_rfl
theorem app69 : okApp Try.prog 69 3 1 = true := by kernel_rfl
theorem bls69 (z : Int) (h : H) : buildSlice Try.prog 69 1 [(0, .int .i64 z)] h = some (.slice (some ⟨h.nx, 0, none⟩) 1 1, h.new (.row [iv z] 3 true)) := by kernel_rfl

/-- The tasks of a bound; nil: some growth is above it. -/
theorem s97 {v : Value} {gl : List Nat} {b : Nat} {h : H} (hs : SlR h 3 1 v (cellsI (nI gl))) (hg : GrowI gl) (hb : b < 2 ^ 40) :
    ∃ v' h', rn 97 #[v, iv b] h = some (v', h') ∧ Ext h h' ∧ ((¬ (∀ n ∈ gl, n ≤ b) ∧ v' = .slice none 0 0) ∨ ((∀ n ∈ gl, n ≤ b) ∧ ∃ bb, IA h' bb v' (nI (divL gl b)))) := by
  have hlen := hg.len
  have hn : ∀ {T : Type} (K : Int → Option T), len v K = K (gl.length : Int) := fun K => by rw [hs.len]; simp
  obtain ⟨e, ws', h', hlp, hm⟩ := lp_rel (σ := Unit) (ρ := Unit) (F := f97_l1 rn 200010 v b gl.length) (k := 200010) (l := gl) (fun _ n s => if decide (n ≤ b) = true then .inl s else .inr ())
    (fun i _ ws g => Ext h g ∧ ∃ sv, AqR h.nx g 3 1 sv (cellsI (nI (divL (gl.take i) b))) ∧ ws = [.slice none 0 0, sv, iv i]) (fun _ e ws g => e = .ret ∧ Ext h g ∧ ∃ w1 w2, ws = [.slice none 0 0, w1, w2]) 0 (ws := [.slice none 0 0, .slice none 0 0, iv 0]) (h := h) (s0 := ())
    ⟨.refl _, _, .nil, rfl⟩ (by omega)
    (by
      rintro _ ws g ⟨_, sv, _, rfl⟩
      simp [f97_l1])
    (by
      rintro i n _ ws g hx ⟨xg, sv, hap, rfl⟩
      have hi := (List.getElem?_eq_some_iff.1 hx).1
      have hn1 := hg.rng n (List.mem_of_getElem? hx)
      have e1 := fun (K : Value → Option (Ex × List Value × H)) => nI_get (hs.ext xg) hx K
      have hadd : add .i64 (i : Int) 1 = (i : Int) + 1 := add64 (by omega) (by omega)
      have hq : quo .i64 (b : Int) (n : Int) = ((b / n : Nat) : Int) := quo_nat (by omega)
      have hnz : ∀ (x : Option (Ex × List Value × H)), nz (n : Int) x = x := fun x => nz_ne (by omega) x
      by_cases hnb : n ≤ b
      · have hlt : ¬ (b : Int) < (n : Int) := by omega
        obtain ⟨v', g3, e9, a9, n9, k9, b9, hb9, hb9'⟩ := hap.push app69 app69 (bls69 ((b / n : Nat) : Int)) rfl rfl (by simp [divL]; omega) xg.nx
        refine ⟨.normal, [.slice none 0 0, v', iv ((i : Int) + 1)], g3, ?_, ?_⟩
        · have ee : ∀ (K : Value → H → Option (Ex × List Value × H)), (bls Try.prog g 69 1 [(0, iv ((b / n : Nat) : Int))] fun y h2 => app Try.prog h2 69 69 sv y K) = K v' g3 := fun K => e9 K
          simp only [f97_l1, AM.gv, List.getD_cons_succ, List.getD_cons_zero, asI_int, lt_t (show (i : Int) < gl.length by omega), ifB_true, asK_int, d3, e1, lt_f hlt, ifB_false, hnz, hq]
          rw [ee]
          simp [hadd]
        · simp only [decide_eq_true hnb, if_true, true_and]
          refine ⟨⟨by have := xg.nx; omega, fun q hq => ?_⟩, v', ?_, rfl⟩
          · rw [k9 q (by have := xg.nx; omega) (fun e => by have := (hap.blkOf e).1; omega)]
            exact xg.blk q hq
          · have er : cellsI (nI (divL (gl.take (i + 1)) b)) = cellsI (nI (divL (gl.take i) b)) ++ [[iv ((b / n : Nat) : Int)]] := by
              unfold divL
              rw [List.take_add_one, hx]
              simp
            rw [er]
            exact a9
      · have hlt : (b : Int) < (n : Int) := by omega
        refine ⟨.ret, [.slice none 0 0, sv, iv i], g, ?_, ?_⟩
        · simp [f97_l1, hi, e1, hlt]
        · simp only [decide_eq_false hnb, Bool.false_eq_true, if_false]
          exact ⟨by simp, by simp, xg, _, _, rfl⟩)
  rcases itL_all (σ := Unit) (ρ := Unit) (ok := fun _ (n : Nat) => decide (n ≤ b)) (g := fun _ _ => ()) (s0 := ()) gl 0 with ⟨⟨x, hx⟩, j, y, hj, hf⟩ | ⟨hx, hall⟩
  · rw [hx] at hm
    obtain ⟨_, rfl, xg, w1, w2, rfl⟩ := hm
    refine ⟨.slice none 0 0, h', x97 (k := 200010) ?_ rfl, xg, .inl ⟨fun hc => ?_, rfl⟩⟩
    · simp [f97, hn, lp_eq hlp]
    · have := hc y (List.mem_of_getElem? hj)
      rw [decide_eq_true this] at hf
      cases hf
  · rw [hx] at hm
    obtain ⟨rfl, xg, sv, hap, rfl⟩ := hm
    rw [List.take_length] at hap
    obtain ⟨bb, _, _, ia⟩ := hap.ia (by
      intro e
      have := congrArg List.length e
      simp only [divL, List.length_map, List.length_nil] at this
      omega)
    refine ⟨sv, h', x97 (k := 200010) ?_ ia.slR.notR, xg, .inr ⟨fun n hn => ?_, bb, ia⟩⟩
    · simp [f97, hn, lp_eq hlp]
    · obtain ⟨j, hj⟩ := List.getElem?_of_mem hn
      have := hall j n hj
      simpa using this

end Go.AM
