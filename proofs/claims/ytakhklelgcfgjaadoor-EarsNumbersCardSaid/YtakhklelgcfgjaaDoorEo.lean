/- Blocks and cactus: the laws. -/
import Derived.Test.YtakhklelgcfgjaaDoorEm
import Derived.Test.YtakhklelgcfgjaaDoorEn
namespace Go.AM
open Go.Proofs

variable {R : Type}

attribute [local simp] nx_eq nx_new nx_set blk_new blk_set asI_int asK_int asB_bool asP_ptr al_eq bx_eq len_slice onE_exit onE_ret onR_ret Value.cells d3 d22 d23 d32 d78 w3 w32 cell_new cell_set rd_new rd_set off eq lt le ifB gv out ext20 ext21

theorem keqv4 (a b : Bool) (K : Bool → Option R) : eqv Tryd.prog 4 (.bool a) (.bool b) K = K (a == b) := by
  have : binOp Tryd.prog .eql 4 (.bool a) (.bool b) = some (.bool (a == b)) := by
    cases a <;> cases b <;> kernel_rfl
  unfold eqv
  rw [this]

theorem quo2 {n : Nat} (h : n < 2 ^ 60) : quo .i64 (n : Int) 2 = ((n / 2 : Nat) : Int) := by
  have h1 : (n : Int).tdiv 2 = ((n / 2 : Nat) : Int) := rfl
  unfold quo
  rw [h1]
  exact wrap64 (by omega) (by omega)

theorem pop_and_le (a b : Nat) : pop (a &&& b) ≤ 10 := Nat.le_trans List.countP_le_length (by simp)

theorem s92 {q b : Nat} {tv : Value} {g : List Nat} {h : H} (hg : GrB g) (hb : b < 2 ^ g.length) (hq : h.blk q = some (.row [tv] 78 true)) (hqn : q < h.nx) (hs : SlR h 3 1 tv (cellsN g)) :
    rn 92 #[iv b, pt q 0] h = some (.bool (fatQ g b), h) := by
  have hlen := hg.len
  have hpow := hg.pow
  have hb' : b < 1024 := by omega
  obtain ⟨nv, h1, e76, x1, hn⟩ := s76 hb' h
  have hel := elts_len b
  have hp10 := pop_le_n (Nat.le_refl 10) hb'
  have hnl : ∀ {T : Type} (K : Int → Option T), len nv K = K ((elts b).length : Int) := fun K => by rw [hn.len]; simp
  have hq1 : h1.cell q 0 = some tv := by rw [cell_of ((x1.blk q hqn).trans hq)]; rfl
  have hl := lp_same (σ := Nat) (ρ := Empty) (F := f92_l1 rn 200 b (pt q 0) nv (elts b).length) (k := 200) (l := elts b) (h := h1) (fun i s => [iv s, iv i])
    (fun _ v s => .inl (s + pop (nb g v &&& b))) (fun i s => s ≤ 10 * i) (fun _ => .ret) (fun _ => []) 0 (fun s => [iv s, iv (elts b).length]) (ws := [iv 0, iv 0]) (s0 := 0) rfl (by omega) (by omega) (by simp)
    (fun _ _ => by simp [f92_l1])
    (by
      intro i v s hx hI
      have hi := (List.getElem?_eq_some_iff.1 hx).1
      have hv : v < g.length := bit_lt hb ((mem_elts hb').1 (List.mem_of_getElem? hx))
      have hpl := pop_and_le (nb g v) b
      refine ⟨fun s' hs' => by cases hs'; omega, ?_⟩
      have e1 : ∀ (K : Value → Option (Ex × List Value × H)), (six nv (i : Int) 1 fun b o => (h1.cell b o).bind K) = K (iv v) := fun K => hn.c0 (by omega) (x := [iv v]) (by simp [hx]) rfl K
      have e2 := fun (K : Value → Option (Ex × List Value × H)) => getN (hs.ext x1.toExt) hv K
      have hand : AM.and .i64 (nb g v : Int) (b : Int) = ((nb g v &&& b : Nat) : Int) := and_nat (by have := hg.nb_lt v; omega) (by omega)
      have c93 := fun (K : Value → H → Option (Ex × List Value × H)) => calls_eq (K := K) (xs := [iv (nb g v &&& b : Nat)]) (s93 (Nat.and_lt_two_pow (n := 10) _ hb') h1)
      have hadd : add .i64 (i : Int) 1 = (i : Int) + 1 := add64 (by omega) (by omega)
      have hadd2 : add .i64 (s : Int) (pop (nb g v &&& b) : Int) = ((s + pop (nb g v &&& b) : Nat) : Int) := by rw [add64 (by omega) (by omega)]; omega
      unfold f92_l1
      simp only [gv, List.getD_cons_succ, List.getD_cons_zero, asI_int, lt_t (show (i : Int) < ((elts b).length : Int) by omega), ifB_true, asK_int, d3, e1, asP_ptr, d78, hq1, Option.bind_some, e2, hand, c93, hadd, hadd2]
      rfl)
  rw [itL_inl (fun _ v s => s + pop (nb g v &&& b))] at hl
  have hfe : foldI (fun _ v (s : Nat) => s + pop (nb g v &&& b)) (elts b) 0 0 = ends g b := rfl
  rw [hfe] at hl
  obtain ⟨hl, hI⟩ := hl
  have c93 := fun (K : Value → H → Option (Value × H)) => calls_eq (K := K) (xs := [iv b]) (s93 hb' h1)
  have hmul : mul .i64 2 (pop b : Int) = ((2 * pop b : Nat) : Int) := by rw [mul64 (by omega) (by omega)]; omega
  refine p92 (k := 200) (h1 := h1) ?_ rfl x1.toExt
  unfold f92
  rw [calls_eq (xs := [iv b]) e76, hnl]
  refine (lp_eq hl).trans ?_
  simp only [onE_exit, if_true, c93, asI_int, gv, List.getD_cons_zero, hmul]
  unfold fatQ
  by_cases hp : 2 < pop b
  · rw [show AM.lt 2 (pop b : Int) = true by simp; omega, ifB_true, decide_eq_true hp, Bool.true_and]
    have : AM.eq (ends g b : Int) ((2 * pop b : Nat) : Int) = decide (ends g b = 2 * pop b) := by rw [Bool.eq_iff_iff]; simp; omega
    rw [this]
    simp
  · rw [show AM.lt 2 (pop b : Int) = false by simp; omega, ifB_false, decide_eq_false hp, Bool.false_and]

/-- Is every edge in at most one cycle? -/
noncomputable def cactusP (g : List Nat) : Bool := !(blocksP g).any (fatQ g)

theorem blocks_lt {g : List Nat} {b : Nat} (hb : b ∈ blocksP g) : b < 2 ^ g.length := (mem_blocks.1 hb).1

theorem blocks_len {g : List Nat} (hg : GrB g) : (blocksP g).length ≤ 1023 := by
  have := cands_len hg
  unfold blocksP
  exact Nat.le_trans (List.length_filter_le _ _) this

theorem s45 {v : Value} {g : List Nat} {h : H} (hg : GrN g) (hval : validG (g.map Int.ofNat) = true) (hs : SlR h 3 1 v (cellsN g)) : rn 45 #[v] h = some (.tuple #[.bool (cactusP g), iv 0], h) := by
  have c63 := fun (K : Value → H → Option (Value × H)) => calls_eq (K := K) (xs := [v]) (s63 (l := g.map Int.ofNat) (h := h) (by rw [cellsN_eq]; exact hs))
  rw [if_pos hval] at c63
  obtain ⟨h1, hh1⟩ : ∃ h1, h1 = (h.new (.row [.slice none 0 0] 78 true)).set h.nx (.row [v] 78 true) := ⟨_, rfl⟩
  have x1 : Ext h h1 := by rw [hh1]; exact ((Ext.refl h).new' _).set (Nat.le_refl _) _
  have hb1 : h1.blk h.nx = some (.row [v] 78 true) := by rw [hh1]; exact blk_set_self _ _ _
  have hn1 : h1.nx = h.nx + 1 := by rw [hh1]; rfl
  have hw : ∀ (K : H → Option (Value × H)), (wrc 1 (h.new (.row [.slice none 0 0] 78 true)) h.nx 0 v).bind K = K h1 := fun K => by
    obtain ⟨a, n, c, rfl⟩ := hs.isSl
    rw [wrc_one (blk_new_self _ _) rfl rfl (by simp), hh1]; rfl
  obtain ⟨bv, h2, e90, x2, hbv⟩ := s90 hg.toGrB (hs.ext x1)
  have c90 := fun (K : Value → H → Option (Value × H)) => calls_eq (K := K) (xs := [v]) e90
  have hbl := blocks_len hg.toGrB
  have c91 := fun (K : Value → H → Option (Value × H)) => calls_eq (K := K) (xs := [bv, .func (.func 92) #[] #[pt h.nx 0]]) (s91 (F := 92) (cb := h.nx) (p := fatQ g) hbv (by omega) (fun e he =>
    s92 hg.toGrB (blocks_lt he) ((x2.blk _ (by omega)).trans hb1) (by have := x2.nx; omega) (hs.ext (x1.trans x2.toExt))))
  refine p45 (k := 0) (h1 := h2) ?_ rfl (x1.trans x2.toExt)
  unfold f45
  rw [c63, ext20, ext21, asB_bool, al_eq, w78, nx_eq, hw]
  rw [show (!true) = false from rfl, ifB_false, d78, cell_of hb1, show ([v] : List Value)[0]? = some v from rfl, Option.bind_some, c90, c91, asB_bool]
  rfl

theorem s45_bad {v : Value} {l : List Int} {h : H} (hval : validG l = false) (hs : SlR h 3 1 v (cellsI l)) : rn 45 #[v] h = some (.tuple #[.bool false, iv 2], h) := by
  have c63 := fun (K : Value → H → Option (Value × H)) => calls_eq (K := K) (xs := [v]) (s63 hs)
  rw [hval] at c63
  have x1 : Ext h ((h.new (.row [.slice none 0 0] 78 true)).set h.nx (.row [.slice none 0 0] 78 true)) := ((Ext.refl h).new' _).set (Nat.le_refl _) _
  refine p45 (k := 0) (h1 := (h.new (.row [.slice none 0 0] 78 true)).set h.nx (.row [.slice none 0 0] 78 true)) ?_ rfl x1
  unfold f45
  rw [c63, if_neg (by simp), ext20, ext21, asB_bool, al_eq, w78, nx_eq, wrc_one (blk_new_self _ _) rfl rfl (by simp), Option.bind_some, show (!false) = true from rfl, ifB_true]
  rfl

theorem filt_ends {g : List Nat} (hg : GrB g) {b : Nat} (hb : b < 2 ^ g.length) : foldI (fun _ v (s : Nat) => if b.testBit v = true then s + pop (nb g v &&& b) else s) (List.range g.length) 0 0 = ends g b := by
  rw [foldI_if (p := fun v => b.testBit v) (f := fun v => pop (nb g v &&& b)) _ 0 0, ← elts_n hg.len hb]
  rfl

/-- The ends in a set, as the document counts them. -/
theorem end_loop {tv : Value} {g : List Nat} {b : Nat} {h : H} (hg : GrB g) (hs : SlR h 3 1 tv (cellsN g)) (hb : b < 2 ^ g.length) {F : List Value → H → Option (Ex × List Value × H)}
    (hF : F = f47_l2 rn 200 tv b g.length ∨ F = f10_l2 rn 200 tv b g.length) : ∃ w, lpGo F 200 [iv 0, iv 0] h = some (.exit 2, [iv (ends g b : Nat), w], h) ∧ ends g b ≤ 100 := by
  have hlen := hg.len
  have hpow := hg.pow
  have hb' : b < 1024 := by omega
  have hl := lp_same (σ := Nat) (ρ := Empty) (F := F) (k := 200) (l := List.range g.length) (h := h) (fun i s => [iv s, iv i])
    (fun _ v s => .inl (if b.testBit v = true then s + pop (nb g v &&& b) else s)) (fun i s => s ≤ 10 * i) (fun _ => .ret) (fun _ => []) 2 (fun s => [iv s, iv g.length]) (ws := [iv 0, iv 0]) (s0 := 0) rfl (by omega) (by simp; omega) (by simp)
    (fun _ _ => by rw [List.length_range]; rcases hF with rfl | rfl <;> simp [f47_l2, f10_l2])
    (by
      intro i v s hx hI
      obtain ⟨hv, rfl⟩ := range_get hx
      have hpl := pop_and_le (nb g v) b
      refine ⟨fun s' hs' => by cases hs'; split <;> omega, ?_⟩
      have e2 := fun (K : Value → Option (Ex × List Value × H)) => getN hs hv K
      have hand : AM.and .i64 (nb g v : Int) (b : Int) = ((nb g v &&& b : Nat) : Int) := and_nat (by have := hg.nb_lt v; omega) (by omega)
      have c43 := fun (K : Value → H → Option (Ex × List Value × H)) => calls_eq (K := K) (xs := [iv (nb g v &&& b : Nat)]) (s43 (Nat.and_lt_two_pow (n := 10) _ hb') h)
      have hbit : AM.and .i64 (shr .i64 (b : Int) (v : Int)) 1 = if b.testBit v then 1 else 0 := bit_nat (by omega) (by omega)
      have hadd : add .i64 (v : Int) 1 = (v : Int) + 1 := add64 (by omega) (by omega)
      have hadd2 : add .i64 (s : Int) (pop (nb g v &&& b) : Int) = ((s + pop (nb g v &&& b) : Nat) : Int) := by rw [add64 (by omega) (by omega)]; omega
      rcases hF with rfl | rfl
      all_goals
        simp only [f47_l2, f10_l2, gv, List.getD_cons_succ, List.getD_cons_zero, asI_int, lt_t (show (v : Int) < (g.length : Int) by omega), ifB_true, asK_int, d3, e2, nn_ge (show (0 : Int) ≤ (v : Int) by omega), hbit, hand, hadd]
        cases hb : b.testBit v with
        | false => simp [rnd]
        | true =>
          simp only [if_true, show AM.eq (1 : Int) 1 = true from rfl, ifB_true, c43, asI_int, hadd2]
          rfl)
  rw [itL_inl (fun _ v s => if b.testBit v = true then s + pop (nb g v &&& b) else s), filt_ends hg hb] at hl
  have := hl.2
  rw [List.length_range] at this
  exact ⟨_, hl.1, by omega⟩

theorem s47 {v : Value} {g : List Nat} {h : H} (hg : GrN g) (hs : SlR h 3 1 v (cellsN g)) : rn 47 #[v] h = some (.bool (cactusP g), h) := by
  have hlen := hg.len
  have hpow := hg.pow
  obtain ⟨bv, h1, e46, x1, hbv⟩ := s46 hg hs
  have c46 := fun (K : Value → H → Option (Value × H)) => calls_eq (K := K) (xs := [v]) e46
  have hbl := blocks_len hg.toGrB
  have hs1 := hs.ext x1.toExt
  have hn : ∀ {T : Type} (K : Int → Option T), len v K = K (g.length : Int) := fun K => by rw [hs.len]; simp
  have hnb : ∀ {T : Type} (K : Int → Option T), len bv K = K ((blocksP g).length : Int) := fun K => by rw [hbv.len]; simp
  have hlp := lp_all (F := f47_l1 rn 2000 v bv (blocksP g).length) (k := 2000) (l := blocksP g) (h := h1) (fun i => [.bool false, iv i])
    (fun _ b => !fatQ g b) (fun i => [.bool false, iv i]) 0 [.bool false, iv (blocksP g).length] (ws := [.bool false, iv 0]) rfl (by omega)
    (by simp [f47_l1])
    (by
      intro i b hx
      have hi := (List.getElem?_eq_some_iff.1 hx).1
      have hbm := List.mem_of_getElem? hx
      have hb := blocks_lt hbm
      have e1 : ∀ (K : Value → Option (Ex × List Value × H)), (six bv (i : Int) 1 fun b o => (h1.cell b o).bind K) = K (iv b) := fun K => hbv.c0 (by omega) (x := [iv b]) (by simp [hx]) rfl K
      obtain ⟨w, hel, he⟩ := end_loop hg.toGrB hs1 hb (.inl rfl)
      have hel' : lpGo (f47_l2 rn 2000 v b g.length) 2000 [iv 0, iv 0] h1 = some (.exit 2, [iv (ends g b : Nat), w], h1) := lpGo_mono hel (by omega)
      have c43 := fun (K : Value → H → Option (Ex × List Value × H)) => calls_eq (K := K) (xs := [iv b]) (s43 (show b < 1024 by omega) h1)
      have hadd : add .i64 (i : Int) 1 = (i : Int) + 1 := add64 (by omega) (by omega)
      have hlq := fun (K : Ex → List Value → H → Option (Ex × List Value × H)) => lp_eq (K := K) hel'
      unfold f47_l1
      simp only [gv, List.getD_cons_succ, List.getD_cons_zero, asI_int, lt_t (show (i : Int) < ((blocksP g).length : Int) by omega), ifB_true, asK_int, d3, e1, hn]
      refine (hlq _).trans ?_
      simp only [onE_exit, if_true, gv, List.getD_cons_zero, asI_int, nz_ne (show (2 : Int) ≠ 0 by decide), c43, quo2 (show ends g b < 2 ^ 60 by omega), hadd]
      rw [fat_doc hg hbm]
      have : AM.lt (pop b : Int) ((ends g b / 2 : Nat) : Int) = decide (pop b < ends g b / 2) := by rw [Bool.eq_iff_iff]; simp; omega
      rw [this]
      cases decide (pop b < ends g b / 2) <;> simp)
  have hfin : ∀ (hh : (∃ i, lpGo (f47_l1 rn 2000 v bv (blocksP g).length) 2000 [.bool false, iv 0] h1 = some (.ret, [.bool false, iv i], h1)) ∧ cactusP g = false ∨ lpGo (f47_l1 rn 2000 v bv (blocksP g).length) 2000 [.bool false, iv 0] h1 = some (.exit 0, [.bool false, iv (blocksP g).length], h1) ∧ cactusP g = true), f47 rn 2000 v h = some (.bool (cactusP g), h1) := by
    intro hh
    unfold f47
    rw [c46, hnb]
    rcases hh with ⟨⟨i, hl⟩, hc⟩ | ⟨hl, hc⟩
    · refine (lp_eq hl).trans ?_
      rw [hc]; rfl
    · refine (lp_eq hl).trans ?_
      rw [hc]; rfl
  refine p47 (k := 2000) (hfin ?_) rfl x1.toExt
  rcases hlp with ⟨i, b, hx, hf, _, hl⟩ | ⟨hall, hl⟩
  · refine .inl ⟨⟨_, hl⟩, ?_⟩
    unfold cactusP
    rw [Bool.not_eq_false', List.any_eq_true]
    exact ⟨b, List.mem_of_getElem? hx, by simpa using hf⟩
  · refine .inr ⟨hl, ?_⟩
    unfold cactusP
    rw [Bool.not_eq_true', List.any_eq_false]
    intro b hb
    obtain ⟨i, hi, rfl⟩ := List.getElem_of_mem hb
    simpa using hall i _ (List.getElem?_eq_getElem hi)

/-- The law of blocks. -/
theorem s9 (hawake : ∀ h, rn 20 #[] h = some (.bool true, h)) {h : H} {v : Value} {l : List Int} (hs : SlR h 3 1 v (cellsI l)) : ∃ h', rn 9 #[v] h = some (.bool true, h') := by
  have c20 := fun (g : H) (K : Value → H → Option (Value × H)) => calls_eq (K := K) (xs := []) (hawake g)
  obtain ⟨v1, h1, e18, x1, hs1⟩ := s18 hs
  have c18 := fun (K : Value → H → Option (Value × H)) => calls_eq (K := K) (xs := [v]) e18
  by_cases hval : validG l = true
  · obtain ⟨g, rfl, hg⟩ := valid_nat hval
    have htk : (g.map Int.ofNat).take 14 = g.map Int.ofNat := List.take_of_length_le (by have := hg.len; simp; omega)
    rw [htk, cellsN_eq] at hs1
    obtain ⟨v2, h2, e44, x2, hs2⟩ := s44 hg hval hs1
    have c44 := fun (K : Value → H → Option (Value × H)) => calls_eq (K := K) (xs := [v1]) e44
    obtain ⟨v5, h3, e18b, x3, hs5⟩ := s18 (hs.ext (x1.tr x2).toExt)
    rw [htk, cellsN_eq] at hs5
    have c18b := fun (K : Value → H → Option (Value × H)) => calls_eq (K := K) (xs := [v]) e18b
    have c45 := fun (K : Value → H → Option (Value × H)) => calls_eq (K := K) (xs := [v5]) (s45 hg hval hs5)
    have hsv := hs.ext ((x1.tr x2).tr x3).toExt
    have c19 := fun (K : Value → H → Option (Value × H)) => calls_eq (K := K) (xs := [v]) (s19 hsv)
    rw [cellsN_eq] at hsv
    obtain ⟨v6, h4, e46, x4, hs6⟩ := s46 hg hsv
    have c46 := fun (K : Value → H → Option (Value × H)) => calls_eq (K := K) (xs := [v]) e46
    have c40 := fun (K : Value → H → Option (Value × H)) => calls_eq (K := K) (xs := [v2, v6]) (s40 (hs2.ext (x3.tr x4).toExt) hs6)
    have c47 := fun (K : Value → H → Option (Value × H)) => calls_eq (K := K) (xs := [v]) (s47 hg (hsv.ext x4.toExt))
    refine ⟨_, t9 (k := 0) (v := .bool true) (h1 := h4) ?_⟩
    simp [f9, c18, c44, c18b, c45, c19, hval, c46, c40, c47, keqv4, c20]
  · have hv' : validG l = false := by simpa using hval
    have hv14 : validG (l.take 14) = false := by rw [validG_take]; exact hv'
    have c44 := fun (K : Value → H → Option (Value × H)) => calls_eq (K := K) (xs := [v1]) (s44_bad hv14 hs1)
    obtain ⟨v5, h3, e18b, x3, hs5⟩ := s18 (hs.ext x1.toExt)
    have c18b := fun (K : Value → H → Option (Value × H)) => calls_eq (K := K) (xs := [v]) e18b
    have c45 := fun (K : Value → H → Option (Value × H)) => calls_eq (K := K) (xs := [v5]) (s45_bad hv14 hs5)
    have c19 := fun (K : Value → H → Option (Value × H)) => calls_eq (K := K) (xs := [v]) (s19 (hs.ext (x1.tr x3).toExt))
    refine ⟨_, t9 (k := 0) (v := .bool true) (h1 := h3) ?_⟩
    simp [f9, c18, c44, c18b, c45, c19, hv', c20]

theorem all_foldI {l : List Nat} {p : Nat → Bool} : ∀ (i : Nat) (s : Bool), foldI (fun _ b (s : Bool) => s && p b) l i s = (s && l.all p) := by
  induction l with
  | nil => intro i s; simp [foldI]
  | cons b l ih => intro i s; simp only [foldI, List.all_cons]; rw [ih, Bool.and_assoc]

/-- The law of cactus. -/
theorem s10 (hawake : ∀ h, rn 20 #[] h = some (.bool true, h)) {h : H} {v : Value} {l : List Int} (hs : SlR h 3 1 v (cellsI l)) : ∃ h', rn 10 #[v] h = some (.bool true, h') := by
  have c20 := fun (g : H) (K : Value → H → Option (Value × H)) => calls_eq (K := K) (xs := []) (hawake g)
  obtain ⟨v1, h1, e18, x1, hs1⟩ := s18 hs
  have c18 := fun (K : Value → H → Option (Value × H)) => calls_eq (K := K) (xs := [v]) e18
  by_cases hval : validG l = true
  · obtain ⟨g, rfl, hg⟩ := valid_nat hval
    have hlen := hg.len
    have hpow := hg.pow
    have htk : (g.map Int.ofNat).take 14 = g.map Int.ofNat := List.take_of_length_le (by have := hg.len; simp; omega)
    rw [htk, cellsN_eq] at hs1
    have c45 := fun (K : Value → H → Option (Value × H)) => calls_eq (K := K) (xs := [v1]) (s45 hg hval hs1)
    obtain ⟨v5, h3, e18b, x3, hs5⟩ := s18 (hs.ext x1.toExt)
    rw [htk, cellsN_eq] at hs5
    have c18b := fun (K : Value → H → Option (Value × H)) => calls_eq (K := K) (xs := [v]) e18b
    obtain ⟨v6, h4, e44, x4, hs6⟩ := s44 hg hval hs5
    have c44 := fun (K : Value → H → Option (Value × H)) => calls_eq (K := K) (xs := [v5]) e44
    have hsv := hs.ext ((x1.tr x3).tr x4).toExt
    rw [cellsN_eq] at hsv
    have hn : ∀ {T : Type} (K : Int → Option T), len v K = K (g.length : Int) := fun K => by rw [hsv.len]; simp
    have hnb : ∀ {T : Type} (K : Int → Option T), len v6 K = K ((blocksP g).length : Int) := fun K => by rw [hs6.len]; simp
    have hbl := blocks_len hg.toGrB
    have hl := lp_same (σ := Bool) (ρ := Empty) (F := f10_l1 rn 2000 v v6 (blocksP g).length) (k := 2000) (l := blocksP g) (h := h4) (fun i s => [.bool s, iv i])
      (fun _ b s => .inl (s && !fatQ g b)) (fun _ _ => True) (fun _ => .ret) (fun _ => []) 0 (fun s => [.bool s, iv (blocksP g).length]) (ws := [.bool true, iv 0]) (s0 := true) rfl trivial (by omega) (by simp)
      (fun _ _ => by simp [f10_l1])
      (by
        intro i b s hx _
        refine ⟨fun _ _ => trivial, ?_⟩
        have hi := (List.getElem?_eq_some_iff.1 hx).1
        have hbm := List.mem_of_getElem? hx
        have hb := blocks_lt hbm
        have e1 : ∀ (K : Value → Option (Ex × List Value × H)), (six v6 (i : Int) 1 fun b o => (h4.cell b o).bind K) = K (iv b) := fun K => hs6.c0 (by omega) (x := [iv b]) (by simp [hx]) rfl K
        obtain ⟨w, hel, he⟩ := end_loop hg.toGrB hsv hb (.inr rfl)
        have hel' : lpGo (f10_l2 rn 2000 v b g.length) 2000 [iv 0, iv 0] h4 = some (.exit 2, [iv (ends g b : Nat), w], h4) := lpGo_mono hel (by omega)
        have c43 := fun (K : Value → H → Option (Ex × List Value × H)) => calls_eq (K := K) (xs := [iv b]) (s43 (show b < 1024 by omega) h4)
        have hadd : add .i64 (i : Int) 1 = (i : Int) + 1 := add64 (by omega) (by omega)
        have hlq := fun (K : Ex → List Value → H → Option (Ex × List Value × H)) => lp_eq (K := K) hel'
        unfold f10_l1
        simp only [gv, List.getD_cons_succ, List.getD_cons_zero, asI_int, lt_t (show (i : Int) < ((blocksP g).length : Int) by omega), ifB_true, asK_int, d3, e1, hn]
        refine (hlq _).trans ?_
        simp only [onE_exit, if_true, gv, List.getD_cons_zero, asB_bool, asI_int, nz_ne (show (2 : Int) ≠ 0 by decide), c43, quo2 (show ends g b < 2 ^ 60 by omega), hadd]
        rw [fat_law hg]
        cases s with
        | false => simp [rnd]
        | true =>
          have e1 : AM.eq ((ends g b / 2 : Nat) : Int) (pop b : Int) = decide (ends g b / 2 = pop b) := by rw [Bool.eq_iff_iff]; simp; omega
          have e2 : AM.le (pop b : Int) 2 = decide (pop b ≤ 2) := by rw [Bool.eq_iff_iff]; simp; omega
          rw [ifB_true, e1, e2]
          cases decide (ends g b / 2 = pop b) <;> simp [rnd])
    rw [itL_inl (fun _ b s => s && !fatQ g b), all_foldI (p := fun b => !fatQ g b)] at hl
    have hall : (true && (blocksP g).all fun b => !fatQ g b) = cactusP g := by
      unfold cactusP
      rw [Bool.true_and, List.any_eq_not_all_not, Bool.not_not]
    rw [hall] at hl
    refine ⟨_, t10 (k := 2000) (v := .bool true) (h1 := h4) ?_⟩
    unfold f10
    simp only [c18, c45, c18b, c44, ext20, ext21, asB_bool, asI_int]
    rw [show (!AM.eq (0 : Int) 0) = false from rfl, ifB_false, hnb]
    refine (lp_eq hl.1).trans ?_
    simp [keqv4, c20]
  · have hv' : validG l = false := by simpa using hval
    have hv14 : validG (l.take 14) = false := by rw [validG_take]; exact hv'
    have c45 := fun (K : Value → H → Option (Value × H)) => calls_eq (K := K) (xs := [v1]) (s45_bad hv14 hs1)
    obtain ⟨v5, h3, e18b, x3, hs5⟩ := s18 (hs.ext x1.toExt)
    have c18b := fun (K : Value → H → Option (Value × H)) => calls_eq (K := K) (xs := [v]) e18b
    have c44 := fun (K : Value → H → Option (Value × H)) => calls_eq (K := K) (xs := [v5]) (s44_bad hv14 hs5)
    refine ⟨_, t10 (k := 0) (v := .bool true) (h1 := h3) ?_⟩
    simp [f10, c18, c45, c18b, c44, c20]

end Go.AM
