/- Tasks that are valid; copies of slices; it is awake. -/
import Derived.Test.YtnhmgokjijlhbaaF1
namespace Go.AM
open Go.Proofs

variable {k : Nat} {R : Type}

attribute [local simp] nx_eq nx_new nx_set blk_new blk_set asI_int asK_int asB_bool asP_ptr al_eq bx_eq len_slice onE_exit onE_ret onR_ret Value.cells d3 d22 d31 cell_new cell_set rd_new rd_set off eq lt le ifB gv out

abbrev cellsI (l : List Int) : List (List Value) := l.map fun z => [iv z]

theorem app22 : okApp Try.prog 22 3 1 = true := by kernel_rfl
theorem under22 : Try.prog.underlying 22 = some (.slice 3) := by kernel_rfl
theorem bls22e (h : H) : buildSlice Try.prog 22 0 [] h = some (.slice (some ⟨h.nx, 0, none⟩) 0 0, h.new (.row [] 3 true)) := by kernel_rfl
theorem bls22 (z : Int) (h : H) : buildSlice Try.prog 22 1 [(0, .int .i64 z)] h = some (.slice (some ⟨h.nx, 0, none⟩) 1 1, h.new (.row [iv z] 3 true)) := by kernel_rfl
theorem nil22 : binOp Try.prog .eql 22 (.slice none 0 0) (.slice none 0 0) = some (.bool true) := by kernel_rfl
theorem some22 (b o n c : Nat) : binOp Try.prog .eql 22 (.slice (some ⟨b, o, none⟩) n c) (.slice none 0 0) = some (.bool false) := by kernel_rfl

/-- Clone. -/
theorem s56 {v : Value} {l : List (List Value)} {h : H} (hs : SlR h 3 1 v l) (hm : l.length < 2 ^ 30) : ∃ v' h', rn 56 #[v] h = some (v', h') ∧ Ext h h' ∧ SlR h' 3 1 v' l ∧ ∃ a n c, v' = .slice a n c := by
  have hs0 := hs
  have key : ∃ v' h', f56 rn 0 v h = some (v', h') ∧ Ext h h' ∧ SlR h' 3 1 v' l := by
    cases hs with
    | nil =>
      refine ⟨.slice none 0 0, h, ?_, .refl _, .nil⟩
      unfold f56 eqv
      rw [nil22]
      rfl
    | @at_ b o c cs own l hb hr hk hc hl hx =>
      unfold f56 eqv
      rw [some22]
      simp only []
      rw [show ifB false = fun (x y : Option (Value × H)) => y from rfl]
      simp only []
      rw [bls_some (bls22e h)]
      have x1 := Ext.new h (.row [] 3 true)
      obtain ⟨v', h', e, x, s⟩ := app_all (b := h.nx) app22 app22 (Nat.lt_succ_self _) (blk_new_self _ _) (hs0.ext x1) hm
      exact ⟨v', h', e _, x1.trans x, s⟩
  obtain ⟨v', h', e, x, s⟩ := key
  have hv : ∃ a n c, v' = .slice a n c := by cases s <;> exact ⟨_, _, _, rfl⟩
  obtain ⟨a, n, c, rfl⟩ := hv
  exact ⟨_, h', x56 e rfl, x, s, a, n, c, rfl⟩

/-- The beginning of a slice. -/
theorem s18 {v : Value} {l : List Int} {h : H} (hs : SlR h 3 1 v (cellsI l)) : ∃ v' h', rn 18 #[v] h = some (v', h') ∧ Ext h h' ∧ SlR h' 3 1 v' (cellsI (l.take 14)) := by
  have e1 : imin ((cellsI l).length : Int) 14 = ((min l.length 14 : Nat) : Int) := by
    rw [List.length_map]
    unfold imin
    split <;> omega
  obtain ⟨v1, s1, e2⟩ := hs.take (i := ((min l.length 14 : Nat) : Int)) under22 sz3 (by omega) (by rw [List.length_map]; omega)
  have e3 : (cellsI l).take ((min l.length 14 : Nat) : Int).toNat = cellsI (l.take 14) := by
    rw [Int.toNat_natCast, ← List.map_take]
    congr 1
    rcases Nat.le_total l.length 14 with h1 | h1
    · rw [Nat.min_eq_left h1, List.take_of_length_le (Nat.le_refl _), List.take_of_length_le h1]
    · rw [Nat.min_eq_right h1]
  rw [e3] at s1
  obtain ⟨v', h', e4, x, s, a, n, c, rfl⟩ := s56 s1 (by rw [List.length_map, List.length_take]; omega)
  refine ⟨_, h', x18 (k := 0) ?_ rfl, x, s⟩
  unfold f18
  rw [hs.len, e1, e2, calls_eq e4]

/-- Are numbers tasks? -/
def prodP (l : List Int) : Int := l.foldl (· * ·) 1
def okN (x : Int) : Bool := decide (1 ≤ x ∧ x ≤ 12)
def tasksP (l : List Int) : Bool := decide (1 ≤ l.length ∧ l.length ≤ 5) && l.all okN && decide (prodP l ≤ 4000)

theorem okN_iff {x : Int} : okN x = true ↔ 1 ≤ x ∧ x ≤ 12 := by simp [okN]

theorem prod_from (l : List Int) : ∀ a : Int, l.foldl (· * ·) a = a * prodP l := by
  unfold prodP
  induction l with
  | nil => intro a; simp
  | cons x l ih => intro a; rw [List.foldl_cons, List.foldl_cons, ih, ih (1 * x), Int.one_mul, Int.mul_assoc]

theorem prod_cons (x : Int) (l : List Int) : prodP (x :: l) = x * prodP l := by
  unfold prodP
  rw [List.foldl_cons, prod_from, Int.one_mul]
  rfl

theorem prod_pos {l : List Int} (h : ∀ x ∈ l, 1 ≤ x) : 1 ≤ prodP l := by
  induction l with
  | nil => decide
  | cons x l ih =>
    rw [prod_cons]
    have h1 := ih (fun y hy => h y (by simp [hy]))
    have h2 := h x (by simp)
    have := Int.mul_le_mul h2 h1 (by omega) (by omega)
    omega

theorem prod_le {l : List Int} (h : ∀ x ∈ l, 1 ≤ x ∧ x ≤ 12) : prodP l ≤ 12 ^ l.length := by
  induction l with
  | nil => decide
  | cons x l ih =>
    rw [prod_cons, List.length_cons, Int.pow_succ, Int.mul_comm]
    have h1 := ih (fun y hy => h y (by simp [hy]))
    have h2 := h x (by simp)
    have h3 := prod_pos (l := l) (fun y hy => (h y (by simp [hy])).1)
    exact Int.mul_le_mul h1 h2.2 (by omega) (by have : (0:Int) < 12 ^ l.length := Int.pow_pos (by decide); omega)

theorem s21 {v : Value} {l : List Int} {h : H} (hs : SlR h 3 1 v (cellsI l)) : rn 21 #[v] h = some (.bool (tasksP l), h) := by
  have hlen := hs.lt62
  rw [List.length_map] at hlen
  refine p21 (k := l.length + 1) (h1 := h) ?_ rfl (.refl _)
  have hl := lp_same (F := f21_l1 rn (l.length + 1) v l.length) (k := l.length + 1) (l := l) (h := h) (fun i st => [.bool false, iv st, iv i])
    (fun i x st => if okN x = true ∧ st ≤ 4000 then .inl (st * x) else .inr (i, st)) (fun _ st => 1 ≤ st ∧ st ≤ 48000) (fun _ => .ret) (fun r => [.bool false, iv r.2, iv r.1]) 0 (fun st => [.bool false, iv st, iv l.length]) (ws := [.bool false, iv 1, iv 0]) (s0 := (1 : Int)) rfl (by decide) (by omega) (by simp)
    (fun _ _ => by simp [f21_l1])
    (by
      intro i x st hx hI
      have hi := (List.getElem?_eq_some_iff.1 hx).1
      refine ⟨fun s' hs' => ?_, ?_⟩
      · by_cases hc : okN x = true ∧ st ≤ 4000
        · rw [if_pos hc] at hs'
          cases hs'
          have h1 := okN_iff.1 hc.1
          have h2 := Int.mul_le_mul hI.1 h1.1 (by omega) (by omega)
          have h3 := Int.mul_le_mul hc.2 h1.2 (by omega) (by omega)
          omega
        · rw [if_neg hc] at hs'; cases hs'
      · have g1 : ∀ (K : Value → Option (Ex × List Value × H)), (six v (i : Int) 1 fun b o => (h.cell b o).bind K) = K (iv x) := fun K => hs.c0 (by omega) (x := [iv x]) (by simp [hx]) rfl K
        have hadd : add .i64 (i : Int) 1 = (i : Int) + 1 := add64 (by omega) (by omega)
        by_cases h1 : x < 1
        · simp [f21_l1, show i < l.length by omega, g1, h1, okN, rnd, show ¬ 1 ≤ x by omega]
        · by_cases h2 : 12 < x
          · simp [f21_l1, show i < l.length by omega, g1, h1, h2, okN, rnd, show ¬ x ≤ 12 by omega]
          · by_cases h3 : 4000 < st
            · simp [f21_l1, show i < l.length by omega, g1, h1, h2, h3, okN, rnd, show ¬ st ≤ 4000 by omega]
            · have h4 := Int.mul_le_mul hI.1 (show 1 ≤ x by omega) (by omega) (by omega)
              have h5 := Int.mul_le_mul hI.2 (show x ≤ 12 by omega) (by omega) (by omega)
              have hmul : mul .i64 st x = st * x := mul64 (by omega) (by omega)
              simp [f21_l1, show i < l.length by omega, g1, h1, h2, h3, okN, rnd, hadd, hmul, show 1 ≤ x by omega, show x ≤ 12 by omega, show st ≤ 4000 by omega])
  have key : ∀ (l : List Int) (i : Nat) (st : Int), 1 ≤ st →
    (match itL (ρ := Nat × Int) (fun i x st => if okN x = true ∧ st ≤ 4000 then .inl (st * x) else .inr (i, st)) l i st with
      | .inl s => s = st * prodP l ∧ l.all okN = true
      | .inr _ => l.all okN = false ∨ 4000 < st * prodP l) := by
    intro l
    induction l with
    | nil => intro i st h; simp [itL, prodP]
    | cons x l ih =>
      intro i st h
      simp only [itL]
      by_cases hx : okN x = true ∧ st ≤ 4000
      · rw [if_pos hx]
        have h1 := okN_iff.1 hx.1
        have h2 := ih (i + 1) (st * x) (by have := Int.mul_le_mul h h1.1 (by omega) (by omega); omega)
        simp only
        split <;> rename_i h3 <;> rw [h3] at h2 <;> simp only at h2
        · rw [prod_cons, ← Int.mul_assoc]
          exact ⟨h2.1, by simp [hx.1, h2.2]⟩
        · rw [prod_cons, ← Int.mul_assoc]
          rcases h2 with h2 | h2
          · exact .inl (by simp [h2])
          · exact .inr h2
      · rw [if_neg hx]
        simp only
        by_cases hk : okN x = true
        · cases ha : l.all okN with
          | false => exact .inl (by simp [ha])
          | true =>
            right
            have h5 : 4000 < st := by
              rcases Int.lt_or_le 4000 st with h | h
              · exact h
              · exact absurd ⟨hk, h⟩ hx
            have h4 := prod_pos (l := x :: l) (fun y hy => by
              simp only [List.mem_cons] at hy
              rcases hy with rfl | hy
              · exact (okN_iff.1 hk).1
              · exact (okN_iff.1 (List.all_eq_true.1 ha y hy)).1)
            have := Int.mul_le_mul (show (4001 : Int) ≤ st by omega) h4 (by omega) (by omega)
            omega
        · exact .inl (by simp [hk])
  have hk := key l 0 1 (by decide)
  split at hl <;> rename_i r hr
  · rw [hr] at hk
    simp only [Int.one_mul] at hk
    have hn : ∀ (K : Int → Option (Value × H)), len v K = K l.length := fun K => by rw [hs.len, List.length_map]
    simp only [f21, hn, lp_eq hl.1, tasksP, hk.1, hk.2]
    have c1 : (1 ≤ (l.length : Int)) = (1 ≤ l.length) := propext (by omega)
    have c5 : ((l.length : Int) ≤ 5) = (l.length ≤ 5) := propext (by omega)
    by_cases h1 : 1 ≤ l.length <;> by_cases h5 : l.length ≤ 5 <;> simp [c1, c5, h1, h5]
  · rw [hr] at hk
    have hn : ∀ (K : Int → Option (Value × H)), len v K = K l.length := fun K => by rw [hs.len, List.length_map]
    simp only [f21, hn, lp_eq hl, tasksP]
    rcases hk with hk | hk
    · simp [hk]
    · simp [show ¬ prodP l ≤ 4000 by omega]

def minP : List Int → Int
  | [] => 0
  | x :: l => l.foldl imin x
def maxP : List Int → Int
  | [] => 0
  | x :: l => l.foldl imax x

theorem s87 {v : Value} {x0 : Int} {l : List Int} {h : H} (hs : SlR h 3 1 v (cellsI (x0 :: l))) : rn 87 #[v] h = some (iv (minP (x0 :: l)), h) := by
  have hlen := hs.lt62
  rw [List.length_map, List.length_cons] at hlen
  refine p87 (k := l.length + 1) (h1 := h) ?_ rfl (.refl _)
  have hn : ∀ {T : Type} (K : Int → Option T), len v K = K ((l.length + 1 : Nat) : Int) := fun K => by rw [hs.len, List.length_map, List.length_cons]
  have hl := lp_same (ρ := Empty) (F := f87_l1 rn (l.length + 1) v) (k := l.length + 1) (l := l) (h := h) (fun i st => [iv st, iv ((i : Int) + 1)])
    (fun _ x st => .inl (imin st x)) (fun _ _ => True) (fun _ => .ret) (fun _ => []) 0 (fun st => [iv st, iv ((l.length : Int) + 1)]) (ws := [iv x0, iv 1]) (s0 := x0) rfl trivial (by omega) (by simp)
    (fun _ _ => by simp [f87_l1, hn])
    (by
      intro i x st hx _
      have hi := (List.getElem?_eq_some_iff.1 hx).1
      refine ⟨fun _ _ => trivial, ?_⟩
      have g1 : ∀ (K : Value → Option (Ex × List Value × H)), (six v ((i : Int) + 1) 1 fun b o => (h.cell b o).bind K) = K (iv x) := fun K => hs.c0 (by omega) (x := [iv x]) (by rw [show ((i : Int) + 1).toNat = i + 1 by omega]; simp [hx]) rfl K
      have hadd : add .i64 ((i : Int) + 1) 1 = (i : Int) + 1 + 1 := add64 (by omega) (by omega)
      simp [f87_l1, hn, show i < l.length by omega, g1, rnd, hadd])
  rw [itL_inl (fun _ x st => imin st x)] at hl
  have hf : ∀ (l : List Int) (i : Nat) (s : Int), foldI (fun _ x st => imin st x) l i s = l.foldl imin s := by
    intro l
    induction l with
    | nil => intro i s; rfl
    | cons x l ih => intro i s; exact ih _ _
  rw [hf] at hl
  have g0 : ∀ (K : Value → Option (Value × H)), (six v 0 1 fun b o => (h.cell b o).bind K) = K (iv x0) := fun K => hs.c0 (by omega) (x := [iv x0]) rfl rfl K
  simp [f87, hn, g0, lp_eq hl.1, minP, show ¬ ((l.length : Int) + 1 < 1) by omega]

theorem s88 {v : Value} {x0 : Int} {l : List Int} {h : H} (hs : SlR h 3 1 v (cellsI (x0 :: l))) : rn 88 #[v] h = some (iv (maxP (x0 :: l)), h) := by
  have hlen := hs.lt62
  rw [List.length_map, List.length_cons] at hlen
  refine p88 (k := l.length + 1) (h1 := h) ?_ rfl (.refl _)
  have hn : ∀ {T : Type} (K : Int → Option T), len v K = K ((l.length + 1 : Nat) : Int) := fun K => by rw [hs.len, List.length_map, List.length_cons]
  have hl := lp_same (ρ := Empty) (F := f88_l1 rn (l.length + 1) v) (k := l.length + 1) (l := l) (h := h) (fun i st => [iv st, iv ((i : Int) + 1)])
    (fun _ x st => .inl (imax st x)) (fun _ _ => True) (fun _ => .ret) (fun _ => []) 0 (fun st => [iv st, iv ((l.length : Int) + 1)]) (ws := [iv x0, iv 1]) (s0 := x0) rfl trivial (by omega) (by simp)
    (fun _ _ => by simp [f88_l1, hn])
    (by
      intro i x st hx _
      have hi := (List.getElem?_eq_some_iff.1 hx).1
      refine ⟨fun _ _ => trivial, ?_⟩
      have g1 : ∀ (K : Value → Option (Ex × List Value × H)), (six v ((i : Int) + 1) 1 fun b o => (h.cell b o).bind K) = K (iv x) := fun K => hs.c0 (by omega) (x := [iv x]) (by rw [show ((i : Int) + 1).toNat = i + 1 by omega]; simp [hx]) rfl K
      have hadd : add .i64 ((i : Int) + 1) 1 = (i : Int) + 1 + 1 := add64 (by omega) (by omega)
      simp [f88_l1, hn, show i < l.length by omega, g1, rnd, hadd])
  rw [itL_inl (fun _ x st => imax st x)] at hl
  have hf : ∀ (l : List Int) (i : Nat) (s : Int), foldI (fun _ x st => imax st x) l i s = l.foldl imax s := by
    intro l
    induction l with
    | nil => intro i s; rfl
    | cons x l ih => intro i s; exact ih _ _
  rw [hf] at hl
  have g0 : ∀ (K : Value → Option (Value × H)), (six v 0 1 fun b o => (h.cell b o).bind K) = K (iv x0) := fun K => hs.c0 (by omega) (x := [iv x0]) rfl rfl K
  simp [f88, hn, g0, lp_eq hl.1, maxP, show ¬ ((l.length : Int) + 1 < 1) by omega]

theorem fold_min (l : List Int) : ∀ (x k : Int), (k ≤ l.foldl imin x ↔ k ≤ x ∧ ∀ y ∈ l, k ≤ y) := by
  induction l with
  | nil => intro x k; simp
  | cons y l ih =>
    intro x k
    rw [List.foldl_cons, ih]
    have : k ≤ imin x y ↔ k ≤ x ∧ k ≤ y := by unfold imin; split <;> omega
    rw [this]
    simp only [List.mem_cons, forall_eq_or_imp, and_assoc]

theorem fold_max (l : List Int) : ∀ (x k : Int), (l.foldl imax x ≤ k ↔ x ≤ k ∧ ∀ y ∈ l, y ≤ k) := by
  induction l with
  | nil => intro x k; simp
  | cons y l ih =>
    intro x k
    rw [List.foldl_cons, ih]
    have : imax x y ≤ k ↔ x ≤ k ∧ y ≤ k := by unfold imax; split <;> omega
    rw [this]
    simp only [List.mem_cons, forall_eq_or_imp, and_assoc]

theorem min_iff {l : List Int} (hne : l ≠ []) {k : Int} : k ≤ minP l ↔ ∀ y ∈ l, k ≤ y := by
  cases l with
  | nil => exact absurd rfl hne
  | cons x l =>
    unfold minP
    rw [fold_min]
    simp only [List.mem_cons, forall_eq_or_imp]

theorem max_iff {l : List Int} (hne : l ≠ []) {k : Int} : maxP l ≤ k ↔ ∀ y ∈ l, y ≤ k := by
  cases l with
  | nil => exact absurd rfl hne
  | cons x l =>
    unfold maxP
    rw [fold_max]
    simp only [List.mem_cons, forall_eq_or_imp]

theorem okN_all {l : List Int} : l.all okN = true ↔ ∀ x ∈ l, 1 ≤ x ∧ x ≤ 12 := by
  rw [List.all_eq_true]
  exact ⟨fun h x hx => okN_iff.1 (h x hx), fun h x hx => okN_iff.2 (h x hx)⟩

/-- How many states there are. -/
theorem s57 {v : Value} {l : List Int} {h : H} (hs : SlR h 3 1 v (cellsI l)) (hl5 : l.length ≤ 5) (hok : ∀ x ∈ l, 1 ≤ x ∧ x ≤ 40) : rn 57 #[v] h = some (iv (prodP l), h) := by
  refine p57 (k := l.length + 1) (h1 := h) ?_ rfl (.refl _)
  have hn : ∀ {T : Type} (K : Int → Option T), len v K = K (l.length : Int) := fun K => by rw [hs.len, List.length_map]
  have hl := lp_same (ρ := Empty) (F := f57_l1 rn (l.length + 1) v l.length) (k := l.length + 1) (l := l) (h := h) (fun i st => [iv st, iv i])
    (fun _ x st => .inl (st * x)) (fun i st => 1 ≤ st ∧ st ≤ 40 ^ i) (fun _ => .ret) (fun _ => []) 0 (fun st => [iv st, iv l.length]) (ws := [iv 1, iv 0]) (s0 := (1 : Int)) rfl (by decide) (by omega) (by simp)
    (fun _ _ => by simp [f57_l1])
    (by
      intro i x st hx hI
      have hi := (List.getElem?_eq_some_iff.1 hx).1
      have hxx := hok x (List.mem_of_getElem? hx)
      have h1 := Int.mul_le_mul hI.1 hxx.1 (by omega) (by omega)
      have h12 : (0 : Int) < 40 ^ i := Int.pow_pos (by decide)
      have h2 : st * x ≤ 40 ^ (i + 1) := by
        rw [Int.pow_succ]
        exact Int.mul_le_mul hI.2 hxx.2 (by omega) (by omega)
      have h3 : (40 : Int) ^ (i + 1) ≤ 40 ^ 5 := by
        have : (40 : Nat) ^ (i + 1) ≤ 40 ^ 5 := Nat.pow_le_pow_right (by omega) (by omega)
        exact_mod_cast this
      refine ⟨fun s' hs' => by cases hs'; omega, ?_⟩
      have g1 : ∀ (K : Value → Option (Ex × List Value × H)), (six v (i : Int) 1 fun b o => (h.cell b o).bind K) = K (iv x) := fun K => hs.c0 (by omega) (x := [iv x]) (by simp [hx]) rfl K
      have hadd : add .i64 (i : Int) 1 = (i : Int) + 1 := add64 (by omega) (by omega)
      have hmul : mul .i64 st x = st * x := mul64 (by omega) (by omega)
      simp [f57_l1, show i < l.length by omega, g1, rnd, hadd, hmul])
  rw [itL_inl (fun _ x st => st * x)] at hl
  have hf : ∀ (l : List Int) (i : Nat) (s : Int), foldI (fun _ x st => st * x) l i s = l.foldl (· * ·) s := by
    intro l
    induction l with
    | nil => intro i s; rfl
    | cons x l ih => intro i s; exact ih _ _
  rw [hf] at hl
  simp [f57, hn, lp_eq hl.1, prodP]

/-- Are they tasks? -/
theorem s53 {v : Value} {l : List Int} {h : H} (hs : SlR h 3 1 v (cellsI l)) : rn 53 #[v] h = some (.bool (tasksP l), h) := by
  refine p53 (k := 0) (h1 := h) ?_ rfl (.refl _)
  have hn : ∀ {T : Type} (K : Int → Option T), len v K = K (l.length : Int) := fun K => by rw [hs.len, List.length_map]
  cases l with
  | nil => simp [f53, hn, tasksP]
  | cons x0 l =>
    by_cases h5 : (x0 :: l).length ≤ 5
    · have c1 := fun (K : Value → H → Option (Value × H)) => calls_eq (K := K) (xs := [_]) (s87 hs)
      have c2 := fun (K : Value → H → Option (Value × H)) => calls_eq (K := K) (xs := [_]) (s88 hs)
      have hne : x0 :: l ≠ [] := by simp
      have hlen : ¬ (5 : Int) < ((x0 :: l).length : Nat) := by omega
      have hlen1 : ¬ (((x0 :: l).length : Nat) : Int) < 1 := by simp only [List.length_cons]; omega
      generalize hL : x0 :: l = L at *
      by_cases hmin : 1 ≤ minP L
      · by_cases hmax : maxP L ≤ 12
        · have hall : ∀ x ∈ L, 1 ≤ x ∧ x ≤ 12 := fun x hx => ⟨(min_iff hne).1 hmin x hx, (max_iff hne).1 hmax x hx⟩
          have c3 := fun (K : Value → H → Option (Value × H)) => calls_eq (K := K) (xs := [_]) (s57 hs h5 fun x hx => by have := hall x hx; omega)
          have hl1 : 1 ≤ L.length := List.length_pos_iff.2 hne
          simp [f53, hn, c1, c2, c3, hlen, hlen1, show ¬ minP L < 1 by omega, show ¬ 12 < maxP L by omega, tasksP, h5, hl1, okN_all.2 hall]
        · have : L.all okN = false := by
            cases ha : L.all okN with
            | false => rfl
            | true => exact absurd ((max_iff hne).2 fun y hy => (okN_all.1 ha y hy).2) hmax
          simp [f53, hn, c1, c2, hlen, hlen1, show ¬ minP L < 1 by omega, show 12 < maxP L by omega, tasksP, this]
      · have : L.all okN = false := by
          cases ha : L.all okN with
          | false => rfl
          | true => exact absurd ((min_iff hne).2 fun y hy => (okN_all.1 ha y hy).1) hmin
        simp [f53, hn, c1, c2, hlen, hlen1, show minP L < 1 by omega, tasksP, this]
    · have hlen : (5 : Int) < ((x0 :: l).length : Nat) := by omega
      have hlen1 : ¬ (((x0 :: l).length : Nat) : Int) < 1 := by omega
      generalize x0 :: l = L at *
      simp [f53, hn, hlen, hlen1, tasksP, h5]

theorem tasks_take (l : List Int) : tasksP (l.take 14) = tasksP l := by
  rcases Nat.le_total l.length 14 with h | h
  · rw [List.take_of_length_le h]
  · unfold tasksP
    rw [List.length_take, Nat.min_eq_left h]
    have h1 : ¬ (1 ≤ 14 ∧ 14 ≤ 5) := by omega
    have h2 : ¬ (1 ≤ l.length ∧ l.length ≤ 5) := by omega
    rw [decide_eq_false h1, decide_eq_false h2]
    simp

end Go.AM
