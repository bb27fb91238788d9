/- Parts of the proof, put together: the abstract machine, what the functions of the program answer, and plain laws. -/
import Derived.Test.YtphchobmencipaaDoorWx5

section
namespace Go.AM
open Go.Proofs
variable {R : Type}
attribute [local simp] nx_eq nx_new nx_set blk_new blk_set asI_int asK_int asB_bool asP_ptr al_eq bx_eq len_slice onE_exit onE_ret onR_ret Value.cells d3 d22 cell_new cell_set rd_new rd_set off eq lt le ifB gv out
abbrev cellsI (l : List Int) : List (List Value) := l.map fun z => [iv z]
theorem app22 : okApp Tryd.prog 22 3 1 = true := by kernel_rfl
theorem app23 : okApp Tryd.prog 23 3 1 = true := by kernel_rfl
theorem under22 : Tryd.prog.underlying 22 = some (.slice 3) := by kernel_rfl
theorem under23 : Tryd.prog.underlying 23 = some (.slice 3) := by kernel_rfl
theorem bls23e (h : H) : buildSlice Tryd.prog 23 0 [] h = some (.slice (some ⟨h.nx, 0, none⟩) 0 0, h.new (.row [] 3 true)) := by kernel_rfl
theorem bls22 (z : Int) (h : H) : buildSlice Tryd.prog 22 1 [(0, .int .i64 z)] h = some (.slice (some ⟨h.nx, 0, none⟩) 1 1, h.new (.row [iv z] 3 true)) := by kernel_rfl
theorem nil23 : binOp Tryd.prog .eql 23 (.slice none 0 0) (.slice none 0 0) = some (.bool true) := by kernel_rfl
theorem some23 (b o n c : Nat) : binOp Tryd.prog .eql 23 (.slice (some ⟨b, o, none⟩) n c) (.slice none 0 0) = some (.bool false) := by kernel_rfl
/-- A copy: of a graph, of a slice of numbers, of a town. -/
theorem s38 {v : Value} {l : List (List Value)} {h : H} (hs : SlR h 3 1 v l) (hm : l.length < 2 ^ 30) : ∃ v' h', rn 38 #[v] h = some (v', h') ∧ Exw h h' ∧ SlR h' 3 1 v' l ∧ ∃ a n c, v' = .slice a n c := by
  have hs0 := hs
  have key : ∃ v' h', f38 rn 0 v h = some (v', h') ∧ Ext h h' ∧ SlR h' 3 1 v' l := by
    cases hs with
    | nil =>
      refine ⟨.slice none 0 0, h, ?_, .refl _, .nil⟩
      unfold f38 eqv
      rw [nil23]
      rfl
    | @at_ b o c cs own l hb hr hk hc hl hx =>
      unfold f38 eqv
      rw [some23]
      simp only []
      rw [show ifB false = fun (x y : Option (Value × H)) => y from rfl]
      simp only []
      rw [bls_some (bls23e h)]
      have x1 := Ext.new h (.row [] 3 true)
      obtain ⟨v', h', e, x, s⟩ := app_all (b := h.nx) app23 app23 (Nat.lt_succ_self _) (blk_new_self _ _) (hs0.ext x1) hm
      exact ⟨v', h', e _, x1.trans x, s⟩
  obtain ⟨v', h', e, x, s⟩ := key
  have hv : ∃ a n c, v' = .slice a n c := by cases s <;> exact ⟨_, _, _, rfl⟩
  obtain ⟨a, n, c, rfl⟩ := hv
  obtain ⟨h2, e2, m2, w2⟩ := x38 e rfl
  exact ⟨_, h2, e2, w2 x, s.ext m2.ext, a, n, c, rfl⟩
/-- Is a number in a set? -/
def bitI (x j : Int) : Int := AM.and .i64 (shr .i64 x j) 1
def rowOk (l : List Int) (i : Nat) (x : Int) : Bool :=
  !decide (x < 0) && !decide (AM.shl .i64 1 (l.length : Int) ≤ x) && !decide (bitI x i = 1) && (List.range l.length).all fun j => decide (bitI x j = bitI (l.getD j 0) i)
/-- Is a graph valid? -/
def validG (l : List Int) : Bool := decide (1 ≤ l.length) && decide (l.length ≤ 10) && (List.range l.length).all fun i => rowOk l i (l.getD i 0)
theorem validG_iff {l : List Int} (h : 1 ≤ l.length ∧ l.length ≤ 10) : validG l = true ↔ ∀ i x, l[i]? = some x → rowOk l i x = true := by
  unfold validG
  rw [decide_eq_true h.1, decide_eq_true h.2]
  simp only [Bool.true_and, List.all_eq_true, List.mem_range]
  constructor
  · intro hh i x hx
    have := hh i (List.getElem?_eq_some_iff.1 hx).1
    simpa [List.getD, hx] using this
  · intro hh i hi
    have := hh i _ (List.getElem?_eq_getElem hi)
    simpa [List.getD, List.getElem?_eq_getElem hi] using this
theorem getL {h : H} {v : Value} {l : List Int} (hs : SlR h 3 1 v (cellsI l)) {i : Nat} {x : Int} (hx : l[i]? = some x) (K : Value → Option R) : (six v (i : Int) 1 fun b o => (h.cell b o).bind K) = K (iv x) :=
  hs.c0 (by omega) (x := [iv x]) (by simp [hx]) rfl K
set_option maxHeartbeats 1000000 in
theorem s36 {v : Value} {l : List Int} {h : H} (hs : SlR h 3 1 v (cellsI l)) : rn 36 #[v] h = some (if validG l = true then .tuple #[v, .bool true] else .tuple #[.slice none 0 0, .bool false], h) := by
  have hn : ∀ {T : Type} (K : Int → Option T), len v K = K (l.length : Int) := fun K => by rw [hs.len]; simp
  by_cases hl : 1 ≤ l.length ∧ l.length ≤ 10
  · have hni : ∀ i : Nat, nn (i : Int) = fun (z : Option (Ex × List Value × H)) => z := fun i => by funext z; exact nn_ge (by omega) z
    have hb : ∀ a b : Int, AM.and .i64 (shr .i64 a b) 1 = bitI a b := fun _ _ => rfl
    have inner := fun (i : Nat) (x : Int) (_ : l[i]? = some x) => lp_all (F := f36_l2 rn 200010 v l.length [.slice none 0 0, .bool false, iv i] x) (k := 200010) (l := l) (h := h) (fun j => [.slice none 0 0, .bool false, iv j])
      (fun j y => decide (bitI x j = bitI y i)) (fun j => [.slice none 0 0, .bool false, iv j]) 2 [.slice none 0 0, .bool false, iv l.length] (ws := [.slice none 0 0, .bool false, iv 0]) rfl (by omega)
      (by simp [f36_l2])
      (by
        intro j y hy
        have hj := (List.getElem?_eq_some_iff.1 hy).1
        have hadd : add .i64 (j : Int) 1 = (j : Int) + 1 := add64 (by omega) (by omega)
        have e1 := fun (K : Value → Option (Ex × List Value × H)) => getL hs hy K
        by_cases hq : bitI x j = bitI y i
        · simp [f36_l2, hj, hni, e1, hb, hq, hadd]
        · simp [f36_l2, hj, hni, e1, hb, hq])
    have hlp := lp_all (F := f36_l1 rn 200010 v l.length l.length) (k := 200010) (l := l) (h := h) (fun i => [.slice none 0 0, .bool false, iv i])
      (fun i x => rowOk l i x) (fun i => [.slice none 0 0, .bool false, iv i]) 0 [.slice none 0 0, .bool false, iv l.length] (ws := [.slice none 0 0, .bool false, iv 0]) rfl (by omega)
      (by simp [f36_l1])
      (by
        intro i x hx
        have hi := (List.getElem?_eq_some_iff.1 hx).1
        have hadd : add .i64 (i : Int) 1 = (i : Int) + 1 := add64 (by omega) (by omega)
        have e1 := fun (K : Value → Option (Ex × List Value × H)) => getL hs hx K
        have hall : rowOk l i x = (!decide (x < 0) && !decide (AM.shl .i64 1 (l.length : Int) ≤ x) && !decide (bitI x i = 1) && (List.range l.length).all fun j => decide (bitI x j = bitI (l.getD j 0) i)) := rfl
        by_cases h1 : x < 0
        · have : rowOk l i x = false := by rw [hall, decide_eq_true h1]; rfl
          simp [f36_l1, hi, e1, h1, this]
        · by_cases h2 : AM.shl .i64 1 (l.length : Int) ≤ x
          · have : rowOk l i x = false := by rw [hall, decide_eq_true h2]; simp
            simp [f36_l1, hi, e1, h1, hni, h2, this]
          · by_cases h3 : bitI x i = 1
            · have : rowOk l i x = false := by rw [hall, decide_eq_true h3]; simp
              simp [f36_l1, hi, e1, h1, hni, h2, hb, h3, this]
            · rcases inner i x hx with ⟨j, y, hy, q2, _, q1⟩ | ⟨q2, q1⟩
              · have : rowOk l i x = false := by
                  have : ((List.range l.length).all fun j => decide (bitI x j = bitI (l.getD j 0) i)) = false := by
                    rw [List.all_eq_false]
                    refine ⟨j, List.mem_range.2 (List.getElem?_eq_some_iff.1 hy).1, ?_⟩
                    rw [show l.getD j 0 = y by simp [List.getD, hy], q2]; simp
                  rw [hall, this]; simp
                have hlq := fun (K : Ex → List Value → H → Option (Ex × List Value × H)) => lp_eq (K := K) q1
                simp [f36_l1, hi, e1, h1, hni, h2, hb, h3, this, hlq]
              · have : rowOk l i x = true := by
                  have : ((List.range l.length).all fun j => decide (bitI x j = bitI (l.getD j 0) i)) = true := by
                    rw [List.all_eq_true]
                    intro j hj
                    have hj := List.mem_range.1 hj
                    have := q2 j _ (List.getElem?_eq_getElem hj)
                    simpa [List.getD, List.getElem?_eq_getElem hj] using this
                  rw [hall, this, decide_eq_false h1, decide_eq_false h2, decide_eq_false h3]; rfl
                have hlq := fun (K : Ex → List Value → H → Option (Ex × List Value × H)) => lp_eq (K := K) q1
                simp [f36_l1, hi, e1, h1, hni, h2, hb, h3, this, hlq, hadd])
    have hle1 : ¬ (l.length : Int) < 1 := by omega
    have hle2 : ¬ (10 : Int) < (l.length : Int) := by omega
    rcases hlp with ⟨j, y, hy, q2, _, q1⟩ | ⟨q2, q1⟩
    · have hv : validG l = false := by
        rw [Bool.eq_false_iff]
        intro hc
        have := (validG_iff hl).1 hc j y hy
        rw [this] at q2
        cases q2
      rw [hv]
      exact y36 (k := 200010) (by simp [f36, hn, hle1, hle2, lp_eq q1])
    · have hv : validG l = true := (validG_iff hl).2 q2
      rw [hv, if_pos rfl]
      exact y36 (k := 200010) (by simp [f36, hn, hle1, hle2, lp_eq q1])
  · have hv : validG l = false := by
      unfold validG
      rw [Bool.eq_false_iff]
      intro hc
      simp only [Bool.and_eq_true, decide_eq_true_iff] at hc
      exact hl hc.1
    rw [hv]
    refine y36 (k := 0) ?_
    simp [f36, hn]
    omega
end Go.AM
end

section
namespace Go.AM
/-- The set of the numbers below n with a property. -/
def mkS (p : Nat → Bool) : Nat → Nat
  | 0 => 0
  | n + 1 => mkS p n ||| (if p n = true then 2 ^ n else 0)
theorem mkS_lt (p : Nat → Bool) : ∀ n, mkS p n < 2 ^ n := by
  intro n
  induction n with
  | zero => simp [mkS]
  | succ n ih =>
    simp only [mkS]
    have h1 : mkS p n < 2 ^ (n + 1) := Nat.lt_trans ih (Nat.pow_lt_pow_right (by omega) (by omega))
    refine Nat.or_lt_two_pow h1 ?_
    split
    · exact Nat.pow_lt_pow_right (by omega) (by omega)
    · exact Nat.two_pow_pos _
theorem mkS_bit (p : Nat → Bool) : ∀ n i, (mkS p n).testBit i = (decide (i < n) && p i) := by
  intro n
  induction n with
  | zero => intro i; simp [mkS]
  | succ n ih =>
    intro i
    simp only [mkS]
    rw [Nat.testBit_or, ih]
    by_cases hi : i = n
    · subst hi
      cases hp : p i <;> simp
    · have h1 : (if p n = true then 2 ^ n else 0).testBit i = false := by
        split
        · rw [Nat.testBit_two_pow]; simp; omega
        · simp
      rw [h1, Bool.or_false]
      have : decide (i < n) = decide (i < n + 1) := by rw [decide_eq_decide]; omega
      rw [this]
theorem big_bit {a n i : Nat} (ha : a < 2 ^ n) (hi : n ≤ i) : a.testBit i = false := Nat.testBit_lt_two_pow (Nat.lt_of_lt_of_le ha (Nat.pow_le_pow_right (by omega) hi))
theorem bit_lt {a n i : Nat} (ha : a < 2 ^ n) (h : a.testBit i = true) : i < n := by
  refine Classical.byContradiction fun hc => ?_
  rw [big_bit ha (by omega)] at h
  cases h
theorem set_ext {a b n : Nat} (ha : a < 2 ^ n) (hb : b < 2 ^ n) (h : ∀ i, i < n → a.testBit i = b.testBit i) : a = b := by
  apply Nat.eq_of_testBit_eq
  intro i
  by_cases hi : i < n
  · exact h i hi
  · rw [big_bit ha (by omega), big_bit hb (by omega)]
/-- The numbers of a set, rising. -/
def elts (s : Nat) : List Nat := (List.range 10).filter fun i => s.testBit i
theorem mem_elts {s i : Nat} (hs : s < 1024) : i ∈ elts s ↔ s.testBit i = true := by
  unfold elts
  rw [List.mem_filter, List.mem_range]
  exact ⟨And.right, fun h => ⟨bit_lt (n := 10) hs h, h⟩⟩
theorem elts_all : ((List.range 1024).all fun n => decide (n = 0) || (decide (elts n = low n :: elts (n &&& (n - 1))) && decide (n &&& (n - 1) < n))) = true := by decide +kernel
theorem elts_next {n : Nat} (h0 : 0 < n) (h : n < 1024) : elts n = low n :: elts (n &&& (n - 1)) ∧ n &&& (n - 1) < n := by
  have := List.all_eq_true.1 elts_all n (List.mem_range.2 h)
  simp only [Bool.or_eq_true, Bool.and_eq_true, decide_eq_true_iff] at this
  rcases this with h1 | h1
  · omega
  · exact h1
theorem elts_zero : elts 0 = [] := by decide
theorem elts_len (n : Nat) : (elts n).length = pop n := by
  unfold elts pop
  rw [List.countP_eq_length_filter]
theorem elts_nodup (n : Nat) : (elts n).Nodup := by
  unfold elts
  exact List.Pairwise.filter _ List.nodup_range
/-- Fewer numbers in a smaller set. -/
theorem pop_lt {a b i : Nat} (hb : b < 1024) (h : ∀ j, a.testBit j = true → b.testBit j = true) (hi : b.testBit i = true) (ha : a.testBit i = false) : pop a < pop b := by
  have hi10 : i < 10 := bit_lt (n := 10) hb hi
  have key : ∀ n, i < n → ((List.range n).countP fun j => a.testBit j) < ((List.range n).countP fun j => b.testBit j) := by
    intro n
    induction n with
    | zero => intro h; omega
    | succ n ih =>
      intro hn
      rw [List.range_succ, List.countP_append, List.countP_append]
      have hle : ((List.range n).countP fun j => a.testBit j) ≤ ((List.range n).countP fun j => b.testBit j) := List.countP_mono_left fun j _ hj => h j hj
      by_cases hin : i = n
      · subst hin
        simp [hi, ha]
        omega
      · have := ih (by omega)
        have h2 : ([n].countP fun j => a.testBit j) ≤ ([n].countP fun j => b.testBit j) := List.countP_mono_left fun j _ hj => h j hj
        omega
  exact key 10 hi10
theorem pop_le_of {a b : Nat} (h : ∀ j, a.testBit j = true → b.testBit j = true) : pop a ≤ pop b := List.countP_mono_left fun j _ hj => h j hj
theorem pop_le_n {a n : Nat} (hn : n ≤ 10) (ha : a < 2 ^ n) : pop a ≤ n := by
  unfold pop
  rw [show 10 = n + (10 - n) by omega, List.range_add, List.countP_append]
  have h1 : ((List.range n).countP fun i => a.testBit i) ≤ n := Nat.le_trans List.countP_le_length (by simp)
  have h2 : (((List.range (10 - n)).map (n + ·)).countP fun i => a.testBit i) = 0 := by
    rw [List.countP_eq_zero]
    intro x hx
    obtain ⟨y, _, rfl⟩ := List.mem_map.1 hx
    rw [big_bit ha (by omega)]
    simp
  omega
/-- The neighbours of a node. -/
def nb (g : List Nat) (i : Nat) : Nat := g.getD i 0
def adj (g : List Nat) (a b : Nat) : Bool := (nb g a).testBit b
/-- Arrows between at most ten nodes. -/
structure GrB (g : List Nat) : Prop where
  len : g.length ≤ 10
  lt : ∀ x ∈ g, x < 2 ^ g.length
theorem GrB.nb_lt {g : List Nat} (hg : GrB g) (i : Nat) : nb g i < 2 ^ g.length := by
  unfold nb
  rw [List.getD_eq_getElem?_getD]
  cases h : g[i]? with
  | none => exact Nat.two_pow_pos _
  | some x => exact hg.lt x (List.mem_of_getElem? h)
theorem GrB.adj_lt {g : List Nat} (hg : GrB g) {a b : Nat} (h : adj g a b = true) : a < g.length ∧ b < g.length := by
  refine ⟨Classical.byContradiction fun hc => ?_, bit_lt (hg.nb_lt a) h⟩
  unfold adj nb at h
  rw [List.getD_eq_getElem?_getD, List.getElem?_eq_none (by omega)] at h
  simp at h
theorem GrB.pow {g : List Nat} (hg : GrB g) : 2 ^ g.length ≤ 1024 := Nat.pow_le_pow_right (n := 2) (by omega) hg.len
/-- What a node reaches within a set. -/
inductive Rch (g : List Nat) (W : Nat) (v : Nat) : Nat → Prop
  | base : Rch g W v v
  | step {a b : Nat} : Rch g W v a → adj g a b = true → W.testBit b = true → Rch g W v b
open Classical in
/-- The set of these. -/
noncomputable def rch (g : List Nat) (W v : Nat) : Nat := mkS (fun u => decide (Rch g W v u)) 10
theorem rch_lt (g : List Nat) (W v : Nat) : rch g W v < 1024 := mkS_lt _ 10
theorem Rch.bound {g : List Nat} {W v u : Nat} (hv : v < 10) (hW : W < 1024) (h : Rch g W v u) : u < 10 := by
  cases h with
  | base => exact hv
  | step _ _ hb => exact bit_lt (n := 10) hW hb
open Classical in
theorem rch_bit {g : List Nat} {W v u : Nat} (hv : v < 10) (hW : W < 1024) : (rch g W v).testBit u = true ↔ Rch g W v u := by
  unfold rch
  rw [mkS_bit, Bool.and_eq_true, decide_eq_true_iff, decide_eq_true_iff]
  exact ⟨And.right, fun h => ⟨h.bound hv hW, h⟩⟩
/-- A set that has the node, and of which all has been reached, and that is closed, is the set of all that is reached. -/
theorem rch_eq {g : List Nat} {W v S : Nat} (hv : v < 10) (hW : W < 1024) (hS : S < 1024) (h0 : S.testBit v = true) (h1 : ∀ u, S.testBit u = true → Rch g W v u) (h2 : ∀ a b, S.testBit a = true → adj g a b = true → W.testBit b = true → S.testBit b = true) : S = rch g W v := by
  refine set_ext (n := 10) hS (rch_lt g W v) fun i hi => ?_
  clear hi
  rw [Bool.eq_iff_iff, rch_bit hv hW]
  refine ⟨h1 i, fun h => ?_⟩
  induction h with
  | base => exact h0
  | step _ hab hb ih => exact h2 _ _ ih hab hb
theorem orAll {g : List Nat} {W u : Nat} : ∀ (L : List Nat) (s : Nat), (L.foldl (fun s i => s ||| (nb g i &&& W)) s).testBit u = true ↔ s.testBit u = true ∨ ∃ i ∈ L, adj g i u = true ∧ W.testBit u = true := by
  intro L
  induction L with
  | nil => intro s; simp
  | cons i L ih =>
    intro s
    rw [List.foldl_cons, ih, Nat.testBit_or, Nat.testBit_and, Bool.or_eq_true, Bool.and_eq_true]
    constructor
    · rintro ((h | h) | ⟨j, hj, h⟩)
      · exact .inl h
      · exact .inr ⟨i, List.mem_cons_self, h⟩
      · exact .inr ⟨j, List.mem_cons_of_mem _ hj, h⟩
    · rintro (h | ⟨j, hj, h⟩)
      · exact .inl (.inl h)
      · rcases List.mem_cons.1 hj with rfl | hj
        · exact .inl (.inr h)
        · exact .inr ⟨j, hj, h⟩
/-- One step of the search. -/
def grow (g : List Nat) (W S : Nat) : Nat := (elts S).foldl (fun s i => s ||| (nb g i &&& W)) S
theorem grow_bit {g : List Nat} {W S u : Nat} (hS : S < 1024) : (grow g W S).testBit u = true ↔ S.testBit u = true ∨ ∃ i, S.testBit i = true ∧ adj g i u = true ∧ W.testBit u = true := by
  unfold grow
  rw [orAll]
  simp only [mem_elts hS]
end Go.AM
end

section
namespace Go.AM
open Go.Proofs
variable {R : Type}
attribute [local simp] nx_eq nx_new nx_set blk_new blk_set asI_int asK_int asB_bool asP_ptr al_eq bx_eq len_slice onE_exit onE_ret onR_ret Value.cells d3 d22 cell_new cell_set rd_new rd_set off eq lt le ifB gv out
/-- Numbers, as_ they stand in a row. -/
abbrev cellsN (l : List Nat) : List (List Value) := l.map fun (n : Nat) => [iv (n : Int)]
theorem cellsN_eq (l : List Nat) : cellsI (l.map Int.ofNat) = cellsN l := by rw [cellsI, List.map_map]; rfl
/-- A graph that is valid. -/
structure GrN (g : List Nat) : Prop extends GrB g where
  pos : 1 ≤ g.length
  irr : ∀ a, adj g a a = false
  sym : ∀ a b, adj g a b = adj g b a
theorem bitI_nat {a p : Nat} (ha : a < 2 ^ 63) (hp : p ≤ 64) : bitI a p = if a.testBit p then 1 else 0 := bit_nat ha hp
theorem wr64u {n : Nat} (h : n < 1024) : wr .u64 (n : Int) = n := by
  unfold wr IntKind.wrap
  show (n : Int) % 2 ^ 64 = n
  omega
theorem getN {h : H} {v : Value} {g : List Nat} (hs : SlR h 3 1 v (cellsN g)) {i : Nat} (hi : i < g.length) (K : Value → Option R) : (six v (i : Int) 1 fun b o => (h.cell b o).bind K) = K (iv (nb g i : Nat)) := by
  have : g[i]? = some (nb g i) := by unfold nb; rw [List.getD_eq_getElem?_getD, List.getElem?_eq_getElem hi]; rfl
  exact hs.c0 (by omega) (x := [iv (nb g i : Nat)]) (by simp [this]) rfl K
/-- The nodes of a set. -/
theorem s54 {S : Nat} (hS : S < 1024) (h : H) : ∃ v' h', rn 54 #[iv S] h = some (v', h') ∧ Exw h h' ∧ SlR h' 3 1 v' (cellsN (elts S)) := by
  obtain ⟨e, ws', h', hl, rfl, xg, v, w, hap, rfl⟩ := lpGo_inv (F := f54_l1 rn 2000)
    (fun d ws g => Ext h g ∧ ∃ (v : Value) (x : Nat) (L : List Nat), ws = [v, iv x] ∧ d = x ∧ x < 1024 ∧ L ++ elts x = elts S ∧ AqR h.nx g 3 1 v (cellsN L))
    (fun e ws g => e = .exit 0 ∧ Ext h g ∧ ∃ v w, AqR h.nx g 3 1 v (cellsN (elts S)) ∧ ws = [v, w])
    (by
      rintro d ws g ⟨xg, v, x, L, rfl, rfl, hx, hL, hap⟩
      by_cases hx0 : d = 0
      · subst hx0
        rw [elts_zero, List.append_nil] at hL
        subst hL
        exact ⟨.exit 0, [v, iv 0], _, by simp [f54_l1], .inr ⟨by simp, rfl, xg, v, iv 0, hap, rfl⟩⟩
      · have h0 : 0 < d := Nat.pos_of_ne_zero hx0
        obtain ⟨h1, h2⟩ := elts_next h0 hx
        have c89 := fun (K : Value → H → Option (Ex × List Value × H)) => calls_eq (K := K) (xs := [.int .u64 d]) (s79 h0 hx g)
        have hsub : sub .i64 (d : Int) 1 = ((d - 1 : Nat) : Int) := by rw [sub64 (by omega) (by omega)]; omega
        have hand : AM.and .i64 (d : Int) ((d - 1 : Nat) : Int) = ((d &&& (d - 1) : Nat) : Int) := and_nat (by omega) (by omega)
        have hLl : L.length ≤ 10 := by
          have h3 := congrArg List.length hL
          rw [List.length_append, elts_len S] at h3
          have := pop_le_n (Nat.le_refl 10) hS
          omega
        obtain ⟨v', g2, e2, a2, n2, k2, b2, hb2, hb2'⟩ := hap.push app22 app22 (bls22 (low d : Int)) rfl rfl (by simp; omega) xg.nx
        have ee : ∀ (K : Value → H → Option (Ex × List Value × H)), (bls Tryd.prog g 22 1 [(0, iv (low d : Nat))] fun y h2 => app Tryd.prog h2 22 22 v y K) = K v' g2 := fun K => e2 K
        refine ⟨.normal, [v', iv (d &&& (d - 1) : Nat)], g2, ?_, .inl ⟨rfl, d &&& (d - 1), h2, ⟨by have := xg.nx; omega, fun b hb => ?_⟩, v', d &&& (d - 1), L ++ [low d], rfl, rfl, by omega, ?_, ?_⟩⟩
        · unfold f54_l1
          rw [show AM.gv [v, iv d] 1 = iv d from rfl, show AM.gv [v, iv d] 0 = v from rfl, asI_int, show AM.eq (d : Int) 0 = false by simp; omega, show (!false) = true from rfl, ifB_true, asI_int, wr64u hx, c89, asI_int, ee, asI_int, asI_int, hsub, hand]
          rfl
        · rw [k2 b (by have := xg.nx; omega) (fun e => by have := (hap.blkOf e).1; omega)]
          exact xg.blk b hb
        · rw [← hL, h1]; simp
        · have : cellsN (L ++ [low d]) = cellsN L ++ [[iv (low d : Int)]] := by simp
          rw [this]; exact a2)
    S 2000 (by omega) ⟨.refl _, .slice none 0 0, S, [], rfl, rfl, hS, rfl, .nil⟩
  obtain ⟨h2, e2, m2, w2⟩ := x54 (k := 2000) (n0 := S) (h := h) (h1 := h') (v := v) (by
    unfold f54
    exact (lp_eq hl).trans rfl) (by obtain ⟨x, y, z, hz⟩ := hap.isSl; rw [hz]; rfl)
  exact ⟨v, h2, e2, w2 xg, hap.slR.ext m2.ext⟩
/-- What a node reaches within a set. -/
theorem s72 {tv : Value} {g : List Nat} {W v : Nat} {h : H} (hg : GrB g) (hs : SlR h 3 1 tv (cellsN g)) (hv : v < g.length) (hW : W < 2 ^ g.length) : rn 72 #[tv, iv v, iv W] h = some (iv (rch g W v : Nat), h) := by
  have hlen := hg.len
  have hpow := hg.pow
  have hW' : W < 1024 := Nat.lt_of_lt_of_le hW hpow
  have hinner : ∀ (S : Nat) (nv : Value) (h2 : H), Ext h h2 → S < 2 ^ g.length → SlR h2 3 1 nv (cellsN (elts S)) →
      lpGo (f72_l2 rn 2000 tv W nv (elts S).length) 2000 [iv S, iv 0] h2 = some (.exit 2, [iv (grow g W S : Nat), iv (elts S).length], h2) := by
    intro S nv h2 x2 hS hn
    have hS' : S < 1024 := Nat.lt_of_lt_of_le hS hpow
    have hpl : (elts S).length ≤ 10 := by rw [elts_len]; exact pop_le_n (Nat.le_refl 10) hS'
    have hl := lp_same (σ := Nat) (ρ := Empty) (F := f72_l2 rn 2000 tv W nv (elts S).length) (k := 2000) (l := elts S) (h := h2) (fun i s => [iv s, iv i])
      (fun _ i s => .inl (s ||| (nb g i &&& W))) (fun _ s => s < 1024) (fun _ => .ret) (fun _ => []) 2 (fun s => [iv s, iv (elts S).length]) (ws := [iv S, iv 0]) (s0 := S) rfl hS' (by omega) (by simp)
      (fun _ _ => by simp [f72_l2])
      (by
        intro i x s hx hI
        have hi := (List.getElem?_eq_some_iff.1 hx).1
        have hxS := (mem_elts hS').1 (List.mem_of_getElem? hx)
        have hxl : x < g.length := bit_lt hS hxS
        have hnw : nb g x &&& W < 1024 := Nat.and_lt_two_pow (n := 10) _ hW'
        refine ⟨fun s' hs' => by cases hs'; exact Nat.or_lt_two_pow (n := 10) hI hnw, ?_⟩
        have e1 : ∀ (K : Value → Option (Ex × List Value × H)), (six nv (i : Int) 1 fun b o => (h2.cell b o).bind K) = K (iv x) := fun K => hn.c0 (by omega) (x := [iv x]) (by simp [hx]) rfl K
        have e2 := fun (K : Value → Option (Ex × List Value × H)) => getN (hs.ext x2) hxl K
        have hand : AM.and .i64 (nb g x : Int) (W : Int) = ((nb g x &&& W : Nat) : Int) := and_nat (by have := hg.nb_lt x; omega) (by omega)
        have hor : AM.or .i64 (s : Int) ((nb g x &&& W : Nat) : Int) = ((s ||| (nb g x &&& W) : Nat) : Int) := or_nat (by omega) (by omega)
        have hadd : add .i64 (i : Int) 1 = (i : Int) + 1 := add64 (by omega) (by omega)
        simp [f72_l2, hi, e1, e2, hand, hor, hadd, rnd])
    rw [itL_inl (fun _ i s => s ||| (nb g i &&& W)), foldI_foldl (fun i s => s ||| (nb g i &&& W))] at hl
    exact hl.1
  obtain ⟨e, ws', h', hl, rfl, xg, w, rfl⟩ := lpGo_inv (F := f72_l1 rn 2000 tv W)
    (fun d ws h2 => Ext h h2 ∧ ∃ S : Nat, ws = [iv 0, iv S] ∧ S < 2 ^ g.length ∧ d + pop S = 10 ∧ S.testBit v = true ∧ ∀ u, S.testBit u = true → Rch g W v u)
    (fun e ws h2 => e = .ret ∧ Ext h h2 ∧ ∃ w, ws = [iv (rch g W v : Nat), w])
    (by
      rintro d ws h2 ⟨x2, S, rfl, hS, hd, hSv, hSr⟩
      have hS' : S < 1024 := Nat.lt_of_lt_of_le hS hpow
      obtain ⟨nv, h3, e54, x3w, hn⟩ := s54 hS' h2
      have x3 := x3w.toExt
      have hl := hinner S nv h3 (x2.trans x3) hS hn
      have hnl : ∀ {T : Type} (K : Int → Option T), len nv K = K ((elts S).length : Int) := fun K => by rw [hn.len]; simp
      have start : f72_l1 rn 2000 tv W [iv 0, iv S] h2 = if grow g W S = S then some (.ret, [iv S, iv S], h3) else some (.normal, [iv 0, iv (grow g W S : Nat)], h3) := by
        unfold f72_l1
        rw [show AM.gv [iv 0, iv S] 1 = iv S from rfl, calls_eq (xs := [iv S]) e54, hnl]
        refine (lp_eq hl).trans ?_
        rw [onE_exit, if_pos rfl, show AM.gv [iv (grow g W S : Nat), iv (elts S).length] 0 = iv (grow g W S : Nat) from rfl, asI_int, asI_int]
        by_cases hq : grow g W S = S
        · rw [if_pos hq, hq, show AM.eq (S : Int) (S : Int) = true by simp, ifB_true]; rfl
        · rw [if_neg hq, show AM.eq (grow g W S : Int) (S : Int) = false by simp; omega, ifB_false]; rfl
      rw [start]
      by_cases hq : grow g W S = S
      · rw [if_pos hq]
        refine ⟨_, _, _, rfl, .inr ⟨by simp, rfl, x2.trans x3, iv S, ?_⟩⟩
        rw [rch_eq (g := g) (W := W) (v := v) (by omega) hW' hS' hSv hSr fun a b ha hab hb => by
          rw [← hq, grow_bit hS']
          exact .inr ⟨a, ha, hab, hb⟩]
      · rw [if_neg hq]
        have hsub : ∀ u, S.testBit u = true → (grow g W S).testBit u = true := fun u hu => (grow_bit hS').2 (.inl hu)
        have hglt : grow g W S < 2 ^ g.length := by
          have key : ∀ (L : List Nat) (s : Nat), s < 2 ^ g.length → L.foldl (fun s i => s ||| (nb g i &&& W)) s < 2 ^ g.length := by
            intro L
            induction L with
            | nil => intro s h; exact h
            | cons i L ih => intro s h; exact ih _ (Nat.or_lt_two_pow h (Nat.and_lt_two_pow _ hW))
          exact key _ _ hS
        obtain ⟨i, hi⟩ : ∃ i, (grow g W S).testBit i ≠ S.testBit i := by
          refine Classical.byContradiction fun hc => hq (Nat.eq_of_testBit_eq fun i => Classical.byContradiction fun h => hc ⟨i, h⟩)
        have hSi : S.testBit i = false := by
          cases hh : S.testBit i with
          | false => rfl
          | true => rw [hh, hsub i hh] at hi; exact absurd rfl hi
        have hGi : (grow g W S).testBit i = true := by
          cases hh : (grow g W S).testBit i with
          | true => rfl
          | false => rw [hh, hSi] at hi; exact absurd rfl hi
        have hp := pop_lt (Nat.lt_of_lt_of_le hglt hpow) hsub hGi hSi
        have hp2 := pop_le_n (Nat.le_refl 10) (Nat.lt_of_lt_of_le hglt hpow)
        refine ⟨_, _, _, rfl, .inl ⟨rfl, 10 - pop (grow g W S), by omega, x2.trans x3, grow g W S, rfl, hglt, by omega, hsub v hSv, fun u hu => ?_⟩⟩
        rcases (grow_bit hS').1 hu with h | ⟨a, ha, hab, hb⟩
        · exact hSr u h
        · exact .step (hSr a ha) hab hb)
    (10 - pop (2 ^ v)) 2000 (by omega) ⟨.refl _, 2 ^ v, rfl, Nat.pow_lt_pow_right (by omega) hv, by
      have := pop_le_n (Nat.le_refl 10) (show 2 ^ v < 2 ^ 10 from Nat.pow_lt_pow_right (by omega) (by omega))
      omega, by simp [Nat.testBit_two_pow], fun u hu => by
      rw [Nat.testBit_two_pow] at hu
      have : v = u := by simpa using hu
      subst this
      exact .base⟩
  refine p72 (k := 2000) (h1 := h') ?_ rfl xg
  unfold f72
  rw [nn_ge (by omega), shl1_nat (by omega)]
  refine (lp_eq hl).trans ?_
  rw [onR_ret]
  rfl
/-- All nodes. -/
def allN (g : List Nat) : Nat := 2 ^ g.length - 1
theorem allN_lt (g : List Nat) : allN g < 2 ^ g.length := by have := Nat.two_pow_pos g.length; unfold allN; omega
theorem allN_bit (g : List Nat) (i : Nat) : (allN g).testBit i = decide (i < g.length) := by unfold allN; rw [Nat.testBit_two_pow_sub_one]
theorem shl_all {n : Nat} (h : n ≤ 10) : sub .i64 (AM.shl .i64 1 (n : Int)) 1 = ((2 ^ n - 1 : Nat) : Int) := by
  have h1 : 2 ^ n ≤ 2 ^ 10 := Nat.pow_le_pow_right (by omega) h
  have h2 := Nat.two_pow_pos n
  rw [shl1_nat (by omega), sub64 (by omega) (by omega)]
  omega
theorem s43 {tv : Value} {g : List Nat} {h : H} (hg : GrB g) (hs : SlR h 3 1 tv (cellsN g)) : rn 43 #[tv] h = some (iv (allN g : Nat), h) := by
  have hn : ∀ {T : Type} (K : Int → Option T), len tv K = K (g.length : Int) := fun K => by rw [hs.len]; simp
  refine p43 (k := 0) ?_ rfl (.refl _)
  simp [f43, hn, nn_ge, shl_all hg.len, allN]
end Go.AM
end

section
namespace Go.AM
open Go.Proofs
variable {R : Type}
attribute [local simp] nx_eq nx_new nx_set blk_new blk_set asI_int asK_int asB_bool asP_ptr al_eq bx_eq len_slice onE_exit onE_ret onR_ret Value.cells d3 d22 cell_new cell_set rd_new rd_set off eq lt le ifB gv out ext20 ext21
/-- A set without two numbers. -/
def del2 (S a b : Nat) : Nat := without (without S (2 ^ a)) (2 ^ b)
theorem del2_lt {S a b n : Nat} (h : S < 2 ^ n) : del2 S a b < 2 ^ n := without_le _ _ (without_le _ _ h)
end Go.AM
end

section
namespace Go.AM
open Go.Proofs
variable {R : Type}
attribute [local simp] nx_eq nx_new nx_set blk_new blk_set asI_int asK_int asB_bool asP_ptr al_eq bx_eq len_slice onE_exit onE_ret onR_ret Value.cells d3 d22 cell_new cell_set rd_new rd_set off eq lt le ifB gv out ext20 ext21
theorem SlR.blkR {h : H} {e : TypeId} {s : Nat} {v : Value} {L : List (List Value)} (a : SlR h e s v L) {b : Nat} (hb : blkOf v = some b) : b < h.nx ∧ ∃ cs own, h.blk b = some (.row cs e own) := by
  cases a with
  | nil => cases hb
  | at_ hb' hr => cases hb; exact ⟨hb', _, _, hr⟩
/-- The edges of a node to greater ones. -/
def edgeIn (g : List Nat) (a j : Nat) (acc : List (Nat × Nat)) : List (Nat × Nat) := if adj g a (a + 1 + j) = true then acc ++ [(a, a + 1 + j)] else acc
def edgeRow (g : List Nat) (a : Nat) (acc : List (Nat × Nat)) : List (Nat × Nat) := foldI (fun _ j acc => edgeIn g a j acc) (List.range (g.length - 1 - a)) 0 acc
/-- All edges, in order. -/
def edgesP (g : List Nat) : List (Nat × Nat) := foldI (fun _ a acc => edgeRow g a acc) (List.range g.length) 0 []
/-- A loop that appends is the same as_ a filter. -/
theorem foldI_filter {α β : Type} {p : α → Bool} {f : α → β} : ∀ (l : List α) (i : Nat) (s : List β), foldI (fun _ x acc => if p x = true then acc ++ [f x] else acc) l i s = s ++ (l.filter p).map f := by
  intro l
  induction l with
  | nil => intro i s; simp [foldI]
  | cons x l ih =>
    intro i s
    simp only [foldI]
    rw [ih]
    cases hp : p x <;> simp [List.filter_cons, hp]
theorem adj_bit {g : List Nat} (hg : GrB g) {a b : Nat} (hb : b ≤ 64) : AM.and .i64 (shr .i64 (nb g a : Int) (b : Int)) 1 = if adj g a b then 1 else 0 := by
  have h1 := hg.nb_lt a
  have h2 := hg.pow
  exact bit_nat (by omega) hb
end Go.AM
end

section
namespace Go.AM
open Go.Proofs
variable {R : Type}
attribute [local simp] nx_eq nx_new nx_set blk_new blk_set asI_int asK_int asB_bool asP_ptr al_eq bx_eq len_slice onE_exit onE_ret onR_ret Value.cells d3 d22 d72 w3 cell_new cell_set rd_new rd_set off eq lt le ifB gv out ext20 ext21
/-- A graph without an edge. -/
def delE (g : List Nat) (a b : Nat) : List Nat := (g.set a (without (nb g a) (2 ^ b))).set b (without (nb g b) (2 ^ a))
theorem delE_len (g : List Nat) (a b : Nat) : (delE g a b).length = g.length := by simp [delE]
theorem nb_set {g : List Nat} {a x i : Nat} (ha : a < g.length) : nb (g.set a x) i = if i = a then x else nb g i := by
  unfold nb
  rw [List.getD_eq_getElem?_getD, List.getD_eq_getElem?_getD, List.getElem?_set]
  by_cases h : a = i
  · subst h; simp [ha]
  · rw [if_neg h, if_neg (fun e => h e.symm)]
theorem adj_delE {g : List Nat} {a b u v : Nat} (ha : a < g.length) (hb : b < g.length) (hab : a ≠ b) : adj (delE g a b) u v = (adj g u v && !(decide (u = a ∧ v = b) || decide (u = b ∧ v = a))) := by
  unfold adj delE
  rw [nb_set (by simpa using hb), nb_set ha]
  by_cases h1 : u = b
  · subst h1
    rw [if_pos rfl, testBit_without, Nat.testBit_two_pow]
    have : ¬ u = a := fun e => hab e.symm
    simp [this, eq_comm]
  · rw [if_neg h1]
    by_cases h2 : u = a
    · subst h2
      rw [if_pos rfl, testBit_without, Nat.testBit_two_pow]
      simp [h1, eq_comm]
    · rw [if_neg h2]
      simp [h1, h2]
theorem GrB.delE {g : List Nat} (hg : GrB g) (a b : Nat) : GrB (delE g a b) := by
  refine ⟨by rw [delE_len]; exact hg.len, fun x hx => ?_⟩
  rw [delE_len]
  unfold AM.delE at hx
  rcases List.mem_or_eq_of_mem_set hx with h | rfl
  · rcases List.mem_or_eq_of_mem_set h with h | rfl
    · exact hg.lt x h
    · exact without_le _ _ (hg.nb_lt a)
  · exact without_le _ _ (hg.nb_lt b)
end Go.AM
end

section
namespace Go.AM
open Go.Proofs
variable {R : Type}
attribute [local simp] nx_eq nx_new nx_set blk_new blk_set asI_int asK_int asB_bool asP_ptr al_eq bx_eq len_slice onE_exit onE_ret onR_ret Value.cells d3 d22 d72 w3 cell_new cell_set rd_new rd_set off eq lt le ifB gv out ext20 ext21
theorem nb_get {g : List Nat} {i : Nat} (hi : i < g.length) : (g.map Int.ofNat)[i]? = some ((nb g i : Nat) : Int) := by
  unfold nb
  rw [List.getElem?_map, List.getD_eq_getElem?_getD, List.getElem?_eq_getElem hi]
  rfl
theorem nb_eq {g : List Nat} {i : Nat} {x : Int} (h : (g.map Int.ofNat)[i]? = some x) : x = ((nb g i : Nat) : Int) := by
  have hi : i < g.length := by have := (List.getElem?_eq_some_iff.1 h).1; simpa using this
  rw [nb_get hi] at h
  exact (Option.some.inj h).symm
end Go.AM
end

section
namespace Go.AM
open Go.Proofs
variable {R : Type}
attribute [local simp] nx_eq nx_new nx_set blk_new blk_set asI_int asK_int asB_bool asP_ptr al_eq bx_eq len_slice onE_exit onE_ret onR_ret Value.cells d3 d22 d72 w3 cell_new cell_set rd_new rd_set off eq lt le ifB gv out ext20 ext21
theorem s55 {S : Nat} (hS : S < 1024) (h : H) : rn 55 #[iv S] h = some (iv (pop S : Nat), h) := by
  refine p55 (k := 0) (h1 := h) ?_ rfl (.refl _)
  unfold f55
  rw [wr64u hS, calls_eq (xs := [.int .u64 S]) (s64 hS h), asI_int]
end Go.AM
end

section
namespace Go.AM
open Go.Proofs
variable {R : Type}
theorem pop_zero' {S : Nat} (hS : S < 1024) (h : pop S = 0) : S = 0 := by
  refine Classical.byContradiction fun hc => ?_
  have := (elts_next (Nat.pos_of_ne_zero hc) hS).1
  have h1 := elts_len S
  rw [this, h] at h1
  simp at h1
end Go.AM
end

section
namespace Go.AM
open Go.Proofs
theorem Rch.trans {g : List Nat} {W a b c : Nat} (h1 : Rch g W a b) (h2 : Rch g W b c) : Rch g W a c := by
  induction h2 with
  | base => exact h1
  | step _ hab hb ih => exact .step ih hab hb
theorem Rch.one {g : List Nat} {W a b : Nat} (h : adj g a b = true) (hb : W.testBit b = true) : Rch g W a b := .step .base h hb
theorem elts_n {b n : Nat} (hn : n ≤ 10) (hb : b < 2 ^ n) : elts b = (List.range n).filter fun i => b.testBit i := by
  unfold elts
  rw [show 10 = n + (10 - n) by omega, List.range_add, List.filter_append]
  have : (((List.range (10 - n)).map (n + ·)).filter fun i => b.testBit i) = [] := by
    rw [List.filter_eq_nil_iff]
    intro x hx
    obtain ⟨y, _, rfl⟩ := List.mem_map.1 hx
    rw [big_bit hb (by omega)]
    simp
  rw [this, List.append_nil]
end Go.AM
end

section
namespace Go.AM
open Go.Proofs
/-- The arcs without the edge from s to t. -/
def lessF (F : Nat → Nat → Prop) (s t v u : Nat) : Prop := F v u ∧ ¬ (v = s ∧ u = t)
section
variable {A A' : Nat → Nat → Prop} {s t : Nat} {F : Nat → Nat → Prop} {R : Nat × Bool → Prop}
theorem EndW.edge (e : EndW A s t F R) (hst : s ≠ t) (ha : A s t) : F s t :=
  Classical.byContradiction fun hf => e.no (e.go _ _ e.start (.fwd (fun h => absurd rfl h) ha (Ne.symm hst) hf) (Ne.symm hst))
theorem FlW.less (f : FlW A s t F) (hA : ∀ v u, A' v u ↔ A v u ∧ ¬ (v = s ∧ u = t) ∧ ¬ (v = t ∧ u = s)) : FlW A' s t (lessF F s t) where
  sub := fun v u h => (hA v u).2 ⟨f.sub _ _ h.1, h.2, fun e => f.ns v (e.2 ▸ h.1)⟩
  ns := fun v h => f.ns v h.1
  nt := fun u h => f.nt u h.1
  out1 := fun v u u' hv h h' => f.out1 v u u' hv h.1 h'.1
  in1 := fun v v' u hu h h' => f.in1 v v' u hu h.1 h'.1
  io := fun v hv ht => by
    have h1 : (∃ u, lessF F s t v u) ↔ ∃ u, F v u := ⟨fun ⟨u, h⟩ => ⟨u, h.1⟩, fun ⟨u, h⟩ => ⟨u, h, fun e => hv e.1⟩⟩
    have h2 : (∃ u, lessF F s t u v) ↔ ∃ u, F u v := ⟨fun ⟨u, h⟩ => ⟨u, h.1⟩, fun ⟨u, h⟩ => ⟨u, h, fun e => ht e.2⟩⟩
    rw [h1, h2]
    exact f.io v hv ht
theorem less_out {v : Nat} (hv : v ≠ s) : (∃ u, lessF F s t v u) ↔ ∃ u, F v u := ⟨fun ⟨u, h⟩ => ⟨u, h.1⟩, fun ⟨u, h⟩ => ⟨u, h, fun e => hv e.1⟩⟩
theorem EndW.less (e : EndW A s t F R) (f : FlW A s t F) (hst : s ≠ t) (hA : ∀ v u, A' v u ↔ A v u ∧ ¬ (v = s ∧ u = t) ∧ ¬ (v = t ∧ u = s)) : EndW A' s t (lessF F s t) R where
  start := e.start
  no := e.no
  go := fun x y hx ha hy => by
    refine e.go x y hx ?_ hy
    cases ha with
    | back hv ho hp => exact .back hv ((less_out hv).1 ho) hp.1
    | fwd hw ha hu hf =>
      obtain ⟨h1, h2, h3⟩ := (hA _ _).1 ha
      exact .fwd (fun hv ho => hw hv ((less_out hv).2 ho)) h1 hu fun h => hf ⟨h, h2⟩
  by_ := fun x hx => by
    rcases e.by_ x hx with h | ⟨y, hy, ha⟩
    · exact .inl h
    · refine .inr ⟨y, hy, ?_⟩
      cases ha with
      | @back v p w hv ho hp => exact .back hv ((less_out hv).2 ho) ⟨hp, fun e' => e.not_t f hst w (e'.2 ▸ hy)⟩
      | @fwd v u w hw ha hu hf =>
        refine .fwd (fun hv ho => hw hv ((less_out hv).1 ho)) ((hA _ _).2 ⟨ha, fun e' => ?_, fun e' => hu e'.2⟩) hu fun h => hf h.1
        exact e.no (e'.2 ▸ hx)
theorem chain_snoc : ∀ (w : List Nat) {v a b : Nat}, chainA A v w a → A a b → chainA A v (w ++ [b]) b := by
  intro w
  induction w with
  | nil => intro v a b h hab; cases h; exact ⟨hab, rfl⟩
  | cons u w ih => intro v a b h hab; exact ⟨h.1, ih h.2 hab⟩
theorem chain_tail : ∀ (w : List Nat) {v z t : Nat} {w' : List Nat}, chainA A v (w ++ z :: w') t → chainA A z w' t := by
  intro w
  induction w with
  | nil => intro v z t w' h; exact h.2
  | cons u w ih => intro v z t w' h; exact ih h.2
/-- A walk from s that does not come back to s. -/
theorem chain_away (s : Nat) : ∀ (n : Nat) (w : List Nat), w.length ≤ n → chainA A s w t → ∃ w', chainA A s w' t ∧ (∀ x ∈ w', x ∈ w) ∧ ∀ x ∈ w', x ≠ s := by
  intro n
  induction n with
  | zero =>
    intro w hw h
    have : w = [] := List.length_eq_zero_iff.1 (by omega)
    subst this
    exact ⟨[], h, fun _ h => h, fun _ h => by cases h⟩
  | succ n ih =>
    intro w hw h
    by_cases hs : s ∈ w
    · obtain ⟨a, b, rfl⟩ := List.append_of_mem hs
      simp only [List.length_append, List.length_cons] at hw
      obtain ⟨w', h1, h2, h3⟩ := ih b (by omega) (chain_tail a h)
      exact ⟨w', h1, fun x hx => List.mem_append.2 (.inr (List.mem_cons_of_mem _ (h2 x hx))), h3⟩
    · exact ⟨w, h, fun _ h => h, fun x hx e => hs (e ▸ hx)⟩
end
section
variable {g : List Nat} {s t : Nat}
/-- Arrows of a graph. -/
def adjP (g : List Nat) (a b : Nat) : Prop := adj g a b = true
theorem rch_chain {W : Nat} (h : Rch g W s t) : ∃ w, chainA (adjP g) s w t ∧ ∀ x ∈ w, W.testBit x = true := by
  induction h with
  | base => exact ⟨[], rfl, fun _ h => by cases h⟩
  | step _ hab hb ih =>
    obtain ⟨w, h1, h2⟩ := ih
    refine ⟨w ++ [_], chain_snoc w h1 hab, fun x hx => ?_⟩
    rcases List.mem_append.1 hx with h | h
    · exact h2 x h
    · rw [List.mem_singleton.1 h]; exact hb
theorem chain_rch {W : Nat} : ∀ (w : List Nat) (s : Nat), chainA (adjP g) s w t → (∀ x ∈ w, W.testBit x = true) → Rch g W s t := by
  intro w
  induction w with
  | nil => intro s h _; cases h; exact .base
  | cons u w ih => intro s h hw; exact (Rch.one h.1 (hw u List.mem_cons_self)).trans (ih u h.2 fun x hx => hw x (List.mem_cons_of_mem _ hx))
theorem chain_in (hg : GrB g) : ∀ (w : List Nat) (s : Nat), chainA (adjP g) s w t → ∀ x ∈ w, x < g.length := by
  intro w
  induction w with
  | nil => intro s _ x hx; cases hx
  | cons u w ih =>
    intro s h x hx
    rcases List.mem_cons.1 hx with rfl | hx
    · exact (hg.adj_lt h.1).2
    · exact ih u h.2 x hx
/-- A set without s and t that parts them. -/
structure Sep (g : List Nat) (s t X : Nat) : Prop where
  ms : X.testBit s = false
  mt : X.testBit t = false
  part : ¬ Rch g (without (allN g) X) s t
def MinSep (g : List Nat) (s t k : Nat) : Prop := (∃ C, C < 2 ^ g.length ∧ Sep g s t C ∧ pop C = k) ∧ ∀ X, X < 2 ^ g.length → Sep g s t X → k ≤ pop X
theorem cnt_pop (hg : GrB g) {X : Nat} (hX : X < 2 ^ g.length) : cntN g.length (fun i => X.testBit i = true) = pop X := by
  rw [← elts_len, elts_n hg.len hX, ← List.countP_eq_length_filter]
  unfold cntN
  refine List.countP_congr fun i _ => ?_
  simp
theorem FlW.le_sep {F : Nat → Nat → Prop} (f : FlW (adjP g) s t F) (hg : GrB g) {X : Nat} (hX : X < 2 ^ g.length) (h : Sep g s t X) : cntN g.length (F s) ≤ pop X := by
  rw [← cnt_pop hg hX]
  refine f.le_cut (fun v u h => hg.adj_lt h) (fun w hw => Classical.byContradiction fun hc => ?_) (by rw [h.mt]; simp)
  refine h.part (chain_rch w s hw fun x hx => ?_)
  rw [testBit_without, allN_bit, decide_eq_true (chain_in hg w s hw x hx)]
  cases hb : X.testBit x with
  | true => exact absurd ⟨x, hx, hb⟩ hc
  | false => rfl
open Classical in
theorem EndW.sep {F : Nat → Nat → Prop} {R : Nat × Bool → Prop} (e : EndW (adjP g) s t F R) (f : FlW (adjP g) s t F) (hg : GrB g) (hst : s ≠ t) (hno : ¬ F s t) : ∃ C, C < 2 ^ g.length ∧ Sep g s t C ∧ pop C = cntN g.length (F s) := by
  refine ⟨mkS (fun v => decide (CutN s t F R v)) g.length, mkS_lt _ _, ⟨?_, ?_, fun h => ?_⟩, ?_⟩
  · rw [mkS_bit, Bool.and_eq_false_iff]; right
    exact decide_eq_false fun h => h.1 rfl
  · rw [mkS_bit, Bool.and_eq_false_iff]; right
    exact decide_eq_false fun h => h.2.1 rfl
  · obtain ⟨w, h1, h2⟩ := rch_chain h
    obtain ⟨w', q1, q2, q3⟩ := chain_away s w.length w (Nat.le_refl _) h1
    rcases e.meets f hst w' s (.inl rfl) hst q1 q3 with ⟨x, hx, hc⟩ | ⟨_, h, _⟩
    · have := h2 x (q2 x hx)
      rw [testBit_without, mkS_bit, decide_eq_true hc, decide_eq_true (chain_in hg w' s q1 x hx)] at this
      simp at this
    · exact hno h
  · rw [← cnt_pop hg (mkS_lt _ _), ← (show cntN g.length (fun u => F s u ∧ u ≠ t) = cntN g.length (F s) from cnt_congr fun u _ => ⟨fun h => h.1, fun h => ⟨h, fun e => hno (e ▸ h)⟩⟩), ← e.count f hst (fun v u h => hg.adj_lt h)]
    refine cnt_congr fun i hi => ?_
    rw [mkS_bit, decide_eq_true hi, Bool.true_and, decide_eq_true_iff]
theorem adjP_delE {a b : Nat} (ha : a < g.length) (hb : b < g.length) (hab : a ≠ b) (v u : Nat) : adjP (delE g a b) v u ↔ adjP g v u ∧ ¬ (v = a ∧ u = b) ∧ ¬ (v = b ∧ u = a) := by
  unfold adjP
  rw [adj_delE ha hb hab, Bool.and_eq_true, Bool.not_eq_true', Bool.or_eq_false_iff, decide_eq_false_iff_not, decide_eq_false_iff_not]
theorem cnt_one {n : Nat} {p : Nat → Prop} {t : Nat} (ht : t < n) (hp : p t) : cntN n (fun u => p u ∧ u = t) = 1 := by
  unfold cntN
  refine (List.countP_congr (q := (· == t)) fun i _ => ?_).trans ?_
  · simp only [decide_eq_true_eq, beq_iff_eq]
    exact ⟨fun h => h.2, fun h => ⟨h ▸ hp, h⟩⟩
  · show (List.range n).count t = 1
    have h1 := List.nodup_range (n := n)
    rw [List.nodup_iff_count] at h1
    have h2 := h1 t
    have h3 := List.count_pos_iff.2 (List.mem_range.2 ht)
    omega
/-- A search that ends without t: the least sets that part s and t, without the edge between them, are as_ great as_ there are ways, without the edge. -/
theorem flow_min {F : Nat → Nat → Prop} {R : Nat × Bool → Prop} (hg : GrB g) (e : EndW (adjP g) s t F R) (f : FlW (adjP g) s t F) (hs : s < g.length) (ht : t < g.length) (hst : s ≠ t) :
    (adj g s t = false → MinSep g s t (cntN g.length (F s))) ∧ (adj g s t = true → ∃ k, cntN g.length (F s) = k + 1 ∧ MinSep (delE g s t) s t k) := by
  constructor
  · intro h
    exact ⟨e.sep f hg hst (fun hF => by have := f.sub _ _ hF; unfold adjP at this; rw [h] at this; cases this), fun X hX hS => f.le_sep hg hX hS⟩
  · intro h
    have hF := e.edge hst h
    have hA := adjP_delE hs ht hst
    have e' := e.less f hst hA
    have f' := f.less hA
    have hg' := hg.delE s t
    have hl := delE_len g s t
    refine ⟨cntN g.length (lessF F s t s), ?_, ?_⟩
    · rw [cnt_split g.length (F s) (fun u => u = t), cnt_one ht hF]
      have : cntN g.length (fun i => F s i ∧ ¬ i = t) = cntN g.length (lessF F s t s) := cnt_congr fun i _ => ⟨fun h => ⟨h.1, fun e => h.2 e.2⟩, fun h => ⟨h.1, fun e => h.2 ⟨rfl, e⟩⟩⟩
      rw [this]; omega
    · rw [← hl]
      exact ⟨e'.sep f' hg' hst fun h => h.2 ⟨rfl, rfl⟩, fun X hX hS => f'.le_sep hg' hX hS⟩
noncomputable def sepQ (g : List Nat) (s t X : Nat) : Bool := !X.testBit s && !X.testBit t && !(rch g (without (allN g) X) s).testBit t
theorem sepQ_iff (hg : GrB g) (hs : s < g.length) {X : Nat} : sepQ g s t X = true ↔ Sep g s t X := by
  have hlen := hg.len
  have hW : without (allN g) X < 1024 := Nat.lt_of_lt_of_le (without_le _ _ (allN_lt g)) hg.pow
  unfold sepQ
  rw [Bool.and_eq_true, Bool.and_eq_true, Bool.not_eq_true', Bool.not_eq_true', Bool.not_eq_true', Bool.eq_false_iff (b := (rch _ _ _).testBit t), ne_eq, rch_bit (by omega) hW]
  exact ⟨fun h => ⟨h.1.1, h.1.2, h.2⟩, fun h => ⟨⟨h.ms, h.mt⟩, h.part⟩⟩
noncomputable def stepC (g : List Nat) (s t S b : Nat) : Nat := if sepQ g s t S = true ∧ pop S < pop b then S else b
noncomputable def cutP (g : List Nat) (s t : Nat) : Nat := (List.range (2 ^ g.length)).foldl (fun b S => stepC g s t S b) (allN g)
theorem foldC : ∀ (l : List Nat) (b : Nat), (l.foldl (fun b S => stepC g s t S b) b = b ∨ (l.foldl (fun b S => stepC g s t S b) b ∈ l ∧ sepQ g s t (l.foldl (fun b S => stepC g s t S b) b) = true)) ∧ pop (l.foldl (fun b S => stepC g s t S b) b) ≤ pop b ∧ ∀ S ∈ l, sepQ g s t S = true → pop (l.foldl (fun b S => stepC g s t S b) b) ≤ pop S := by
  intro l
  induction l with
  | nil => intro b; exact ⟨.inl rfl, Nat.le_refl _, fun _ h => by cases h⟩
  | cons S l ih =>
    intro b
    obtain ⟨h1, h2, h3⟩ := ih (stepC g s t S b)
    rw [List.foldl_cons]
    have hle : pop (stepC g s t S b) ≤ pop b := by unfold stepC; split <;> omega
    refine ⟨?_, Nat.le_trans h2 hle, fun T hT hq => ?_⟩
    · rcases h1 with h | h
      · rw [h]
        by_cases hc : sepQ g s t S = true ∧ pop S < pop b
        · right
          have : stepC g s t S b = S := if_pos hc
          rw [this]; exact ⟨List.mem_cons_self, hc.1⟩
        · left; exact if_neg hc
      · exact .inr ⟨List.mem_cons_of_mem _ h.1, h.2⟩
    · rcases List.mem_cons.1 hT with rfl | hT
      · refine Nat.le_trans h2 ?_
        by_cases hc : pop T < pop b
        · have : stepC g s t T b = T := if_pos ⟨hq, hc⟩
          rw [this]; exact Nat.le_refl _
        · have : stepC g s t T b = b := if_neg fun h => hc h.2
          rw [this]; omega
      · exact h3 T hT hq
theorem pop_allN (hg : GrB g) : pop (allN g) = g.length := by
  rw [← elts_len, elts_n hg.len (allN_lt g)]
  rw [List.filter_eq_self.2 (fun i hi => by rw [allN_bit, decide_eq_true (List.mem_range.1 hi)])]
  exact List.length_range
/-- All but the two part them where they are no neighbours. -/
theorem sep_rest (hg : GrB g) (hst : s ≠ t) (ha : adj g s t = false) : Sep g s t (del2 (allN g) s t) where
  ms := by unfold del2; rw [testBit_without, testBit_without, Nat.testBit_two_pow]; simp
  mt := by unfold del2; rw [testBit_without, testBit_without, Nat.testBit_two_pow]; simp
  part := fun h => by
    have key : ∀ {x : Nat}, Rch g (without (allN g) (del2 (allN g) s t)) s x → x = s := by
      intro x h
      induction h with
      | base => rfl
      | @step a b _ hab hb ih =>
        subst ih
        unfold del2 at hb
        rw [testBit_without, testBit_without, testBit_without, Nat.testBit_two_pow, Nat.testBit_two_pow] at hb
        by_cases h1 : a = b
        · exact h1.symm
        · by_cases h2 : t = b
          · subst h2; rw [ha] at hab; cases hab
          · rw [decide_eq_false h1, decide_eq_false h2] at hb
            cases hx : (allN g).testBit b <;> rw [hx] at hb <;> cases hb
    exact hst (key h).symm
theorem sep_less (hg : GrB g) (hs : s < g.length) {X : Nat} (hX : X < 2 ^ g.length) (h : Sep g s t X) : pop X < g.length := by
  have h1 := pop_lt (a := X) (b := allN g) (i := s) (Nat.lt_of_lt_of_le (allN_lt g) hg.pow) (fun j hj => by rw [allN_bit, decide_eq_true (bit_lt hX hj)]) (by rw [allN_bit, decide_eq_true hs]) h.ms
  rw [pop_allN hg] at h1
  exact h1
theorem cutP_is (hg : GrB g) (hs : s < g.length) (hst : s ≠ t) (ha : adj g s t = false) : cutP g s t < 2 ^ g.length ∧ Sep g s t (cutP g s t) ∧ ∀ X, X < 2 ^ g.length → Sep g s t X → pop (cutP g s t) ≤ pop X := by
  obtain ⟨h1, h2, h3⟩ := foldC (g := g) (s := s) (t := t) (List.range (2 ^ g.length)) (allN g)
  have hr := sep_rest hg hst ha
  have hlt : del2 (allN g) s t < 2 ^ g.length := del2_lt (allN_lt g)
  have hp := h3 _ (List.mem_range.2 hlt) ((sepQ_iff hg hs).2 hr)
  have hq := sep_less hg hs hlt hr
  have h4 : cutP g s t ∈ List.range (2 ^ g.length) ∧ sepQ g s t (cutP g s t) = true := by
    rcases h1 with h | h
    · exfalso
      rw [h, pop_allN hg] at hp
      omega
    · exact h
  exact ⟨List.mem_range.1 h4.1, (sepQ_iff hg hs).1 h4.2, fun X hX hS => h3 X (List.mem_range.2 hX) ((sepQ_iff hg hs).2 hS)⟩
end
end Go.AM
end

section
namespace Go.AM
abbrev Spot := Nat × Bool
/-- Each spot is reached by one that was reached ahead of it. -/
structure SrI (A : Nat → Nat → Prop) (s : Nat) (F : Nat → Nat → Prop) (kv : List (Spot × Spot)) : Prop where
  nd : (kv.map (·.1)).Nodup
  step : ∀ (i : Nat) (y x : Spot), kv[i]? = some (y, x) → Ahead A s F x y ∧ y.1 ≠ s ∧ (x = (s, true) ∨ ∃ j z, j < i ∧ kv[j]? = some (x, z))
/-- What is reached. -/
def Rk (s : Nat) (kv : List (Spot × Spot)) (x : Spot) : Prop := x = (s, true) ∨ x ∈ kv.map (·.1)
/-- The spots from one back to the start. -/
inductive PK (s : Nat) (kv : List (Spot × Spot)) : Spot → List Spot → Prop
  | start : PK s kv (s, true) []
  | step {y x : Spot} {L : List Spot} : (y, x) ∈ kv → PK s kv x L → PK s kv y (x :: L)
def addL : Spot → List Spot → List (Nat × Nat)
  | _, [] => []
  | y, x :: L => if y.2 = true then addL x L else (x.1, y.1) :: addL x L
def cutL : Spot → List Spot → List (Nat × Nat)
  | _, [] => []
  | y, x :: L => if y.2 = true then (y.1, x.1) :: cutL x L else cutL x L
def turnL (F : Nat → Nat → Prop) (y : Spot) (L : List Spot) (v u : Nat) : Prop := (F v u ∧ (v, u) ∉ cutL y L) ∨ (v, u) ∈ addL y L
section
variable {A : Nat → Nat → Prop} {s t : Nat} {F : Nat → Nat → Prop} {kv : List (Spot × Spot)}
theorem SrI.nil : SrI A s F [] := ⟨List.nodup_nil, fun i y x h => by simp at h⟩
theorem SrI.push (r : SrI A s F kv) {x y : Spot} (ha : Ahead A s F x y) (hy : y.1 ≠ s) (hx : Rk s kv x) (hn : y ∉ kv.map (·.1)) : SrI A s F (kv ++ [(y, x)]) where
  nd := by
    rw [List.map_append, List.nodup_append]
    exact ⟨r.nd, by simp, fun a ha b hb e => hn (by simp at hb; rw [← hb, ← e]; exact ha)⟩
  step := fun i y' x' h => by
    rcases Nat.lt_or_ge i kv.length with hi | hi
    · rw [List.getElem?_append_left hi] at h
      obtain ⟨h1, h2, h3⟩ := r.step i y' x' h
      refine ⟨h1, h2, h3.imp id fun ⟨j, z, hj, hz⟩ => ⟨j, z, hj, ?_⟩⟩
      rw [List.getElem?_append_left (by omega)]; exact hz
    · have hi' : i = kv.length := by
        have := (List.getElem?_eq_some_iff.1 h).1
        simp at this; omega
      subst hi'
      rw [List.getElem?_append_right (Nat.le_refl _), Nat.sub_self] at h
      simp at h
      obtain ⟨rfl, rfl⟩ := h
      refine ⟨ha, hy, hx.imp id fun h => ?_⟩
      obtain ⟨p, hp, rfl⟩ := List.mem_map.1 h
      obtain ⟨j, hj⟩ := List.mem_iff_getElem?.1 hp
      have hlt := (List.getElem?_eq_some_iff.1 hj).1
      exact ⟨j, p.2, hlt, by rw [List.getElem?_append_left hlt]; exact hj⟩
theorem SrI.mem (r : SrI A s F kv) {y x : Spot} (h : (y, x) ∈ kv) : Ahead A s F x y ∧ y.1 ≠ s := by
  obtain ⟨i, hi⟩ := List.mem_iff_getElem?.1 h
  exact ⟨(r.step i y x hi).1, (r.step i y x hi).2.1⟩
theorem SrI.endW (r : SrI A s F kv) (hc : ∀ x, Rk s kv x → ∀ y, Ahead A s F x y → y.1 ≠ s → Rk s kv y) (hst : s ≠ t) (hn : ∀ p ∈ kv, p.1.1 ≠ t) : EndW A s t F (Rk s kv) where
  start := .inl rfl
  go := fun x y hx ha hy => hc x hx y ha hy
  by_ := fun x hx => by
    rcases hx with h | h
    · exact .inl h
    · obtain ⟨p, hp, rfl⟩ := List.mem_map.1 h
      obtain ⟨i, hi⟩ := List.mem_iff_getElem?.1 hp
      obtain ⟨h1, _, h3⟩ := r.step i p.1 p.2 hi
      refine .inr ⟨p.2, ?_, h1⟩
      rcases h3 with h | ⟨j, z, _, hj⟩
      · exact .inl h
      · exact .inr (List.mem_map.2 ⟨_, List.mem_of_getElem? hj, rfl⟩)
  no := fun h => by
    rcases h with h | h
    · cases h
    · obtain ⟨p, hp, h⟩ := List.mem_map.1 h
      exact hn p hp (by rw [h])
/-- From each spot that is reached there is a path back. -/
theorem SrI.path (r : SrI A s F kv) : ∀ (i : Nat) (y x : Spot), kv[i]? = some (y, x) → ∃ L, PK s kv y L ∧ (y :: L).Nodup ∧ ∀ z ∈ y :: L, z = (s, true) ∨ ∃ j z', j ≤ i ∧ kv[j]? = some (z, z') := by
  intro i
  induction i using Nat.strongRecOn with
  | ind i ih =>
    intro y x h
    obtain ⟨_, h2, h3⟩ := r.step i y x h
    have hys : y ≠ (s, true) := fun e => h2 (by rw [e])
    rcases h3 with rfl | ⟨j, z, hj, hz⟩
    · refine ⟨[(s, true)], .step (List.mem_of_getElem? h) .start, ?_, fun z hz => ?_⟩
      · rw [List.nodup_cons]
        exact ⟨by simpa using hys, by simp⟩
      · rcases List.mem_cons.1 hz with rfl | hz
        · exact .inr ⟨i, _, Nat.le_refl _, h⟩
        · exact .inl (List.mem_singleton.1 hz)
    · obtain ⟨L, l1, l2, l3⟩ := ih j hj x z hz
      refine ⟨x :: L, .step (List.mem_of_getElem? h) l1, ?_, fun w hw => ?_⟩
      · rw [List.nodup_cons]
        refine ⟨fun hm => ?_, l2⟩
        rcases l3 y hm with e | ⟨k, z', hk, hkz⟩
        · exact hys e
        · have h1 := (List.getElem?_eq_some_iff.1 h)
          have h2 := (List.getElem?_eq_some_iff.1 hkz)
          obtain ⟨a1, a2⟩ := h1
          obtain ⟨b1, b2⟩ := h2
          have := (List.getElem_inj (xs := kv.map (·.1)) (i := i) (j := k) (h₀ := by simpa using a1) (h₁ := by simpa using b1) r.nd).1 (by rw [List.getElem_map, List.getElem_map, a2, b2])
          omega
      · rcases List.mem_cons.1 hw with rfl | hw
        · exact .inr ⟨i, _, Nat.le_refl _, h⟩
        · rcases l3 w hw with e | ⟨k, z', hk, hkz⟩
          · exact .inl e
          · exact .inr ⟨k, z', by omega, hkz⟩
theorem PK.get {y : Spot} {L : List Spot} (h : PK s kv y L) : ∀ (k : Nat) (a b : Spot), (y :: L)[k]? = some a → (y :: L)[k + 1]? = some b → (a, b) ∈ kv := by
  induction h with
  | start => intro k a b _ hb; simp at hb
  | step h1 _ ih =>
    intro k a b ha hb
    cases k with
    | zero => simp at ha hb; subst ha; subst hb; exact h1
    | succ k =>
      rw [List.getElem?_cons_succ] at ha hb
      exact ih k a b ha hb
theorem PK.last {y : Spot} {L : List Spot} (h : PK s kv y L) : (y :: L)[L.length]? = some (s, true) := by
  induction h with
  | start => rfl
  | step _ _ ih => rw [List.length_cons, List.getElem?_cons_succ]; exact ih
theorem addL_cons (y x : Spot) (L : List Spot) : addL y (x :: L) = if y.2 = true then addL x L else (x.1, y.1) :: addL x L := rfl
theorem cutL_cons (y x : Spot) (L : List Spot) : cutL y (x :: L) = if y.2 = true then (y.1, x.1) :: cutL x L else cutL x L := rfl
theorem mem_addL : ∀ (L : List Spot) (y : Spot) (v u : Nat), (v, u) ∈ addL y L ↔ ∃ k x, (y :: L)[k]? = some (u, false) ∧ (y :: L)[k + 1]? = some x ∧ x.1 = v := by
  intro L
  induction L with
  | nil => intro y v u; simp [addL]
  | cons x L ih =>
    intro y v u
    have hsplit : (∃ k z, (y :: x :: L)[k]? = some (u, false) ∧ (y :: x :: L)[k + 1]? = some z ∧ z.1 = v) ↔ ((y = (u, false) ∧ x.1 = v) ∨ ∃ k z, (x :: L)[k]? = some (u, false) ∧ (x :: L)[k + 1]? = some z ∧ z.1 = v) := by
      constructor
      · rintro ⟨k, z, h1, h2, h3⟩
        cases k with
        | zero => simp at h1 h2; subst h2; exact .inl ⟨h1, h3⟩
        | succ k => exact .inr ⟨k, z, by simpa using h1, by simpa using h2, h3⟩
      · rintro (⟨h1, h3⟩ | ⟨k, z, h1, h2, h3⟩)
        · exact ⟨0, x, by simpa using h1, by simp, h3⟩
        · exact ⟨k + 1, z, by simpa using h1, by simpa using h2, h3⟩
    rw [hsplit, ← ih, addL_cons]
    obtain ⟨a, b⟩ := y
    cases b with
    | true => simp
    | false =>
      simp only [Bool.false_eq_true, if_false, List.mem_cons, Prod.mk.injEq, and_true]
      exact ⟨fun h => h.imp (fun h => ⟨h.2.symm, h.1.symm⟩) id, fun h => h.imp (fun h => ⟨h.2.symm, h.1.symm⟩) id⟩
theorem mem_cutL : ∀ (L : List Spot) (y : Spot) (v u : Nat), (v, u) ∈ cutL y L ↔ ∃ k x, (y :: L)[k]? = some (v, true) ∧ (y :: L)[k + 1]? = some x ∧ x.1 = u := by
  intro L
  induction L with
  | nil => intro y v u; simp [cutL]
  | cons x L ih =>
    intro y v u
    have hsplit : (∃ k z, (y :: x :: L)[k]? = some (v, true) ∧ (y :: x :: L)[k + 1]? = some z ∧ z.1 = u) ↔ ((y = (v, true) ∧ x.1 = u) ∨ ∃ k z, (x :: L)[k]? = some (v, true) ∧ (x :: L)[k + 1]? = some z ∧ z.1 = u) := by
      constructor
      · rintro ⟨k, z, h1, h2, h3⟩
        cases k with
        | zero => simp at h1 h2; subst h2; exact .inl ⟨h1, h3⟩
        | succ k => exact .inr ⟨k, z, by simpa using h1, by simpa using h2, h3⟩
      · rintro (⟨h1, h3⟩ | ⟨k, z, h1, h2, h3⟩)
        · exact ⟨0, x, by simpa using h1, by simp, h3⟩
        · exact ⟨k + 1, z, by simpa using h1, by simpa using h2, h3⟩
    rw [hsplit, ← ih, cutL_cons]
    obtain ⟨a, b⟩ := y
    cases b with
    | false => simp
    | true =>
      simp only [if_true, List.mem_cons, Prod.mk.injEq, and_true]
      exact ⟨fun h => h.imp (fun h => ⟨h.1.symm, h.2.symm⟩) id, fun h => h.imp (fun h => ⟨h.1.symm, h.2.symm⟩) id⟩
/-- The path of a search that reached t. -/
theorem SrI.turn (r : SrI A s F kv) (f : FlW A s t F) (hst : s ≠ t) (ht : ∀ p ∈ kv, p.1.1 = t → p.1 = (t, false)) {x : Spot} (hx : ((t, false), x) ∈ kv) :
    ∃ L, PK s kv (t, false) L ∧ L.length ≤ kv.length ∧ FlW A s t (turnL F (t, false) L) ∧ ∃ u0, ¬ F s u0 ∧ A s u0 ∧ u0 ≠ s ∧ ∀ u, turnL F (t, false) L s u ↔ F s u ∨ u = u0 := by
  obtain ⟨i, hi⟩ := List.mem_iff_getElem?.1 hx
  obtain ⟨L, l1, l2, l3⟩ := r.path i _ _ hi
  let m := L.length
  let P : Nat → Spot := fun i => ((t, false) :: L).getD (m - i) (s, true)
  have hget : ∀ i, i ≤ m → ((t, false) :: L)[m - i]? = some (P i) := by
    intro i hi
    show _ = some (((t, false) :: L).getD (m - i) (s, true))
    rw [List.getD_eq_getElem?_getD, List.getElem?_eq_getElem (by simp only [List.length_cons]; omega)]
    rfl
  have hmem : ∀ i, i < m → (P (i + 1), P i) ∈ kv := by
    intro i hi
    have h1 := hget (i + 1) (by omega)
    have h2 := hget i (by omega)
    rw [show m - i = m - (i + 1) + 1 by omega] at h2
    exact l1.get _ _ _ h1 h2
  have hpos : ∀ (k : Nat) (a : Spot), ((t, false) :: L)[k]? = some a → k ≤ m ∧ P (m - k) = a := by
    intro k a h
    have hk : k ≤ m := by have := (List.getElem?_eq_some_iff.1 h).1; simp only [List.length_cons] at this; omega
    refine ⟨hk, ?_⟩
    have := hget (m - k) (by omega)
    rw [show m - (m - k) = k by omega, h] at this
    cases this; rfl
  have hinj : ∀ i j, i ≤ m → j ≤ m → P i = P j → i = j := by
    intro i j hi hj e
    have h1 := List.getElem?_eq_some_iff.1 (hget i hi)
    have h2 := List.getElem?_eq_some_iff.1 (hget j hj)
    obtain ⟨a1, a2⟩ := h1
    obtain ⟨b1, b2⟩ := h2
    have := (List.getElem_inj (xs := (t, false) :: L) (i := m - i) (j := m - j) (h₀ := a1) (h₁ := b1) l2).1 (by rw [a2, b2, e])
    omega
  have hlast : P m = (t, false) := by
    have := hget m (Nat.le_refl _)
    rw [Nat.sub_self] at this
    simp at this
    exact this.symm
  have p : PathW A s t F P m := by
    refine ⟨fun i hi => (r.mem (hmem i hi)).1, ?_, hlast, hinj, fun i h0 hi => ?_, fun i hi e => ?_⟩
    · have := hget 0 (Nat.zero_le _)
      rw [Nat.sub_zero] at this
      rw [l1.last] at this
      exact (Option.some.inj this).symm
    · obtain ⟨j, rfl⟩ : ∃ j, i = j + 1 := ⟨i - 1, by omega⟩
      exact (r.mem (hmem j (by omega))).2
    · rcases Nat.eq_zero_or_pos i with h0 | h0
      · subst h0
        have := hget 0 (Nat.zero_le _)
        rw [Nat.sub_zero] at this
        rw [l1.last] at this
        have h0 := Option.some.inj this
        rw [← h0] at e
        exact hst e
      · obtain ⟨j, rfl⟩ : ∃ j, i = j + 1 := ⟨i - 1, by omega⟩
        have h1 := ht _ (hmem j (by omega)) e
        have := hinj (j + 1) m (by omega) (Nat.le_refl _) (by rw [hlast]; exact h1)
        omega
  have hadd : ∀ v u, addW P m v u ↔ (v, u) ∈ addL (t, false) L := by
    intro v u
    rw [mem_addL]
    constructor
    · rintro ⟨i, hi, h1, h2⟩
      refine ⟨m - (i + 1), P i, ?_, ?_, h1⟩
      · rw [hget (i + 1) (by omega), h2]
      · rw [show m - (i + 1) + 1 = m - i by omega]; exact hget i (by omega)
    · rintro ⟨k, z, h1, h2, h3⟩
      obtain ⟨hk, e1⟩ := hpos k _ h1
      obtain ⟨hk2, e2⟩ := hpos (k + 1) _ h2
      refine ⟨m - (k + 1), by omega, by rw [e2]; exact h3, ?_⟩
      rw [show m - (k + 1) + 1 = m - k by omega]; exact e1
  have hcut : ∀ v u, cutW P m v u ↔ (v, u) ∈ cutL (t, false) L := by
    intro v u
    rw [mem_cutL]
    constructor
    · rintro ⟨i, hi, h1, h2⟩
      refine ⟨m - (i + 1), P i, ?_, ?_, h2⟩
      · rw [hget (i + 1) (by omega), h1]
      · rw [show m - (i + 1) + 1 = m - i by omega]; exact hget i (by omega)
    · rintro ⟨k, z, h1, h2, h3⟩
      obtain ⟨hk, e1⟩ := hpos k _ h1
      obtain ⟨hk2, e2⟩ := hpos (k + 1) _ h2
      refine ⟨m - (k + 1), by omega, ?_, by rw [e2]; exact h3⟩
      rw [show m - (k + 1) + 1 = m - k by omega]; exact e1
  have htu : turnW F P m = turnL F (t, false) L := by
    funext v u
    unfold turnW turnL
    rw [hadd, hcut]
  have hlen : L.length ≤ kv.length := by
    have h1 : ((t, false) :: L).length ≤ ((s, true) :: kv.map (·.1)).length := by
      refine List.Nodup.length_le_of_subset l2 fun z hz => ?_
      rcases l3 z hz with e | ⟨j, z', _, h⟩
      · rw [e]; exact List.mem_cons_self
      · exact List.mem_cons_of_mem _ (List.mem_map.2 ⟨_, List.mem_of_getElem? h, rfl⟩)
    simp only [List.length_cons, List.length_map] at h1
    omega
  refine ⟨L, l1, hlen, ?_, ?_⟩
  · rw [← htu]; exact turn_ok f p
  · rw [← htu]; exact turn_first p
end
end Go.AM
end

section
namespace Go.AM
open Go.Proofs
/-- The arcs of a state. -/
def flS (s first : Nat) (nx : List Int) (v u : Nat) : Prop := (v = s ∧ first.testBit u = true) ∨ (v ≠ s ∧ nx[v]? = some (u : Int))
structure StW (g : List Nat) (s t first : Nat) (nx : List Int) (bf : List Value) : Prop where
  fl : FlW (adjP g) s t (flS s first nx)
  fb : first < 2 ^ g.length
  nxl : nx.length = g.length
  nxv : ∀ x ∈ nx, x = -1 ∨ 0 ≤ x
  nxs : nx[s]? = some (-1)
  bfl : bf.length = g.length
  bfv : ∀ v u, flS s first nx v u → u ≠ t → bf[u]? = some (iv v)
section
variable {g : List Nat} {s t first : Nat} {nx : List Int} {bf : List Value}
theorem flS_zero (s : Nat) (n : Nat) (v u : Nat) : ¬ flS s 0 (List.replicate n (-1)) v u := by
  rintro (⟨_, h⟩ | ⟨_, h⟩)
  · simp at h
  · rw [List.getElem?_replicate] at h
    split at h
    · simp only [Option.some.injEq] at h; omega
    · cases h
theorem StW.zero (g : List Nat) {s t : Nat} (hs : s < g.length) : StW g s t 0 (List.replicate g.length (-1)) (List.replicate g.length (iv (-1))) where
  fl := ⟨fun v u h => (flS_zero _ _ _ _ h).elim, fun v h => flS_zero _ _ _ _ h, fun u h => flS_zero _ _ _ _ h, fun v u u' _ h => (flS_zero _ _ _ _ h).elim, fun v v' u _ h => (flS_zero _ _ _ _ h).elim, fun v _ _ => ⟨fun ⟨u, h⟩ => (flS_zero _ _ _ _ h).elim, fun ⟨u, h⟩ => (flS_zero _ _ _ _ h).elim⟩⟩
  fb := Nat.two_pow_pos _
  nxl := List.length_replicate
  nxv := fun x hx => .inl (List.eq_of_mem_replicate hx)
  nxs := by rw [List.getElem?_replicate, if_pos hs]
  bfl := List.length_replicate
  bfv := fun v u h => (flS_zero _ _ _ _ h).elim
/-- Is a way through it? -/
def onW (s : Nat) (nx : List Int) (v : Nat) : Bool := decide (v ≠ s) && decide (0 ≤ nx.getD v (-1))
theorem StW.on (w : StW g s t first nx bf) {v : Nat} : onW s nx v = true ↔ v ≠ s ∧ ∃ u, flS s first nx v u := by
  unfold onW
  rw [Bool.and_eq_true, decide_eq_true_iff, decide_eq_true_iff, List.getD_eq_getElem?_getD]
  constructor
  · rintro ⟨h1, h2⟩
    refine ⟨h1, ?_⟩
    cases h : nx[v]? with
    | none => rw [h] at h2; simp at h2
    | some x =>
      rw [h] at h2
      simp only [Option.getD_some] at h2
      exact ⟨x.toNat, .inr ⟨h1, by rw [h, Int.toNat_of_nonneg h2]⟩⟩
  · rintro ⟨h1, u, ⟨h, _⟩ | ⟨_, h⟩⟩
    · exact absurd h h1
    · rw [h]; exact ⟨h1, by simp⟩
open Classical in
/-- The node ahead of it. -/
noncomputable def predW (s first : Nat) (nx : List Int) (v : Nat) : Nat := if h : ∃ p, flS s first nx p v then h.choose else 0
theorem predW_is {v : Nat} (h : ∃ p, flS s first nx p v) : flS s first nx (predW s first nx v) v := by
  unfold predW
  rw [dif_pos h]
  exact h.choose_spec
theorem StW.back (w : StW g s t first nx bf) {v : Nat} (h : onW s nx v = true) : v ≠ t ∧ flS s first nx (predW s first nx v) v ∧ bf[v]? = some (iv (predW s first nx v : Nat)) ∧ ∀ p, flS s first nx p v → p = predW s first nx v := by
  obtain ⟨h1, u, h2⟩ := w.on.1 h
  have hvt : v ≠ t := fun e => w.fl.nt u (e ▸ h2)
  have h3 := predW_is ((w.fl.io v h1 hvt).1 ⟨u, h2⟩)
  exact ⟨hvt, h3, w.bfv _ _ h3 hvt, fun p hp => w.fl.in1 _ _ _ hvt hp h3⟩
/-- Is it the next node already? -/
def usedW (s first : Nat) (nx : List Int) (v u : Nat) : Bool := (decide (v = s) && first.testBit u) || (onW s nx v && decide (nx.getD v (-1) = (u : Int)))
theorem StW.used (w : StW g s t first nx bf) {v u : Nat} : usedW s first nx v u = true ↔ flS s first nx v u := by
  unfold usedW
  rw [Bool.or_eq_true, Bool.and_eq_true, Bool.and_eq_true, decide_eq_true_iff, decide_eq_true_iff, w.on, List.getD_eq_getElem?_getD]
  constructor
  · rintro (h | ⟨⟨h1, _⟩, h2⟩)
    · exact .inl h
    · right
      refine ⟨h1, ?_⟩
      cases h : nx[v]? with
      | none => rw [h] at h2; simp only [Option.getD_none] at h2; omega
      | some x => rw [h] at h2; simp only [Option.getD_some] at h2; rw [h2]
  · intro hh
    rcases hh with h | ⟨h1, h2⟩
    · exact .inl h
    · exact .inr ⟨⟨h1, u, .inr ⟨h1, h2⟩⟩, by rw [h2]; rfl⟩
theorem StW.unused (w : StW g s t first nx bf) {v u : Nat} : usedW s first nx v u = false ↔ ¬ flS s first nx v u := by rw [← w.used, Bool.not_eq_true]
/-- The spots that a search reaches along new edges. -/
def fwdL (g : List Nat) (s first : Nat) (nx : List Int) (v : Nat) : List Spot := ((elts (nb g v)).filter fun u => decide (u ≠ s) && !usedW s first nx v u).map fun u => (u, false)
noncomputable def aheadL (g : List Nat) (s first : Nat) (nx : List Int) (x : Spot) : List Spot :=
  if onW s nx x.1 = true then (if x.2 = true then (predW s first nx x.1, true) :: fwdL g s first nx x.1 else [(predW s first nx x.1, true)]) else fwdL g s first nx x.1
theorem StW.mem_fwd (w : StW g s t first nx bf) (hg : GrB g) {v : Nat} {y : Spot} : y ∈ fwdL g s first nx v ↔ ∃ u, y = (u, false) ∧ adjP g v u ∧ u ≠ s ∧ ¬ flS s first nx v u := by
  have hb : nb g v < 1024 := Nat.lt_of_lt_of_le (hg.nb_lt v) hg.pow
  unfold fwdL
  rw [List.mem_map]
  constructor
  · rintro ⟨u, h, rfl⟩
    obtain ⟨h1, h2⟩ := List.mem_filter.1 h
    rw [Bool.and_eq_true, decide_eq_true_iff, Bool.not_eq_true', w.unused] at h2
    exact ⟨u, rfl, (mem_elts hb).1 h1, h2⟩
  · rintro ⟨u, rfl, h1, h2, h3⟩
    refine ⟨u, List.mem_filter.2 ⟨(mem_elts hb).2 h1, ?_⟩, rfl⟩
    rw [Bool.and_eq_true, decide_eq_true_iff, Bool.not_eq_true', w.unused]
    exact ⟨h2, h3⟩
theorem StW.ahead (w : StW g s t first nx bf) (hg : GrB g) {x y : Spot} : y ∈ aheadL g s first nx x ↔ Ahead (adjP g) s (flS s first nx) x y := by
  obtain ⟨v, b⟩ := x
  have hmk : ∀ (hw : v ≠ s → (∃ u, flS s first nx v u) → b = true), y ∈ fwdL g s first nx v → Ahead (adjP g) s (flS s first nx) (v, b) y := by
    intro hw h
    obtain ⟨u, rfl, h1, h2, h3⟩ := (w.mem_fwd hg).1 h
    exact .fwd hw h1 h2 h3
  unfold aheadL
  simp only
  by_cases ho : onW s nx v = true
  · obtain ⟨h1, h2⟩ := w.on.1 ho
    obtain ⟨_, h3, _, h5⟩ := w.back ho
    rw [if_pos ho]
    cases b with
    | true =>
      simp only [if_true, List.mem_cons]
      constructor
      · rintro (rfl | h)
        · exact .back h1 h2 h3
        · exact hmk (fun _ _ => rfl) h
      · intro h
        cases h with
        | back _ _ hp => rw [h5 _ hp]; exact .inl rfl
        | fwd hw ha hu hf => exact .inr ((w.mem_fwd hg).2 ⟨_, rfl, ha, hu, hf⟩)
    | false =>
      simp only [Bool.false_eq_true, if_false, List.mem_singleton]
      constructor
      · rintro rfl
        exact .back h1 h2 h3
      · intro h
        cases h with
        | back _ _ hp => rw [h5 _ hp]
        | fwd hw ha hu hf => cases hw h1 h2
  · rw [if_neg ho]
    constructor
    · exact hmk fun h1 h2 => absurd (w.on.2 ⟨h1, h2⟩) ho
    · intro h
      cases h with
      | back h1 h2 _ => exact absurd (w.on.2 ⟨h1, h2⟩) ho
      | fwd hw ha hu hf => exact (w.mem_fwd hg).2 ⟨_, rfl, ha, hu, hf⟩
open Classical in
noncomputable def firstOf (n s : Nat) (p : Nat → Nat → Prop) : Nat := mkS (fun u => decide (p s u)) n
open Classical in
noncomputable def nxAt (s : Nat) (p : Nat → Nat → Prop) (v : Nat) : Int := if h : v ≠ s ∧ ∃ u, p v u then (h.2.choose : Int) else -1
open Classical in
noncomputable def bfAt (t : Nat) (p : Nat → Nat → Prop) (x : Value) (u : Nat) : Value := if u = t then x else if h : ∃ v, p v u then iv (h.choose : Nat) else iv (-1)
noncomputable def nxOf (n s : Nat) (p : Nat → Nat → Prop) : List Int := (List.range n).map (nxAt s p)
noncomputable def bfOf (n t : Nat) (p : Nat → Nat → Prop) (x : Value) : List Value := (List.range n).map (bfAt t p x)
/-- Arcs of which each node has at most one out and one in. -/
structure OneW (s t : Nat) (p : Nat → Nat → Prop) : Prop where
  out1 : ∀ v u u', v ≠ s → p v u → p v u' → u = u'
  in1 : ∀ v v' u, u ≠ t → p v u → p v' u → v = v'
/-- One arc more. -/
def orArc (p : Nat → Nat → Prop) (a b v u : Nat) : Prop := p v u ∨ (v = a ∧ u = b)
variable {p : Nat → Nat → Prop} {n : Nat}
theorem nxAt_is {v u : Nat} (hv : v ≠ s) (h : p v u) (h1 : ∀ u', p v u' → u' = u) : nxAt s p v = (u : Int) := by
  unfold nxAt
  have hx : v ≠ s ∧ ∃ u, p v u := ⟨hv, u, h⟩
  rw [dif_pos hx, h1 _ hx.2.choose_spec]
theorem nxAt_none {v : Nat} (h : v = s ∨ ∀ u, ¬ p v u) : nxAt s p v = -1 := by
  unfold nxAt
  rw [dif_neg]
  rintro ⟨h1, u, h2⟩
  rcases h with h | h
  · exact h1 h
  · exact h u h2
theorem bfAt_is {v u : Nat} {x : Value} (hu : u ≠ t) (h : p v u) (h1 : ∀ v', p v' u → v' = v) : bfAt t p x u = iv (v : Nat) := by
  unfold bfAt
  have hx : ∃ v, p v u := ⟨v, h⟩
  rw [if_neg hu, dif_pos hx, h1 _ hx.choose_spec]
theorem bfAt_none {u : Nat} {x : Value} (hu : u ≠ t) (h : ∀ v, ¬ p v u) : bfAt t p x u = iv (-1) := by
  unfold bfAt
  rw [if_neg hu, dif_neg]
  rintro ⟨v, h2⟩
  exact h v h2
theorem bfAt_t {x : Value} : bfAt t p x t = x := by unfold bfAt; rw [if_pos rfl]
theorem firstOf_bit {u : Nat} : (firstOf n s p).testBit u = true ↔ u < n ∧ p s u := by
  unfold firstOf
  rw [mkS_bit, Bool.and_eq_true]
  simp only [decide_eq_true_eq]
theorem first_or {b : Nat} (hb : b < n) : firstOf n s (orArc p s b) = firstOf n s p ||| 2 ^ b := by
  refine set_ext (n := n) (mkS_lt _ _) (Nat.or_lt_two_pow (mkS_lt _ _) (Nat.pow_lt_pow_right (by omega) hb)) fun i hi => ?_
  rw [Bool.eq_iff_iff, Nat.testBit_or, Bool.or_eq_true, firstOf_bit, firstOf_bit, Nat.testBit_two_pow, decide_eq_true_iff]
  unfold orArc
  constructor
  · rintro ⟨_, h | ⟨_, h⟩⟩
    · exact .inl ⟨hi, h⟩
    · exact .inr h.symm
  · rintro (⟨_, h⟩ | h)
    · exact ⟨hi, .inl h⟩
    · exact ⟨hi, .inr ⟨rfl, h.symm⟩⟩
theorem first_same {a b : Nat} (ha : a ≠ s) : firstOf n s (orArc p a b) = firstOf n s p := by
  refine set_ext (n := n) (mkS_lt _ _) (mkS_lt _ _) fun i hi => ?_
  rw [Bool.eq_iff_iff, firstOf_bit, firstOf_bit]
  unfold orArc
  exact ⟨fun h => ⟨hi, h.2.elim id fun e => absurd e.1.symm ha⟩, fun h => ⟨hi, .inl h.2⟩⟩
theorem nxAt_congr {p' : Nat → Nat → Prop} {v : Nat} (h1 : ∀ u u', v ≠ s → p v u → p v u' → u = u') (h : ∀ u, v ≠ s → (p' v u ↔ p v u)) : nxAt s p' v = nxAt s p v := by
  by_cases hv : v = s
  · rw [nxAt_none (.inl hv), nxAt_none (.inl hv)]
  · by_cases hx : ∃ u, p v u
    · obtain ⟨u, hu⟩ := hx
      rw [nxAt_is hv hu fun u' h' => h1 _ _ hv h' hu, nxAt_is hv ((h u hv).2 hu) fun u' h' => h1 _ _ hv ((h u' hv).1 h') hu]
    · rw [nxAt_none (.inr fun u hu => hx ⟨u, hu⟩), nxAt_none (.inr fun u hu => hx ⟨u, (h u hv).1 hu⟩)]
theorem bfAt_congr {p' : Nat → Nat → Prop} {u : Nat} {x x' : Value} (hu : u ≠ t) (h1 : ∀ v v', p v u → p v' u → v = v') (h : ∀ v, p' v u ↔ p v u) : bfAt t p' x' u = bfAt t p x u := by
  by_cases hx : ∃ v, p v u
  · obtain ⟨v, hv⟩ := hx
    rw [bfAt_is hu hv fun v' h' => h1 _ _ h' hv, bfAt_is hu ((h v).2 hv) fun v' h' => h1 _ _ ((h v').1 h') hv]
  · rw [bfAt_none hu fun v hv => hx ⟨v, hv⟩, bfAt_none hu fun v hv => hx ⟨v, (h v).1 hv⟩]
theorem nxOf_get {v : Nat} (hv : v < n) : (nxOf n s p)[v]? = some (nxAt s p v) := by
  unfold nxOf
  rw [List.getElem?_map, List.getElem?_range hv]; rfl
theorem bfOf_get {u : Nat} {x : Value} (hu : u < n) : (bfOf n t p x)[u]? = some (bfAt t p x u) := by
  unfold bfOf
  rw [List.getElem?_map, List.getElem?_range hu]; rfl
theorem nxOf_len : (nxOf n s p).length = n := by simp [nxOf]
theorem bfOf_len {x : Value} : (bfOf n t p x).length = n := by simp [bfOf]
theorem nx_same {b : Nat} (o : OneW s t p) : nxOf n s (orArc p s b) = nxOf n s p := by
  unfold nxOf
  refine List.map_congr_left fun v _ => nxAt_congr (fun u u' hv => o.out1 v u u' hv) fun u hv => ?_
  unfold orArc
  exact ⟨fun h => h.elim id fun e => absurd e.1 hv, .inl⟩
theorem nxOf_set {a b : Nat} (ha : a ≠ s) (o : OneW s t (orArc p a b)) : nxOf n s (orArc p a b) = (nxOf n s p).set a (b : Int) := by
  refine List.ext_getElem? fun i => ?_
  rw [List.getElem?_set]
  by_cases hi : i < n
  · rw [nxOf_get hi]
    by_cases e : a = i
    · subst e
      rw [if_pos rfl, if_pos (by rw [nxOf_len]; exact hi)]
      have h : orArc p a b a b := .inr ⟨rfl, rfl⟩
      rw [nxAt_is ha h fun u' h' => o.out1 _ _ _ ha h' h]
    · rw [if_neg e, nxOf_get hi]
      refine congrArg some (nxAt_congr (fun u u' hv h h' => o.out1 _ _ _ hv (.inl h) (.inl h')) fun u _ => ?_)
      unfold orArc
      exact ⟨fun h => h.elim id fun e' => absurd e'.1.symm e, .inl⟩
  · have h1 : ∀ q : Nat → Nat → Prop, (nxOf n s q)[i]? = none := fun q => List.getElem?_eq_none (by rw [nxOf_len]; omega)
    rw [h1, h1]
    split
    · rw [if_neg (by rw [nxOf_len]; omega)]
    · rfl
theorem bfOf_set {a b : Nat} {x : Value} (o : OneW s t (orArc p a b)) : bfOf n t (orArc p a b) (if b = t then iv (a : Nat) else x) = (bfOf n t p x).set b (iv (a : Nat)) := by
  obtain ⟨y, hy⟩ : ∃ y, y = (if b = t then iv (a : Nat) else x) := ⟨_, rfl⟩
  rw [← hy]
  refine List.ext_getElem? fun i => ?_
  rw [List.getElem?_set]
  by_cases hi : i < n
  · rw [bfOf_get hi]
    by_cases e : b = i
    · subst e
      rw [if_pos rfl, if_pos (by rw [bfOf_len]; exact hi)]
      by_cases hb : b = t
      · subst hb
        rw [bfAt_t, hy, if_pos rfl]
      · have h : orArc p a b a b := .inr ⟨rfl, rfl⟩
        rw [bfAt_is hb h fun v' h' => o.in1 _ _ _ hb h' h]
    · rw [if_neg e, bfOf_get hi]
      by_cases hit : i = t
      · subst hit
        rw [bfAt_t, bfAt_t, hy, if_neg e]
      · refine congrArg some (bfAt_congr hit (fun v v' h h' => o.in1 _ _ _ hit (.inl h) (.inl h')) fun v => ?_)
        unfold orArc
        exact ⟨fun h => h.elim id fun e' => absurd e'.2.symm e, .inl⟩
  · have h1 : ∀ (q : Nat → Nat → Prop) (y : Value), (bfOf n t q y)[i]? = none := fun q y => List.getElem?_eq_none (by rw [bfOf_len]; omega)
    rw [h1, h1]
    split
    · rw [if_neg (by rw [bfOf_len]; omega)]
    · rfl
/-- The state that is laid in the end. -/
theorem StW.of {g : List Nat} {F : Nat → Nat → Prop} (f : FlW (adjP g) s t F) (hg : GrB g) (hs : s < g.length) (x : Value) :
    StW g s t (firstOf g.length s F) (nxOf g.length s F) (bfOf g.length t F x) ∧ ∀ v u, flS s (firstOf g.length s F) (nxOf g.length s F) v u ↔ F v u := by
  have key : ∀ v u, flS s (firstOf g.length s F) (nxOf g.length s F) v u ↔ F v u := by
    intro v u
    unfold flS
    constructor
    · rintro (⟨rfl, h⟩ | ⟨hv, h⟩)
      · exact (firstOf_bit.1 h).2
      · have hvn : v < g.length := by have := (List.getElem?_eq_some_iff.1 h).1; rw [nxOf_len] at this; exact this
        rw [nxOf_get hvn, Option.some.injEq] at h
        by_cases hx : ∃ u, F v u
        · obtain ⟨u', hu'⟩ := hx
          rw [nxAt_is hv hu' fun w hw => f.out1 _ _ _ hv hw hu'] at h
          have : u' = u := by omega
          rw [← this]; exact hu'
        · rw [nxAt_none (.inr fun u hu => hx ⟨u, hu⟩)] at h
          omega
    · intro h
      obtain ⟨h1, h2⟩ := hg.adj_lt (f.sub _ _ h)
      by_cases hv : v = s
      · subst hv
        exact .inl ⟨rfl, firstOf_bit.2 ⟨h2, h⟩⟩
      · exact .inr ⟨hv, by rw [nxOf_get h1, nxAt_is hv h fun w hw => f.out1 _ _ _ hv hw h]⟩
  have hF : flS s (firstOf g.length s F) (nxOf g.length s F) = F := by funext v u; exact propext (key v u)
  refine ⟨⟨by rw [hF]; exact f, mkS_lt _ _, nxOf_len, fun y hy => ?_, ?_, bfOf_len, fun v u h hu => ?_⟩, key⟩
  · obtain ⟨v, _, rfl⟩ := List.mem_map.1 hy
    by_cases hx : v ≠ s ∧ ∃ u, F v u
    · obtain ⟨hv, u, hu⟩ := hx
      right
      rw [nxAt_is hv hu fun w hw => f.out1 _ _ _ hv hw hu]; omega
    · left
      refine nxAt_none ?_
      by_cases hv : v = s
      · exact .inl hv
      · exact .inr fun u hu => hx ⟨hv, u, hu⟩
  · rw [nxOf_get hs, nxAt_none (.inl rfl)]
  · rw [hF] at h
    rw [bfOf_get (hg.adj_lt (f.sub _ _ h)).2, bfAt_is hu h fun v' hv' => f.in1 _ _ _ hu hv' h]
/-- What a state holds at s: as_ many ways. -/
theorem StW.count {g : List Nat} {bf : List Value} {first : Nat} {nx : List Int} (w : StW g s t first nx bf) (hg : GrB g) : cntN g.length (flS s first nx s) = pop first := by
  rw [← cnt_pop hg w.fb]
  refine cnt_congr fun u _ => ?_
  unfold flS
  exact ⟨fun h => h.elim And.right fun h => absurd rfl h.1, fun h => .inl ⟨rfl, h⟩⟩
/-- A way: its nodes behind s. -/
structure WayW (F : Nat → Nat → Prop) (s t n u : Nat) (w : List Nat) : Prop where
  first : F s u
  chain : chainA F u w t
  len : w.length ≤ n
theorem StW.ways {g : List Nat} {bf : List Value} {first : Nat} {nx : List Int} (w : StW g s t first nx bf) (hg : GrB g) : ∃ f : Nat → List Nat, ∀ u ∈ elts first, WayW (flS s first nx) s t g.length u (f u) := by
  have h : ∀ u, ∃ l, u ∈ elts first → WayW (flS s first nx) s t g.length u l := by
    intro u
    by_cases hu : u ∈ elts first
    · have hb := (mem_elts (Nat.lt_of_lt_of_le w.fb hg.pow)).1 hu
      have hF : flS s first nx s u := .inl ⟨rfl, hb⟩
      obtain ⟨l, h1, h2⟩ := w.fl.way (n := g.length) (fun v u h => hg.adj_lt h) hF
      exact ⟨l, fun _ => ⟨hF, h1, h2⟩⟩
    · exact ⟨[], fun h => absurd h hu⟩
  exact ⟨fun u => (h u).choose, fun u hu => (h u).choose_spec hu⟩
end
end Go.AM
end

section
namespace Go.AM
open Go.Proofs
noncomputable def f11 (rec : Rec) (_k : Nat) (v0 : Value) (h0 : H) : Option (Value × H) :=
 len v0 fun n0 =>
 sli Tryd.prog h0 23 v0 none (some (.int .i64 (imin n0 13))) none fun v1 =>
 calls rec h0 38 [v1] fun v2 h1 =>
 some (v2, h1)
theorem e11 (rec : Rec) (k : Nat) (v0 : Value) (h : H) : bodyT Tryd.prog E0 SC (XC Tryd.prog rec k) 11 (Value × H) [.opq v0] h (fun v h => some (v, h)) = f11 rec k v0 h := by kernel_rfl
theorem t11 {k : Nat} {v0 : Value} {h h1 : H} {v : Value} (hh : f11 rn k v0 h = some (v, h1)) : rn 11 #[v0] h = some (v, trunc Tryd.prog h h1 v) :=
  run_of_bodyT (args := [.opq v0]) rfl ((e11 _ _ _ _).trans hh)
theorem x11 {k : Nat} {v0 : Value} {h h1 : H} {v : Value} (hh : f11 rn k v0 h = some (v, h1)) (hp : plainO v = false) : ∃ h2, rn 11 #[v0] h = some (v, h2) ∧ Sm h1 h2 ∧ (Ext h h1 → Exw h h2) := trunc_cell hp (t11 hh)
end Go.AM
end

section
namespace Go.AM
open Go.Proofs
variable {R : Type}
attribute [local simp] nx_eq nx_new nx_set blk_new blk_set asI_int asK_int asB_bool asP_ptr al_eq bx_eq len_slice onE_exit onE_ret onR_ret Value.cells d3 d22 d72 w3 cell_new cell_set rd_new rd_set off eq lt le ifB gv out ext20 ext21
theorem zero3 : zero? Tryd.prog 3 = some (iv 0) := by kernel_rfl
end Go.AM
end

section
namespace Go.AM
open Go.Proofs
variable {R : Type}
attribute [local simp] nx_eq nx_new nx_set blk_new blk_set asI_int asK_int asB_bool asP_ptr al_eq bx_eq len_slice onE_exit onE_ret onR_ret Value.cells cell_new cell_set rd_new rd_set off eq lt le ifB gv out ext20 ext21
/-- Is a pair of numbers an edge, in one of its directions? -/
def mtE (e : Nat × Nat) (x : Int × Int) : Bool := (x.1 == (e.1 : Int) && x.2 == (e.2 : Int)) || (x.1 == (e.2 : Int) && x.2 == (e.1 : Int))
def addA (g : List Nat) (a b : Nat) : List Nat := g.set a (nb g a ||| 2 ^ b)
def okZ (E : List (Nat × Nat)) (L : List (Int × Int)) : Bool := (E.zip L).all fun p => mtE p.1 p.2
def aheadP (n : Nat) (L : List (Int × Int)) : List Nat := L.foldl (fun g x => addA g x.1.toNat x.2.toNat) (List.replicate n 0)
def backP (n : Nat) (L : List (Int × Int)) : List Nat := L.foldl (fun g x => addA g x.2.toNat x.1.toNat) (List.replicate n 0)
theorem addA_len (g : List Nat) (a b : Nat) : (addA g a b).length = g.length := by simp [addA]
theorem GrB.addA {g : List Nat} (hg : GrB g) {a b : Nat} (hb : b < g.length) : GrB (addA g a b) := by
  refine ⟨by rw [addA_len]; exact hg.len, fun x hx => ?_⟩
  rw [addA_len]
  rcases List.mem_or_eq_of_mem_set hx with h | rfl
  · exact hg.lt x h
  · exact Nat.or_lt_two_pow (hg.nb_lt a) (Nat.pow_lt_pow_right (by omega) hb)
noncomputable def okC (g : List Nat) (L : List (Int × Int)) : Bool :=
  decide (L.length = (edgesP g).length) && okZ (edgesP g) L && decide (rch (aheadP g.length L) (allN g) 0 = allN g) && decide (rch (backP g.length L) (allN g) 0 = allN g)
theorem eqN {a b : Nat} : AM.eq (a : Int) (b : Int) = decide (a = b) := by
  by_cases h : a = b <;> simp [h] <;> omega
end Go.AM
end

section
namespace Go.AM
open Go.Proofs
variable {R : Type}
attribute [local simp] nx_eq nx_new nx_set blk_new blk_set asI_int asK_int asB_bool asP_ptr al_eq bx_eq len_slice onE_exit onE_ret onR_ret Value.cells cell_new cell_set rd_new rd_set off eq lt le ifB gv out ext20 ext21
theorem eqN' {a b : Nat} : AM.eq (a : Int) (b : Int) = decide (a = b) := eqN
theorem or_calc2 {n B u : Nat} (hn : n ≤ 10) (hB : B < 2 ^ n) (hu : u < n) : AM.or .i64 (B : Int) (AM.shl .i64 1 (u : Int)) = ((B ||| 2 ^ u : Nat) : Int) := by
  have h2 : 2 ^ n ≤ 1024 := Nat.pow_le_pow_right (n := 2) (by omega) hn
  have h3 : 2 ^ u < 1024 := Nat.lt_of_lt_of_le (Nat.pow_lt_pow_right (by omega) hu) h2
  rw [shl1_nat (by omega), or_nat (by omega) (by omega)]
end Go.AM
end

section
namespace Go.AM
open Go.Proofs
variable {R : Type}
attribute [local simp] nx_eq nx_new nx_set blk_new blk_set asI_int asK_int asB_bool asP_ptr al_eq bx_eq len_slice onE_exit onE_ret onR_ret Value.cells cell_new cell_set rd_new rd_set off eq lt le ifB gv out ext20 ext21
/-- Is a number a node? -/
def nodeB (g : List Nat) (z : Int) : Bool := decide (0 ≤ z) && decide (z < (g.length : Int))
theorem s68 {tv : Value} {g : List Nat} {z : Int} {h : H} (hs : SlR h 3 1 tv (cellsN g)) : rn 68 #[tv, iv z] h = some (.bool (nodeB g z), h) := by
  have hn : ∀ {T : Type} (K : Int → Option T), len tv K = K (g.length : Int) := fun K => by rw [hs.len]; simp
  refine p68 (k := 0) (h1 := h) ?_ rfl (.refl _)
  unfold f68 nodeB
  by_cases h0 : 0 ≤ z
  · rw [show AM.le 0 z = true by simp [AM.le, h0], ifB_true, hn, decide_eq_true h0, Bool.true_and]; rfl
  · rw [show AM.le 0 z = false by simp [AM.le]; omega, ifB_false, decide_eq_false h0, Bool.false_and]
theorem s71 {tv : Value} {g : List Nat} {a b : Nat} {h : H} (hg : GrB g) (hs : SlR h 3 1 tv (cellsN g)) (ha : a < g.length) (hb : b < g.length) : rn 71 #[tv, iv a, iv b] h = some (.bool (adj g a b), h) := by
  have hlen := hg.len
  refine p71 (k := 0) (h1 := h) ?_ rfl (.refl _)
  unfold f71
  simp only [d3]
  rw [getN hs ha, asI_int, nn_ge (show (0 : Int) ≤ (b : Int) by omega), adj_bit hg (by omega)]
  cases adj g a b <;> rfl
end Go.AM
end

section
namespace Go.AM
open Go.Proofs
variable {R : Type}
attribute [local simp] nx_eq nx_new nx_set blk_new blk_set asI_int asK_int asB_bool asP_ptr al_eq bx_eq len_slice onE_exit onE_ret onR_ret Value.cells cell_new cell_set rd_new rd_set off eq lt le ifB gv out ext20 ext21
theorem app56 : okApp Tryd.prog 56 22 1 = true := by kernel_rfl
theorem bls56 {x y z} (h : H) : buildSlice Tryd.prog 56 1 [(0, .slice x y z)] h = some (.slice (some ⟨h.nx, 0, none⟩) 1 1, h.new (.row [.slice x y z] 22 true)) := by kernel_rfl
abbrev cellsV (vs : List Value) : List (List Value) := vs.map fun x => [x]
def AllSl (vs : List Value) : Prop := ∀ x ∈ vs, ∃ a n c, x = .slice a n c
def LSI (h : H) (vs : List Value) (LL : List (List Int)) : Prop := vs.length = LL.length ∧ ∀ (i : Nat) (x : Value) (m : List Int), vs[i]? = some x → LL[i]? = some m → SlR h 3 1 x (cellsI m)
theorem LSI.keep {h h' : H} {vs : List Value} {LL : List (List Int)} (a : LSI h vs LL) (hn : h.nx ≤ h'.nx) (hb : ∀ b cs o, b < h.nx → h.blk b = some (.row cs 3 o) → h'.blk b = h.blk b) : LSI h' vs LL :=
  ⟨a.1, fun i x m hx hm => (a.2 i x m hx hm).keepB hn fun b hbb => by
    obtain ⟨h1, cs, o, h2⟩ := (a.2 i x m hx hm).blkR hbb
    exact hb b cs o h1 h2⟩
theorem LSI.ext {h h' : H} {vs : List Value} {LL : List (List Int)} (a : LSI h vs LL) (x : Ext h h') : LSI h' vs LL := a.keep x.nx fun b _ _ hb _ => x.blk b hb
theorem LSI.snoc {h : H} {vs : List Value} {LL : List (List Int)} (a : LSI h vs LL) {x : Value} {m : List Int} (hx : SlR h 3 1 x (cellsI m)) : LSI h (vs ++ [x]) (LL ++ [m]) := by
  refine ⟨by simp [a.1], fun i y k hy hk => ?_⟩
  have h1 := a.1
  by_cases hi : i < vs.length
  · rw [List.getElem?_append_left hi] at hy
    rw [List.getElem?_append_left (by omega)] at hk
    exact a.2 i y k hy hk
  · have hi2 := (List.getElem?_eq_some_iff.1 hy).1
    simp at hi2
    have : i = vs.length := by omega
    subst this
    simp at hy
    rw [h1] at hk
    simp at hk
    subst hy hk
    exact hx
end Go.AM
end

section
namespace Go.AM
open Go.Proofs
section
variable {g : List Nat} {s t : Nat}
theorem without_zero (a : Nat) : without a 0 = a := by
  refine Nat.eq_of_testBit_eq fun i => ?_
  rw [testBit_without, Nat.zero_testBit]; simp
theorem MinSep.zero (m : MinSep g s t 0) (hg : GrB g) : ¬ Rch g (allN g) s t := by
  obtain ⟨⟨C, c1, c2, c3⟩, _⟩ := m
  have h0 : C = 0 := pop_zero' (Nat.lt_of_lt_of_le c1 hg.pow) c3
  subst h0
  have := c2.part
  rw [without_zero] at this
  exact this
end
end Go.AM
end

section
namespace Go.AM
open Go.Proofs
noncomputable def f115 (_rec : Rec) (_k : Nat) (v0 : Value) (n0 : Int) (h0 : H) : Option (Value × H) :=
 al h0 142 [(.int .i64 0), (.bool false)] fun h1 =>
 nil v0 (
 asP v0 fun b0 b1 =>
 ld Tryd.prog h1 22 b0 (off b1 5) fun v1 =>
 six v1 n0 1 fun b2 b3 =>
 ld Tryd.prog h1 3 b2 b3 fun v2 =>
 asI .i64 v2 fun n1 =>
 bld Tryd.prog 142 [(0, (.int .i64 n1)), (1, (.bool true))] fun v3 =>
 st Tryd.prog h1 142 (nx h0) 0 v3 fun h2 =>
 ld Tryd.prog h2 142 (nx h0) 0 fun v4 =>
 some (v4, h2))
theorem e115 (rec : Rec) (k : Nat) (v0 : Value) (n0 : Int) (h : H) : bodyT Tryd.prog E0 SC (XC Tryd.prog rec k) 115 (Value × H) [.opq v0, .int .i64 n0] h (fun v h => some (v, h)) = f115 rec k v0 n0 h := by kernel_rfl
theorem t115 {k : Nat} {v0 : Value} {n0 : Int} {h h1 : H} {v : Value} (hh : f115 rn k v0 n0 h = some (v, h1)) : rn 115 #[v0, .int .i64 n0] h = some (v, trunc Tryd.prog h h1 v) :=
  run_of_bodyT (args := [.opq v0, .int .i64 n0]) rfl ((e115 _ _ _ _ _).trans hh)
theorem p115 {k : Nat} {v0 : Value} {n0 : Int} {h h1 : H} {v : Value} (hh : f115 rn k v0 n0 h = some (v, h1)) (hp : plainO v = true) (x : Ext h h1) : rn 115 #[v0, .int .i64 n0] h = some (v, h) := by rw [t115 hh, trunc_pure hp x]
noncomputable def f100_l1 (_rec : Rec) (_k : Nat) (v0 : Value) (h0 : H) (n3 : Int) (v18 : Value) (n8 : Int) (ws0 : List Value) (h8 : H) : Option (Ex × List Value × H) :=
 asI .i64 (gv ws0 1) fun n9 =>
 ifB (lt n9 n8) (
 asK (gv ws0 1) fun n10 =>
 six v18 n10 1 fun b10 b11 =>
 ld Tryd.prog h8 3 b10 b11 fun v19 =>
 asI .i64 v19 fun n11 =>
 ld Tryd.prog h8 3 (nx h0) 0 fun v20 =>
 asI .i64 v20 fun n12 =>
 nil v0 (
 asP v0 fun b12 b13 =>
 ld Tryd.prog h8 3 b12 (off b13 1) fun v21 =>
 asI .i64 v21 fun n13 =>
 ifB (eq n12 n13) (
 nil v0 (
 asP v0 fun b14 b15 =>
 ld Tryd.prog h8 3 b14 (off b15 3) fun v22 =>
 asI .i64 v22 fun n14 =>
 nn n11 (
 ifB (eq (and .i64 (shr .i64 n14 n11) 1) 1) (
 nil v0 (
 asP v0 fun b16 b17 =>
 ld Tryd.prog h8 3 b16 (off b17 1) fun v23 =>
 asI .i64 v23 fun n15 =>
 ifB (not (eq n11 n15)) (
 asI .i64 (gv ws0 1) fun n16 =>
 out .normal [gv ws0 0, (.int .i64 (add .i64 n16 1))] h8) (
 asI .i64 (gv ws0 1) fun n17 =>
 out .normal [gv ws0 0, (.int .i64 (add .i64 n17 1))] h8))) (
 ifB (le 0 n3) (
 nil v0 (
 asP v0 fun b18 b19 =>
 ld Tryd.prog h8 22 b18 (off b19 4) fun v24 =>
 ld Tryd.prog h8 3 (nx h0) 0 fun v25 =>
 asI .i64 v25 fun n18 =>
 six v24 n18 1 fun b20 b21 =>
 ld Tryd.prog h8 3 b20 b21 fun v26 =>
 asI .i64 v26 fun n19 =>
 nil v0 (
 asP v0 fun b22 b23 =>
 ld Tryd.prog h8 3 b22 (off b23 1) fun v27 =>
 asI .i64 v27 fun n20 =>
 ifB (not (eq n11 n20)) (
 ifB (not (eq n19 n11)) (
 bld Tryd.prog 142 [(0, (.int .i64 n11)), (1, (.bool false))] fun v28 =>
 bls Tryd.prog h8 143 1 [(0, v28)] fun v29 h9 =>
 app Tryd.prog h9 143 143 (gv ws0 0) v29 fun v30 h10 =>
 asI .i64 (gv ws0 1) fun n21 =>
 out .normal [v30, (.int .i64 (add .i64 n21 1))] h10) (
 asI .i64 (gv ws0 1) fun n22 =>
 out .normal [gv ws0 0, (.int .i64 (add .i64 n22 1))] h8)) (
 asI .i64 (gv ws0 1) fun n23 =>
 out .normal [gv ws0 0, (.int .i64 (add .i64 n23 1))] h8)))) (
 nil v0 (
 asP v0 fun b24 b25 =>
 ld Tryd.prog h8 3 b24 (off b25 1) fun v31 =>
 asI .i64 v31 fun n24 =>
 ifB (not (eq n11 n24)) (
 bld Tryd.prog 142 [(0, (.int .i64 n11)), (1, (.bool false))] fun v32 =>
 bls Tryd.prog h8 143 1 [(0, v32)] fun v33 h11 =>
 app Tryd.prog h11 143 143 (gv ws0 0) v33 fun v34 h12 =>
 asI .i64 (gv ws0 1) fun n25 =>
 out .normal [v34, (.int .i64 (add .i64 n25 1))] h12) (
 asI .i64 (gv ws0 1) fun n26 =>
 out .normal [gv ws0 0, (.int .i64 (add .i64 n26 1))] h8))))))) (
 ifB (le 0 n3) (
 nil v0 (
 asP v0 fun b26 b27 =>
 ld Tryd.prog h8 22 b26 (off b27 4) fun v35 =>
 ld Tryd.prog h8 3 (nx h0) 0 fun v36 =>
 asI .i64 v36 fun n27 =>
 six v35 n27 1 fun b28 b29 =>
 ld Tryd.prog h8 3 b28 b29 fun v37 =>
 asI .i64 v37 fun n28 =>
 nil v0 (
 asP v0 fun b30 b31 =>
 ld Tryd.prog h8 3 b30 (off b31 1) fun v38 =>
 asI .i64 v38 fun n29 =>
 ifB (not (eq n11 n29)) (
 ifB (not (eq n28 n11)) (
 bld Tryd.prog 142 [(0, (.int .i64 n11)), (1, (.bool false))] fun v39 =>
 bls Tryd.prog h8 143 1 [(0, v39)] fun v40 h13 =>
 app Tryd.prog h13 143 143 (gv ws0 0) v40 fun v41 h14 =>
 asI .i64 (gv ws0 1) fun n30 =>
 out .normal [v41, (.int .i64 (add .i64 n30 1))] h14) (
 asI .i64 (gv ws0 1) fun n31 =>
 out .normal [gv ws0 0, (.int .i64 (add .i64 n31 1))] h8)) (
 asI .i64 (gv ws0 1) fun n32 =>
 out .normal [gv ws0 0, (.int .i64 (add .i64 n32 1))] h8)))) (
 nil v0 (
 asP v0 fun b32 b33 =>
 ld Tryd.prog h8 3 b32 (off b33 1) fun v42 =>
 asI .i64 v42 fun n33 =>
 ifB (not (eq n11 n33)) (
 bld Tryd.prog 142 [(0, (.int .i64 n11)), (1, (.bool false))] fun v43 =>
 bls Tryd.prog h8 143 1 [(0, v43)] fun v44 h15 =>
 app Tryd.prog h15 143 143 (gv ws0 0) v44 fun v45 h16 =>
 asI .i64 (gv ws0 1) fun n34 =>
 out .normal [v45, (.int .i64 (add .i64 n34 1))] h16) (
 asI .i64 (gv ws0 1) fun n35 =>
 out .normal [gv ws0 0, (.int .i64 (add .i64 n35 1))] h8)))))) (
 out (.exit 0) [gv ws0 0, gv ws0 1] h8)
noncomputable def f100_l2 (_rec : Rec) (_k : Nat) (v0 : Value) (h0 : H) (n3 : Int) (v49 : Value) (n38 : Int) (ws2 : List Value) (h19 : H) : Option (Ex × List Value × H) :=
 asI .i64 (gv ws2 1) fun n39 =>
 ifB (lt n39 n38) (
 asK (gv ws2 1) fun n40 =>
 six v49 n40 1 fun b38 b39 =>
 ld Tryd.prog h19 3 b38 b39 fun v50 =>
 asI .i64 v50 fun n41 =>
 ld Tryd.prog h19 3 (nx h0) 0 fun v51 =>
 asI .i64 v51 fun n42 =>
 nil v0 (
 asP v0 fun b40 b41 =>
 ld Tryd.prog h19 3 b40 (off b41 1) fun v52 =>
 asI .i64 v52 fun n43 =>
 ifB (eq n42 n43) (
 nil v0 (
 asP v0 fun b42 b43 =>
 ld Tryd.prog h19 3 b42 (off b43 3) fun v53 =>
 asI .i64 v53 fun n44 =>
 nn n41 (
 ifB (eq (and .i64 (shr .i64 n44 n41) 1) 1) (
 nil v0 (
 asP v0 fun b44 b45 =>
 ld Tryd.prog h19 3 b44 (off b45 1) fun v54 =>
 asI .i64 v54 fun n45 =>
 ifB (not (eq n41 n45)) (
 asI .i64 (gv ws2 1) fun n46 =>
 out .normal [gv ws2 0, (.int .i64 (add .i64 n46 1))] h19) (
 asI .i64 (gv ws2 1) fun n47 =>
 out .normal [gv ws2 0, (.int .i64 (add .i64 n47 1))] h19))) (
 ifB (le 0 n3) (
 nil v0 (
 asP v0 fun b46 b47 =>
 ld Tryd.prog h19 22 b46 (off b47 4) fun v55 =>
 ld Tryd.prog h19 3 (nx h0) 0 fun v56 =>
 asI .i64 v56 fun n48 =>
 six v55 n48 1 fun b48 b49 =>
 ld Tryd.prog h19 3 b48 b49 fun v57 =>
 asI .i64 v57 fun n49 =>
 nil v0 (
 asP v0 fun b50 b51 =>
 ld Tryd.prog h19 3 b50 (off b51 1) fun v58 =>
 asI .i64 v58 fun n50 =>
 ifB (not (eq n41 n50)) (
 ifB (not (eq n49 n41)) (
 bld Tryd.prog 142 [(0, (.int .i64 n41)), (1, (.bool false))] fun v59 =>
 bls Tryd.prog h19 143 1 [(0, v59)] fun v60 h20 =>
 app Tryd.prog h20 143 143 (gv ws2 0) v60 fun v61 h21 =>
 asI .i64 (gv ws2 1) fun n51 =>
 out .normal [v61, (.int .i64 (add .i64 n51 1))] h21) (
 asI .i64 (gv ws2 1) fun n52 =>
 out .normal [gv ws2 0, (.int .i64 (add .i64 n52 1))] h19)) (
 asI .i64 (gv ws2 1) fun n53 =>
 out .normal [gv ws2 0, (.int .i64 (add .i64 n53 1))] h19)))) (
 nil v0 (
 asP v0 fun b52 b53 =>
 ld Tryd.prog h19 3 b52 (off b53 1) fun v62 =>
 asI .i64 v62 fun n54 =>
 ifB (not (eq n41 n54)) (
 bld Tryd.prog 142 [(0, (.int .i64 n41)), (1, (.bool false))] fun v63 =>
 bls Tryd.prog h19 143 1 [(0, v63)] fun v64 h22 =>
 app Tryd.prog h22 143 143 (gv ws2 0) v64 fun v65 h23 =>
 asI .i64 (gv ws2 1) fun n55 =>
 out .normal [v65, (.int .i64 (add .i64 n55 1))] h23) (
 asI .i64 (gv ws2 1) fun n56 =>
 out .normal [gv ws2 0, (.int .i64 (add .i64 n56 1))] h19))))))) (
 ifB (le 0 n3) (
 nil v0 (
 asP v0 fun b54 b55 =>
 ld Tryd.prog h19 22 b54 (off b55 4) fun v66 =>
 ld Tryd.prog h19 3 (nx h0) 0 fun v67 =>
 asI .i64 v67 fun n57 =>
 six v66 n57 1 fun b56 b57 =>
 ld Tryd.prog h19 3 b56 b57 fun v68 =>
 asI .i64 v68 fun n58 =>
 nil v0 (
 asP v0 fun b58 b59 =>
 ld Tryd.prog h19 3 b58 (off b59 1) fun v69 =>
 asI .i64 v69 fun n59 =>
 ifB (not (eq n41 n59)) (
 ifB (not (eq n58 n41)) (
 bld Tryd.prog 142 [(0, (.int .i64 n41)), (1, (.bool false))] fun v70 =>
 bls Tryd.prog h19 143 1 [(0, v70)] fun v71 h24 =>
 app Tryd.prog h24 143 143 (gv ws2 0) v71 fun v72 h25 =>
 asI .i64 (gv ws2 1) fun n60 =>
 out .normal [v72, (.int .i64 (add .i64 n60 1))] h25) (
 asI .i64 (gv ws2 1) fun n61 =>
 out .normal [gv ws2 0, (.int .i64 (add .i64 n61 1))] h19)) (
 asI .i64 (gv ws2 1) fun n62 =>
 out .normal [gv ws2 0, (.int .i64 (add .i64 n62 1))] h19)))) (
 nil v0 (
 asP v0 fun b60 b61 =>
 ld Tryd.prog h19 3 b60 (off b61 1) fun v73 =>
 asI .i64 v73 fun n63 =>
 ifB (not (eq n41 n63)) (
 bld Tryd.prog 142 [(0, (.int .i64 n41)), (1, (.bool false))] fun v74 =>
 bls Tryd.prog h19 143 1 [(0, v74)] fun v75 h26 =>
 app Tryd.prog h26 143 143 (gv ws2 0) v75 fun v76 h27 =>
 asI .i64 (gv ws2 1) fun n64 =>
 out .normal [v76, (.int .i64 (add .i64 n64 1))] h27) (
 asI .i64 (gv ws2 1) fun n65 =>
 out .normal [gv ws2 0, (.int .i64 (add .i64 n65 1))] h19)))))) (
 out (.exit 0) [gv ws2 0, gv ws2 1] h19)
noncomputable def f100_l3 (_rec : Rec) (_k : Nat) (v0 : Value) (h0 : H) (n3 : Int) (v84 : Value) (n69 : Int) (ws4 : List Value) (h33 : H) : Option (Ex × List Value × H) :=
 asI .i64 (gv ws4 1) fun n70 =>
 ifB (lt n70 n69) (
 asK (gv ws4 1) fun n71 =>
 six v84 n71 1 fun b66 b67 =>
 ld Tryd.prog h33 3 b66 b67 fun v85 =>
 asI .i64 v85 fun n72 =>
 ld Tryd.prog h33 3 (nx h0) 0 fun v86 =>
 asI .i64 v86 fun n73 =>
 nil v0 (
 asP v0 fun b68 b69 =>
 ld Tryd.prog h33 3 b68 (off b69 1) fun v87 =>
 asI .i64 v87 fun n74 =>
 ifB (eq n73 n74) (
 nil v0 (
 asP v0 fun b70 b71 =>
 ld Tryd.prog h33 3 b70 (off b71 3) fun v88 =>
 asI .i64 v88 fun n75 =>
 nn n72 (
 ifB (eq (and .i64 (shr .i64 n75 n72) 1) 1) (
 nil v0 (
 asP v0 fun b72 b73 =>
 ld Tryd.prog h33 3 b72 (off b73 1) fun v89 =>
 asI .i64 v89 fun n76 =>
 ifB (not (eq n72 n76)) (
 asI .i64 (gv ws4 1) fun n77 =>
 out .normal [gv ws4 0, (.int .i64 (add .i64 n77 1))] h33) (
 asI .i64 (gv ws4 1) fun n78 =>
 out .normal [gv ws4 0, (.int .i64 (add .i64 n78 1))] h33))) (
 ifB (le 0 n3) (
 nil v0 (
 asP v0 fun b74 b75 =>
 ld Tryd.prog h33 22 b74 (off b75 4) fun v90 =>
 ld Tryd.prog h33 3 (nx h0) 0 fun v91 =>
 asI .i64 v91 fun n79 =>
 six v90 n79 1 fun b76 b77 =>
 ld Tryd.prog h33 3 b76 b77 fun v92 =>
 asI .i64 v92 fun n80 =>
 nil v0 (
 asP v0 fun b78 b79 =>
 ld Tryd.prog h33 3 b78 (off b79 1) fun v93 =>
 asI .i64 v93 fun n81 =>
 ifB (not (eq n72 n81)) (
 ifB (not (eq n80 n72)) (
 bld Tryd.prog 142 [(0, (.int .i64 n72)), (1, (.bool false))] fun v94 =>
 bls Tryd.prog h33 143 1 [(0, v94)] fun v95 h34 =>
 app Tryd.prog h34 143 143 (gv ws4 0) v95 fun v96 h35 =>
 asI .i64 (gv ws4 1) fun n82 =>
 out .normal [v96, (.int .i64 (add .i64 n82 1))] h35) (
 asI .i64 (gv ws4 1) fun n83 =>
 out .normal [gv ws4 0, (.int .i64 (add .i64 n83 1))] h33)) (
 asI .i64 (gv ws4 1) fun n84 =>
 out .normal [gv ws4 0, (.int .i64 (add .i64 n84 1))] h33)))) (
 nil v0 (
 asP v0 fun b80 b81 =>
 ld Tryd.prog h33 3 b80 (off b81 1) fun v97 =>
 asI .i64 v97 fun n85 =>
 ifB (not (eq n72 n85)) (
 bld Tryd.prog 142 [(0, (.int .i64 n72)), (1, (.bool false))] fun v98 =>
 bls Tryd.prog h33 143 1 [(0, v98)] fun v99 h36 =>
 app Tryd.prog h36 143 143 (gv ws4 0) v99 fun v100 h37 =>
 asI .i64 (gv ws4 1) fun n86 =>
 out .normal [v100, (.int .i64 (add .i64 n86 1))] h37) (
 asI .i64 (gv ws4 1) fun n87 =>
 out .normal [gv ws4 0, (.int .i64 (add .i64 n87 1))] h33))))))) (
 ifB (le 0 n3) (
 nil v0 (
 asP v0 fun b82 b83 =>
 ld Tryd.prog h33 22 b82 (off b83 4) fun v101 =>
 ld Tryd.prog h33 3 (nx h0) 0 fun v102 =>
 asI .i64 v102 fun n88 =>
 six v101 n88 1 fun b84 b85 =>
 ld Tryd.prog h33 3 b84 b85 fun v103 =>
 asI .i64 v103 fun n89 =>
 nil v0 (
 asP v0 fun b86 b87 =>
 ld Tryd.prog h33 3 b86 (off b87 1) fun v104 =>
 asI .i64 v104 fun n90 =>
 ifB (not (eq n72 n90)) (
 ifB (not (eq n89 n72)) (
 bld Tryd.prog 142 [(0, (.int .i64 n72)), (1, (.bool false))] fun v105 =>
 bls Tryd.prog h33 143 1 [(0, v105)] fun v106 h38 =>
 app Tryd.prog h38 143 143 (gv ws4 0) v106 fun v107 h39 =>
 asI .i64 (gv ws4 1) fun n91 =>
 out .normal [v107, (.int .i64 (add .i64 n91 1))] h39) (
 asI .i64 (gv ws4 1) fun n92 =>
 out .normal [gv ws4 0, (.int .i64 (add .i64 n92 1))] h33)) (
 asI .i64 (gv ws4 1) fun n93 =>
 out .normal [gv ws4 0, (.int .i64 (add .i64 n93 1))] h33)))) (
 nil v0 (
 asP v0 fun b88 b89 =>
 ld Tryd.prog h33 3 b88 (off b89 1) fun v108 =>
 asI .i64 v108 fun n94 =>
 ifB (not (eq n72 n94)) (
 bld Tryd.prog 142 [(0, (.int .i64 n72)), (1, (.bool false))] fun v109 =>
 bls Tryd.prog h33 143 1 [(0, v109)] fun v110 h40 =>
 app Tryd.prog h40 143 143 (gv ws4 0) v110 fun v111 h41 =>
 asI .i64 (gv ws4 1) fun n95 =>
 out .normal [v111, (.int .i64 (add .i64 n95 1))] h41) (
 asI .i64 (gv ws4 1) fun n96 =>
 out .normal [gv ws4 0, (.int .i64 (add .i64 n96 1))] h33)))))) (
 out (.exit 0) [gv ws4 0, gv ws4 1] h33)
noncomputable def f100_l4 (_rec : Rec) (_k : Nat) (v0 : Value) (h0 : H) (n3 : Int) (v115 : Value) (n99 : Int) (ws6 : List Value) (h44 : H) : Option (Ex × List Value × H) :=
 asI .i64 (gv ws6 1) fun n100 =>
 ifB (lt n100 n99) (
 asK (gv ws6 1) fun n101 =>
 six v115 n101 1 fun b94 b95 =>
 ld Tryd.prog h44 3 b94 b95 fun v116 =>
 asI .i64 v116 fun n102 =>
 ld Tryd.prog h44 3 (nx h0) 0 fun v117 =>
 asI .i64 v117 fun n103 =>
 nil v0 (
 asP v0 fun b96 b97 =>
 ld Tryd.prog h44 3 b96 (off b97 1) fun v118 =>
 asI .i64 v118 fun n104 =>
 ifB (eq n103 n104) (
 nil v0 (
 asP v0 fun b98 b99 =>
 ld Tryd.prog h44 3 b98 (off b99 3) fun v119 =>
 asI .i64 v119 fun n105 =>
 nn n102 (
 ifB (eq (and .i64 (shr .i64 n105 n102) 1) 1) (
 nil v0 (
 asP v0 fun b100 b101 =>
 ld Tryd.prog h44 3 b100 (off b101 1) fun v120 =>
 asI .i64 v120 fun n106 =>
 ifB (not (eq n102 n106)) (
 asI .i64 (gv ws6 1) fun n107 =>
 out .normal [gv ws6 0, (.int .i64 (add .i64 n107 1))] h44) (
 asI .i64 (gv ws6 1) fun n108 =>
 out .normal [gv ws6 0, (.int .i64 (add .i64 n108 1))] h44))) (
 ifB (le 0 n3) (
 nil v0 (
 asP v0 fun b102 b103 =>
 ld Tryd.prog h44 22 b102 (off b103 4) fun v121 =>
 ld Tryd.prog h44 3 (nx h0) 0 fun v122 =>
 asI .i64 v122 fun n109 =>
 six v121 n109 1 fun b104 b105 =>
 ld Tryd.prog h44 3 b104 b105 fun v123 =>
 asI .i64 v123 fun n110 =>
 nil v0 (
 asP v0 fun b106 b107 =>
 ld Tryd.prog h44 3 b106 (off b107 1) fun v124 =>
 asI .i64 v124 fun n111 =>
 ifB (not (eq n102 n111)) (
 ifB (not (eq n110 n102)) (
 bld Tryd.prog 142 [(0, (.int .i64 n102)), (1, (.bool false))] fun v125 =>
 bls Tryd.prog h44 143 1 [(0, v125)] fun v126 h45 =>
 app Tryd.prog h45 143 143 (gv ws6 0) v126 fun v127 h46 =>
 asI .i64 (gv ws6 1) fun n112 =>
 out .normal [v127, (.int .i64 (add .i64 n112 1))] h46) (
 asI .i64 (gv ws6 1) fun n113 =>
 out .normal [gv ws6 0, (.int .i64 (add .i64 n113 1))] h44)) (
 asI .i64 (gv ws6 1) fun n114 =>
 out .normal [gv ws6 0, (.int .i64 (add .i64 n114 1))] h44)))) (
 nil v0 (
 asP v0 fun b108 b109 =>
 ld Tryd.prog h44 3 b108 (off b109 1) fun v128 =>
 asI .i64 v128 fun n115 =>
 ifB (not (eq n102 n115)) (
 bld Tryd.prog 142 [(0, (.int .i64 n102)), (1, (.bool false))] fun v129 =>
 bls Tryd.prog h44 143 1 [(0, v129)] fun v130 h47 =>
 app Tryd.prog h47 143 143 (gv ws6 0) v130 fun v131 h48 =>
 asI .i64 (gv ws6 1) fun n116 =>
 out .normal [v131, (.int .i64 (add .i64 n116 1))] h48) (
 asI .i64 (gv ws6 1) fun n117 =>
 out .normal [gv ws6 0, (.int .i64 (add .i64 n117 1))] h44))))))) (
 ifB (le 0 n3) (
 nil v0 (
 asP v0 fun b110 b111 =>
 ld Tryd.prog h44 22 b110 (off b111 4) fun v132 =>
 ld Tryd.prog h44 3 (nx h0) 0 fun v133 =>
 asI .i64 v133 fun n118 =>
 six v132 n118 1 fun b112 b113 =>
 ld Tryd.prog h44 3 b112 b113 fun v134 =>
 asI .i64 v134 fun n119 =>
 nil v0 (
 asP v0 fun b114 b115 =>
 ld Tryd.prog h44 3 b114 (off b115 1) fun v135 =>
 asI .i64 v135 fun n120 =>
 ifB (not (eq n102 n120)) (
 ifB (not (eq n119 n102)) (
 bld Tryd.prog 142 [(0, (.int .i64 n102)), (1, (.bool false))] fun v136 =>
 bls Tryd.prog h44 143 1 [(0, v136)] fun v137 h49 =>
 app Tryd.prog h49 143 143 (gv ws6 0) v137 fun v138 h50 =>
 asI .i64 (gv ws6 1) fun n121 =>
 out .normal [v138, (.int .i64 (add .i64 n121 1))] h50) (
 asI .i64 (gv ws6 1) fun n122 =>
 out .normal [gv ws6 0, (.int .i64 (add .i64 n122 1))] h44)) (
 asI .i64 (gv ws6 1) fun n123 =>
 out .normal [gv ws6 0, (.int .i64 (add .i64 n123 1))] h44)))) (
 nil v0 (
 asP v0 fun b116 b117 =>
 ld Tryd.prog h44 3 b116 (off b117 1) fun v139 =>
 asI .i64 v139 fun n124 =>
 ifB (not (eq n102 n124)) (
 bld Tryd.prog 142 [(0, (.int .i64 n102)), (1, (.bool false))] fun v140 =>
 bls Tryd.prog h44 143 1 [(0, v140)] fun v141 h51 =>
 app Tryd.prog h51 143 143 (gv ws6 0) v141 fun v142 h52 =>
 asI .i64 (gv ws6 1) fun n125 =>
 out .normal [v142, (.int .i64 (add .i64 n125 1))] h52) (
 asI .i64 (gv ws6 1) fun n126 =>
 out .normal [gv ws6 0, (.int .i64 (add .i64 n126 1))] h44)))))) (
 out (.exit 0) [gv ws6 0, gv ws6 1] h44)
noncomputable def f100_l5 (_rec : Rec) (_k : Nat) (v0 : Value) (h0 : H) (v146 : Value) (n129 : Int) (ws8 : List Value) (h55 : H) : Option (Ex × List Value × H) :=
 asI .i64 (gv ws8 1) fun n130 =>
 ifB (lt n130 n129) (
 asK (gv ws8 1) fun n131 =>
 six v146 n131 1 fun b122 b123 =>
 ld Tryd.prog h55 3 b122 b123 fun v147 =>
 asI .i64 v147 fun n132 =>
 ld Tryd.prog h55 3 (nx h0) 0 fun v148 =>
 asI .i64 v148 fun n133 =>
 nil v0 (
 asP v0 fun b124 b125 =>
 ld Tryd.prog h55 3 b124 (off b125 1) fun v149 =>
 asI .i64 v149 fun n134 =>
 ifB (eq n133 n134) (
 nil v0 (
 asP v0 fun b126 b127 =>
 ld Tryd.prog h55 3 b126 (off b127 3) fun v150 =>
 asI .i64 v150 fun n135 =>
 nn n132 (
 ifB (eq (and .i64 (shr .i64 n135 n132) 1) 1) (
 nil v0 (
 asP v0 fun b128 b129 =>
 ld Tryd.prog h55 3 b128 (off b129 1) fun v151 =>
 asI .i64 v151 fun n136 =>
 ifB (not (eq n132 n136)) (
 asI .i64 (gv ws8 1) fun n137 =>
 out .normal [gv ws8 0, (.int .i64 (add .i64 n137 1))] h55) (
 asI .i64 (gv ws8 1) fun n138 =>
 out .normal [gv ws8 0, (.int .i64 (add .i64 n138 1))] h55))) (
 nil v0 (
 asP v0 fun b130 b131 =>
 ld Tryd.prog h55 3 b130 (off b131 1) fun v152 =>
 asI .i64 v152 fun n139 =>
 ifB (not (eq n132 n139)) (
 bld Tryd.prog 142 [(0, (.int .i64 n132)), (1, (.bool false))] fun v153 =>
 bls Tryd.prog h55 143 1 [(0, v153)] fun v154 h56 =>
 app Tryd.prog h56 143 143 (gv ws8 0) v154 fun v155 h57 =>
 asI .i64 (gv ws8 1) fun n140 =>
 out .normal [v155, (.int .i64 (add .i64 n140 1))] h57) (
 asI .i64 (gv ws8 1) fun n141 =>
 out .normal [gv ws8 0, (.int .i64 (add .i64 n141 1))] h55)))))) (
 nil v0 (
 asP v0 fun b132 b133 =>
 ld Tryd.prog h55 3 b132 (off b133 1) fun v156 =>
 asI .i64 v156 fun n142 =>
 ifB (not (eq n132 n142)) (
 bld Tryd.prog 142 [(0, (.int .i64 n132)), (1, (.bool false))] fun v157 =>
 bls Tryd.prog h55 143 1 [(0, v157)] fun v158 h58 =>
 app Tryd.prog h58 143 143 (gv ws8 0) v158 fun v159 h59 =>
 asI .i64 (gv ws8 1) fun n143 =>
 out .normal [v159, (.int .i64 (add .i64 n143 1))] h59) (
 asI .i64 (gv ws8 1) fun n144 =>
 out .normal [gv ws8 0, (.int .i64 (add .i64 n144 1))] h55))))) (
 out (.exit 0) [gv ws8 0, gv ws8 1] h55)
noncomputable def f100 (rec : Rec) (k : Nat) (v0 : Value) (v1 : Value) (h0 : H) : Option (Value × H) :=
 bx h0 142 v1 fun h1 =>
 ld Tryd.prog h1 3 (nx h0) 0 fun v2 =>
 asI .i64 v2 fun n0 =>
 nil v0 (
 asP v0 fun b0 b1 =>
 ld Tryd.prog h1 3 b0 (off b1 1) fun v3 =>
 asI .i64 v3 fun n1 =>
 ifB (not (eq n0 n1)) (
 nil v0 (
 asP v0 fun b2 b3 =>
 ld Tryd.prog h1 22 b2 (off b3 4) fun v4 =>
 ld Tryd.prog h1 3 (nx h0) 0 fun v5 =>
 asI .i64 v5 fun n2 =>
 six v4 n2 1 fun b4 b5 =>
 ld Tryd.prog h1 3 b4 b5 fun v6 =>
 asI .i64 v6 fun n3 =>
 ifB (le 0 n3) (
 ld Tryd.prog h1 4 (nx h0) (off 0 1) fun v7 =>
 asB v7 fun q0 =>
 ifB (not q0) (
 ld Tryd.prog h1 3 (nx h0) 0 fun v8 =>
 asI .i64 v8 fun n4 =>
 calls rec h1 115 [v0, (.int .i64 n4)] fun v9 h2 =>
 bls Tryd.prog h2 143 1 [(0, v9)] fun v10 h3 =>
 some (v10, h3)) (
 ifB (le 0 n3) (
 ld Tryd.prog h1 3 (nx h0) 0 fun v11 =>
 asI .i64 v11 fun n5 =>
 calls rec h1 115 [v0, (.int .i64 n5)] fun v12 h4 =>
 bls Tryd.prog h4 143 1 [(0, v12)] fun v13 h5 =>
 app Tryd.prog h5 143 143 (.slice none 0 0) v13 fun v14 h6 =>
 nil v0 (
 asP v0 fun b6 b7 =>
 ld Tryd.prog h6 72 b6 b7 fun v15 =>
 ld Tryd.prog h6 3 (nx h0) 0 fun v16 =>
 asI .i64 v16 fun n6 =>
 six v15 n6 1 fun b8 b9 =>
 ld Tryd.prog h6 3 b8 b9 fun v17 =>
 asI .i64 v17 fun n7 =>
 calls rec h6 54 [(.int .i64 n7)] fun v18 h7 =>
 len v18 fun n8 =>
 lp k (f100_l1 rec k v0 h0 n3 v18 n8) [v14, (.int .i64 0)] h7 fun e0 ws1 h17 =>
 onE e0 0 (
 some (gv ws1 0, h17)) (
 none))) (
 nil v0 (
 asP v0 fun b34 b35 =>
 ld Tryd.prog h1 72 b34 b35 fun v46 =>
 ld Tryd.prog h1 3 (nx h0) 0 fun v47 =>
 asI .i64 v47 fun n36 =>
 six v46 n36 1 fun b36 b37 =>
 ld Tryd.prog h1 3 b36 b37 fun v48 =>
 asI .i64 v48 fun n37 =>
 calls rec h1 54 [(.int .i64 n37)] fun v49 h18 =>
 len v49 fun n38 =>
 lp k (f100_l2 rec k v0 h0 n3 v49 n38) [(.slice none 0 0), (.int .i64 0)] h18 fun e1 ws3 h28 =>
 onE e1 0 (
 some (gv ws3 0, h28)) (
 none))))) (
 ifB (le 0 n3) (
 ld Tryd.prog h1 3 (nx h0) 0 fun v77 =>
 asI .i64 v77 fun n66 =>
 calls rec h1 115 [v0, (.int .i64 n66)] fun v78 h29 =>
 bls Tryd.prog h29 143 1 [(0, v78)] fun v79 h30 =>
 app Tryd.prog h30 143 143 (.slice none 0 0) v79 fun v80 h31 =>
 nil v0 (
 asP v0 fun b62 b63 =>
 ld Tryd.prog h31 72 b62 b63 fun v81 =>
 ld Tryd.prog h31 3 (nx h0) 0 fun v82 =>
 asI .i64 v82 fun n67 =>
 six v81 n67 1 fun b64 b65 =>
 ld Tryd.prog h31 3 b64 b65 fun v83 =>
 asI .i64 v83 fun n68 =>
 calls rec h31 54 [(.int .i64 n68)] fun v84 h32 =>
 len v84 fun n69 =>
 lp k (f100_l3 rec k v0 h0 n3 v84 n69) [v80, (.int .i64 0)] h32 fun e2 ws5 h42 =>
 onE e2 0 (
 some (gv ws5 0, h42)) (
 none))) (
 nil v0 (
 asP v0 fun b90 b91 =>
 ld Tryd.prog h1 72 b90 b91 fun v112 =>
 ld Tryd.prog h1 3 (nx h0) 0 fun v113 =>
 asI .i64 v113 fun n97 =>
 six v112 n97 1 fun b92 b93 =>
 ld Tryd.prog h1 3 b92 b93 fun v114 =>
 asI .i64 v114 fun n98 =>
 calls rec h1 54 [(.int .i64 n98)] fun v115 h43 =>
 len v115 fun n99 =>
 lp k (f100_l4 rec k v0 h0 n3 v115 n99) [(.slice none 0 0), (.int .i64 0)] h43 fun e3 ws7 h53 =>
 onE e3 0 (
 some (gv ws7 0, h53)) (
 none)))))) (
 nil v0 (
 asP v0 fun b118 b119 =>
 ld Tryd.prog h1 72 b118 b119 fun v143 =>
 ld Tryd.prog h1 3 (nx h0) 0 fun v144 =>
 asI .i64 v144 fun n127 =>
 six v143 n127 1 fun b120 b121 =>
 ld Tryd.prog h1 3 b120 b121 fun v145 =>
 asI .i64 v145 fun n128 =>
 calls rec h1 54 [(.int .i64 n128)] fun v146 h54 =>
 len v146 fun n129 =>
 lp k (f100_l5 rec k v0 h0 v146 n129) [(.slice none 0 0), (.int .i64 0)] h54 fun e4 ws9 h60 =>
 onE e4 0 (
 some (gv ws9 0, h60)) (
 none))))
theorem e100 (rec : Rec) (k : Nat) (v0 : Value) (v1 : Value) (h : H) : bodyT Tryd.prog E0 SC (XC Tryd.prog rec k) 100 (Value × H) [.opq v0, .opq v1] h (fun v h => some (v, h)) = f100 rec k v0 v1 h := by kernel_rfl
theorem t100 {k : Nat} {v0 : Value} {v1 : Value} {h h1 : H} {v : Value} (hh : f100 rn k v0 v1 h = some (v, h1)) : rn 100 #[v0, v1] h = some (v, trunc Tryd.prog h h1 v) :=
  run_of_bodyT (args := [.opq v0, .opq v1]) rfl ((e100 _ _ _ _ _).trans hh)
theorem x100 {k : Nat} {v0 : Value} {v1 : Value} {h h1 : H} {v : Value} (hh : f100 rn k v0 v1 h = some (v, h1)) (hp : plainO v = false) : ∃ h2, rn 100 #[v0, v1] h = some (v, h2) ∧ Sm h1 h2 ∧ (Ext h h1 → Exw h h2) := trunc_cell hp (t100 hh)
noncomputable def f99 (rec : Rec) (_k : Nat) (v0 : Value) (v1 : Value) (h0 : H) : Option (Value × H) :=
 calls rec h0 114 [v0, v1] fun v2 h1 =>
 ext v2 0 fun v3 =>
 asI .u64 v3 fun n0 =>
 ext v2 1 fun v4 =>
 asI .u64 v4 fun n1 =>
 some ((.tuple #[(.int .u64 n0), (.int .u64 n1)]), h1)
theorem e99 (rec : Rec) (k : Nat) (v0 : Value) (v1 : Value) (h : H) : bodyT Tryd.prog E0 SC (XC Tryd.prog rec k) 99 (Value × H) [.opq v0, .opq v1] h (fun v h => some (v, h)) = f99 rec k v0 v1 h := by kernel_rfl
theorem t99 {k : Nat} {v0 : Value} {v1 : Value} {h h1 : H} {v : Value} (hh : f99 rn k v0 v1 h = some (v, h1)) : rn 99 #[v0, v1] h = some (v, trunc Tryd.prog h h1 v) :=
  run_of_bodyT (args := [.opq v0, .opq v1]) rfl ((e99 _ _ _ _ _).trans hh)
theorem p99 {k : Nat} {v0 : Value} {v1 : Value} {h h1 : H} {v : Value} (hh : f99 rn k v0 v1 h = some (v, h1)) (hp : plainO v = true) (x : Ext h h1) : rn 99 #[v0, v1] h = some (v, h) := by rw [t99 hh, trunc_pure hp x]
noncomputable def f114 (_rec : Rec) (_k : Nat) (v0 : Value) (v1 : Value) (h0 : H) : Option (Value × H) :=
 asI .u64 v0 fun n0 =>
 asI .u64 v0 fun n1 =>
 nn 32 (
 asI .u64 v1 fun n2 =>
 asI .u64 v1 fun n3 =>
 nn 32 (
 nn 32 (
 nn 32 (
 nn 32 (
 asI .u64 v0 fun n4 =>
 asI .u64 v1 fun n5 =>
 some ((.tuple #[(.int .u64 (add .u64 (add .u64 (mul .u64 (shr .u64 n1 32) (shr .u64 n3 32)) (shr .u64 (add .u64 (mul .u64 (shr .u64 n1 32) (and .u64 n2 4294967295)) (shr .u64 (mul .u64 (and .u64 n0 4294967295) (and .u64 n2 4294967295)) 32)) 32)) (shr .u64 (add .u64 (and .u64 (add .u64 (mul .u64 (shr .u64 n1 32) (and .u64 n2 4294967295)) (shr .u64 (mul .u64 (and .u64 n0 4294967295) (and .u64 n2 4294967295)) 32)) 4294967295) (mul .u64 (and .u64 n0 4294967295) (shr .u64 n3 32))) 32))), (.int .u64 (mul .u64 n4 n5))]), h0))))))
theorem e114 (rec : Rec) (k : Nat) (v0 : Value) (v1 : Value) (h : H) : bodyT Tryd.prog E0 SC (XC Tryd.prog rec k) 114 (Value × H) [.opq v0, .opq v1] h (fun v h => some (v, h)) = f114 rec k v0 v1 h := by kernel_rfl
theorem t114 {k : Nat} {v0 : Value} {v1 : Value} {h h1 : H} {v : Value} (hh : f114 rn k v0 v1 h = some (v, h1)) : rn 114 #[v0, v1] h = some (v, trunc Tryd.prog h h1 v) :=
  run_of_bodyT (args := [.opq v0, .opq v1]) rfl ((e114 _ _ _ _ _).trans hh)
theorem p114 {k : Nat} {v0 : Value} {v1 : Value} {h h1 : H} {v : Value} (hh : f114 rn k v0 v1 h = some (v, h1)) (hp : plainO v = true) (x : Ext h h1) : rn 114 #[v0, v1] h = some (v, h) := by rw [t114 hh, trunc_pure hp x]
noncomputable def f69_l1 (_rec : Rec) (_k : Nat) (v4 : Value) (ws0 : List Value) (h4 : H) : Option (Ex × List Value × H) :=
 len v4 fun n5 =>
 asI .i64 (gv ws0 0) fun n6 =>
 ifB (lt n6 n5) (
 sli Tryd.prog h4 22 v4 (some (gv ws0 0)) none none fun v5 =>
 sli Tryd.prog h4 22 v4 none (some (gv ws0 0)) none fun v6 =>
 cpy Tryd.prog h4 22 v5 v6 fun n7 h5 =>
 asI .i64 (gv ws0 0) fun n8 =>
 out .normal [(.int .i64 (add .i64 n8 n7))] h5) (
 out (.exit 0) [gv ws0 0] h4)
noncomputable def f69 (rec : Rec) (k : Nat) (v0 : Value) (n0 : Int) (h0 : H) : Option (Value × H) :=
 ifB (lt n0 0) (
 none) (
 len v0 fun n1 =>
 calls rec h0 99 [(.int .u64 (wr .u64 n1)), (.int .u64 (wr .u64 n0))] fun v1 h1 =>
 ext v1 0 fun v2 =>
 asI .u64 v2 fun n2 =>
 ext v1 1 fun v3 =>
 asI .u64 v3 fun n3 =>
 ifB (lt 0 n2) (
 none) (
 ifB (lt 9223372036854775807 n3) (
 none) (
 mks Tryd.prog h1 22 (wr .i64 n3) (wr .i64 n3) fun v4 h2 =>
 cpy Tryd.prog h2 22 v4 v0 fun n4 h3 =>
 lp k (f69_l1 rec k v4) [(.int .i64 n4)] h3 fun e0 _ h6 =>
 onE e0 0 (
 some (v4, h6)) (
 none))))
theorem e69 (rec : Rec) (k : Nat) (v0 : Value) (n0 : Int) (h : H) : bodyT Tryd.prog E0 SC (XC Tryd.prog rec k) 69 (Value × H) [.opq v0, .int .i64 n0] h (fun v h => some (v, h)) = f69 rec k v0 n0 h := by kernel_rfl
theorem t69 {k : Nat} {v0 : Value} {n0 : Int} {h h1 : H} {v : Value} (hh : f69 rn k v0 n0 h = some (v, h1)) : rn 69 #[v0, .int .i64 n0] h = some (v, trunc Tryd.prog h h1 v) :=
  run_of_bodyT (args := [.opq v0, .int .i64 n0]) rfl ((e69 _ _ _ _ _).trans hh)
theorem x69 {k : Nat} {v0 : Value} {n0 : Int} {h h1 : H} {v : Value} (hh : f69 rn k v0 n0 h = some (v, h1)) (hp : plainO v = false) : ∃ h2, rn 69 #[v0, .int .i64 n0] h = some (v, h2) ∧ Sm h1 h2 ∧ (Ext h h1 → Exw h h2) := trunc_cell hp (t69 hh)
end Go.AM
end

section
namespace Go.AM
open Go.Proofs
variable {R : Type}
/-- A new variable. -/
def H.var (h : H) (k : Blk) : H := ⟨fun i => if i = h.nx then some k else h.blk i, h.nx + 1, h.wr + 1⟩
theorem new_set (h : H) (k k' : Blk) : (h.new k).set h.nx k' = h.var k' := by
  unfold H.new H.set H.var
  simp only [H.mk.injEq, and_true]
  funext i
  by_cases hi : i = h.nx <;> simp [hi]
theorem var_at (h : H) (k : Blk) : (h.var k).blk h.nx = some k := if_pos rfl
theorem var_lt (h : H) (k : Blk) {b : Nat} (hb : b < h.nx) : (h.var k).blk b = h.blk b := if_neg (Nat.ne_of_lt hb)
theorem Ext.var (h : H) (k : Blk) : Ext h (h.var k) := ⟨Nat.le_succ _, fun b hb => var_lt h k hb⟩
theorem wrc_two {h : H} {b : Nat} {e : TypeId} {a0 a1 x y : Value} (hb : h.blk b = some (.row [a0, a1] e true)) (hx : scal x = true) (hy : scal y = true) : wrc 2 h b 0 (.agg #[x, y]) = some (h.set b (.row [x, y] e true)) := by
  simp [wrc, hb, hx, hy, setAt, Value.cells]
/-- A variable of two cells that is set at once. -/
theorem al_two {h : H} {t : TypeId} {a0 a1 x y : Value} (hs : size? Tryd.prog t = some 2) (hx : scal x = true) (hy : scal y = true) (K : H → Option R) :
    (al h t [a0, a1] fun h1 => st Tryd.prog h1 t (nx h) 0 (.agg #[x, y]) K) = K (h.var (.row [x, y] t true)) := by
  rw [al_eq, st_S hs, nx_eq, wrc_two (blk_new_self _ _) hx hy, Option.bind_some, new_set]
theorem rd_two {h : H} {b : Nat} {e : TypeId} {w : Bool} {x y : Value} (hb : h.blk b = some (.row [x, y] e w)) : h.rd b 0 2 = some [x, y] := by
  rw [rd_of hb]; rfl
/-- A spot. -/
def spC (x : Spot) : List Value := [iv (x.1 : Nat), .bool x.2]
def spV (x : Spot) : Value := .agg #[iv (x.1 : Nat), .bool x.2]
abbrev cellsS (l : List Spot) : List (List Value) := l.map spC
theorem app143 : okApp Tryd.prog 143 142 2 = true := by kernel_rfl
theorem bls143 (x : Spot) (h : H) : buildSlice Tryd.prog 143 1 [(0, spV x)] h = some (.slice (some ⟨h.nx, 0, none⟩) 1 1, h.new (.row (spC x) 142 true)) := by kernel_rfl
theorem kbld142 (a : Int) (q : Bool) (K : Value → Option R) : bld Tryd.prog 142 [(0, .int .i64 a), (1, .bool q)] K = K (.agg #[.int .i64 a, .bool q]) := bld_some (by kernel_rfl)
/-- The state of the search, in the heap. -/
structure FlH (g : List Nat) (s t lo : Nat) (tv : Value) (fb nb bb : Nat) (first : Nat) (nxt : List Int) (bf : List Value) (h : H) : Prop where
  tvs : SlR h 3 1 tv (cellsN g)
  tvlo : ∀ b, blkOf tv = some b → b < lo
  f : h.blk fb = some (.row [tv, iv s, iv t, iv first, .slice (some ⟨nb, 0, none⟩) nxt.length nxt.length, .slice (some ⟨bb, 0, none⟩) bf.length bf.length] 112 true)
  n : h.blk nb = some (.row (nxt.map iv) 3 true)
  b : h.blk bb = some (.row bf 3 true)
  ne : fb ≠ nb ∧ fb ≠ bb ∧ nb ≠ bb
  lo : lo ≤ fb ∧ lo ≤ nb ∧ lo ≤ bb
  lt : fb < h.nx ∧ nb < h.nx ∧ bb < h.nx
section
variable {g : List Nat} {s t lo fb nb bb first : Nat} {tv : Value} {nxt : List Int} {bf : List Value} {h : H}
theorem FlH.ext (a : FlH g s t lo tv fb nb bb first nxt bf h) {h' : H} (x : Ext h h') : FlH g s t lo tv fb nb bb first nxt bf h' :=
  ⟨a.tvs.ext x, a.tvlo, (x.blk _ a.lt.1).trans a.f, (x.blk _ a.lt.2.1).trans a.n, (x.blk _ a.lt.2.2).trans a.b, a.ne, a.lo, Nat.lt_of_lt_of_le a.lt.1 x.nx, Nat.lt_of_lt_of_le a.lt.2.1 x.nx, Nat.lt_of_lt_of_le a.lt.2.2 x.nx⟩
theorem FlH.ldT (a : FlH g s t lo tv fb nb bb first nxt bf h) (K : Value → Option R) : ld Tryd.prog h 72 fb 0 K = K tv := by rw [d72, cell_of a.f]; rfl
theorem FlH.lds (a : FlH g s t lo tv fb nb bb first nxt bf h) (K : Value → Option R) : ld Tryd.prog h 3 fb (off 0 1) K = K (iv s) := by rw [d3, cell_of a.f]; rfl
theorem FlH.ldt (a : FlH g s t lo tv fb nb bb first nxt bf h) (K : Value → Option R) : ld Tryd.prog h 3 fb (off 0 2) K = K (iv t) := by rw [d3, cell_of a.f]; rfl
theorem FlH.ldf (a : FlH g s t lo tv fb nb bb first nxt bf h) (K : Value → Option R) : ld Tryd.prog h 3 fb (off 0 3) K = K (iv first) := by rw [d3, cell_of a.f]; rfl
theorem FlH.ldn (a : FlH g s t lo tv fb nb bb first nxt bf h) (K : Value → Option R) : ld Tryd.prog h 22 fb (off 0 4) K = K (.slice (some ⟨nb, 0, none⟩) nxt.length nxt.length) := by rw [d22, cell_of a.f]; rfl
theorem FlH.ldb (a : FlH g s t lo tv fb nb bb first nxt bf h) (K : Value → Option R) : ld Tryd.prog h 22 fb (off 0 5) K = K (.slice (some ⟨bb, 0, none⟩) bf.length bf.length) := by rw [d22, cell_of a.f]; rfl
theorem six_at {b n c i : Nat} (hi : i < n) (K : Nat → Nat → Option R) : six (.slice (some ⟨b, 0, none⟩) n c) (i : Int) 1 K = K b i := by
  rw [six_in (by omega) (by omega)]
  congr 1
  simp
theorem FlH.getn (a : FlH g s t lo tv fb nb bb first nxt bf h) {i : Nat} {x : Int} (hx : nxt[i]? = some x) (K : Value → Option R) : (six (.slice (some ⟨nb, 0, none⟩) nxt.length nxt.length) (i : Int) 1 fun b o => ld Tryd.prog h 3 b o K) = K (iv x) := by
  rw [six_at (List.getElem?_eq_some_iff.1 hx).1, d3, cell_of a.n, List.getElem?_map, hx]; rfl
theorem FlH.getb (a : FlH g s t lo tv fb nb bb first nxt bf h) {i : Nat} {x : Value} (hx : bf[i]? = some x) (K : Value → Option R) : (six (.slice (some ⟨bb, 0, none⟩) bf.length bf.length) (i : Int) 1 fun b o => ld Tryd.prog h 3 b o K) = K x := by
  rw [six_at (List.getElem?_eq_some_iff.1 hx).1, d3, cell_of a.b, hx]; rfl
theorem nilp (b o : Nat) (x : Option R) : AM.nil (pt b o) x = x := rfl
/-- Back along the way. -/
theorem s115 (a : FlH g s t lo tv fb nb bb first nxt bf h) (w : StW g s t first nxt bf) {v : Nat} (ho : onW s nxt v = true) : rn 115 #[pt fb 0, iv v] h = some (spV (predW s first nxt v, true), h) := by
  obtain ⟨_, _, hb, _⟩ := w.back ho
  have a1 := a.ext (.new h (.row [iv 0, .bool false] 142 true))
  refine p115 (k := 0) (h1 := h.var (.row (spC (predW s first nxt v, true)) 142 true)) ?_ rfl (.var _ _)
  unfold f115
  rw [al_eq, nilp, asP_ptr, a1.ldb, a1.getb hb, asI_int, kbld142, w142, nx_eq, wrc_two (blk_new_self _ _) rfl rfl, Option.bind_some, new_set, d142, rd_two (var_at _ _), Option.bind_some]
  rfl
end
end Go.AM
end

section
namespace Go.AM
open Go.RowKit
/-- The parts of a loop over a map. -/
structure RqS where
  i0 : Nat
  b : Nat
  i1 : Nat
  b3 : Nat
  i2 : Nat
  qt : Nat
  d0 : Nat
  d1 : Nat
  d2 : Nat
  d3 : Nat
  d4 : Nat
  T : TypeId
  o1 : Oper
  rg : Oper
  nx : Oper
  x1 : Oper
  en : Oper
  x2 : Oper
  rest : List Oper
  B : Code
def RqS.code (s : RqS) : Code :=
  .seq (.region s.i0 #[s.o1, s.rg] false) (.block s.b (.loop (.seq (.region s.i1 #[s.nx, s.x1] false) (.seq (.cond (.tmp s.d2) .skip (.exit s.b)) (.block s.b3 (.seq (.region s.i2 (s.en :: s.x2 :: s.rest).toArray false) s.B))))))
/-- The operations are those of a loop over a map. -/
structure RqS.Ok (s : RqS) (N : Nat) : Prop where
  o1 : s.o1.dst = some s.d0 ∧ s.o1.guard = none
  rg : s.rg.dst = some s.qt ∧ s.rg.op = .range s.T (.tmp s.d0) ∧ s.rg.guard = none
  nx : s.nx.dst = some s.d1 ∧ s.nx.op = .next (.tmp s.qt) false ∧ s.nx.guard = none
  x1 : s.x1.dst = some s.d2 ∧ s.x1.op = .extract (.tmp s.d1) 0 ∧ s.x1.guard = none
  en : s.en.dst = some s.d3 ∧ s.en.op = .entry (.tmp s.qt) ∧ s.en.guard = none
  x2 : s.x2.dst = some s.d4 ∧ s.x2.op = .extract (.tmp s.d3) 0 ∧ s.x2.guard = none
  rest : ∀ o ∈ s.rest, o.guard = none
  sep : s.qt ≠ s.d1 ∧ s.qt ≠ s.d2
  lt : s.d0 < N ∧ s.qt < N ∧ s.d1 < N ∧ s.d2 < N ∧ s.d3 < N ∧ s.d4 < N
def noGuard (o : Oper) : Bool := match o.guard with
  | none => true
  | some _ => false
def matchQ : Code → Option RqS
  | .seq (.region i0 ⟨[o1, rg]⟩ false) (.block b (.loop (.seq (.region i1 ⟨[nx, x1]⟩ false) (.seq (.cond (.tmp d2) .skip (.exit b')) (.block b3 (.seq (.region i2 ⟨en :: x2 :: rest⟩ false) B)))))) =>
    match o1.dst, o1.guard, rg.dst, rg.op, rg.guard, nx.dst, nx.op, nx.guard with
    | some d0, none, some qt, .range T (.tmp d0'), none, some d1, .next (.tmp q1) false, none =>
      match x1.dst, x1.op, x1.guard, en.dst, en.op, en.guard with
      | some d2', .extract (.tmp d1') 0, none, some d3, .entry (.tmp q2), none =>
        match x2.dst, x2.op, x2.guard with
        | some d4, .extract (.tmp d3') 0, none =>
          cond (Nat.beq b b' && Nat.beq d0 d0' && Nat.beq qt q1 && Nat.beq qt q2 && Nat.beq d2 d2' && Nat.beq d1 d1' && Nat.beq d3 d3' && !Nat.beq qt d1 && !Nat.beq qt d2 && rest.all noGuard)
            (some ⟨i0, b, i1, b3, i2, qt, d0, d1, d2, d3, d4, T, o1, rg, nx, x1, en, x2, rest, B⟩) none
        | _, _, _ => none
      | _, _, _, _, _, _ => none
    | _, _, _, _, _, _, _, _ => none
  | _ => none
theorem matchQ_some {c : Code} {s : RqS} {N : Nat} (h : matchQ c = some s) (hN : (Nat.blt s.d0 N && Nat.blt s.qt N && Nat.blt s.d1 N && Nat.blt s.d2 N && Nat.blt s.d3 N && Nat.blt s.d4 N) = true) : c = s.code ∧ s.Ok N := by
  unfold matchQ at h
  split at h
  · split at h
    · split at h
      · split at h
        · obtain ⟨hc, rfl⟩ := cond_some h
          simp only [Bool.and_eq_true, Bool.not_eq_true'] at hc
          obtain ⟨⟨⟨⟨⟨⟨⟨⟨⟨e1, e2⟩, e3⟩, e4⟩, e5⟩, e6⟩, e7⟩, e9⟩, e10⟩, e11⟩ := hc
          replace e1 := Nat.eq_of_beq_eq_true e1
          replace e2 := Nat.eq_of_beq_eq_true e2
          replace e3 := Nat.eq_of_beq_eq_true e3
          replace e4 := Nat.eq_of_beq_eq_true e4
          replace e5 := Nat.eq_of_beq_eq_true e5
          replace e6 := Nat.eq_of_beq_eq_true e6
          replace e7 := Nat.eq_of_beq_eq_true e7
          have n9 := Nat.ne_of_beq_eq_false e9
          have n10 := Nat.ne_of_beq_eq_false e10
          simp only [Bool.and_eq_true, Nat.blt_eq] at hN
          subst_vars
          refine ⟨rfl, ⟨?_, ?_, ?_, ?_, ?_, ?_, ?_, ⟨n9, n10⟩, by simp only; omega⟩⟩
          · refine ⟨?_, ?_⟩ <;> assumption
          iterate 5 (refine ⟨?_, ?_, ?_⟩ <;> assumption)
          · intro o ho
            have := List.all_eq_true.1 e11 o ho
            unfold noGuard at this
            split at this
            · assumption
            · cases this
        · cases h
      · cases h
    · cases h
  · cases h
section
variable {P : Program} {E : Env}
theorem ops_noGuard {rec : Rec} {all all' : Array Oper} : ∀ (l : List Oper) (t : Array Value) (h : H), (∀ o ∈ l, o.guard = none) → ops P E rec all l t h = ops P E rec all' l t h := by
  intro l
  induction l with
  | nil => intro t h _; rfl
  | cons o l ih =>
    intro t h hg
    unfold ops
    rw [if_pos (wanted_none (hg o List.mem_cons_self) _), if_pos (wanted_none (hg o List.mem_cons_self) _)]
    congr 1
    funext x
    exact ih _ _ fun o' ho' => hg o' (List.mem_cons_of_mem _ ho')
/-- The slots at an entry. -/
def entQ (s : RqS) (t : Array Value) (e : MapEntry) : Array Value :=
  put (put (put (put t (some s.d1) (.tuple #[.bool true, e.key, e.val])) (some s.d2) (.bool true)) (some s.d3) (.tuple #[e.key, e.val])) (some s.d4) e.key
/-- The slots behind the last entry. -/
def endQ (s : RqS) (t : Array Value) : Array Value := put (put t (some s.d1) (.tuple #[.bool false])) (some s.d2) (.bool false)
/-- What is done at an entry. -/
def RqS.bd (s : RqS) : Code := .seq (.region s.i2 s.rest.toArray false) s.B
section
variable {rec : Rec} {k N : Nat} {s : RqS} {mb clk q r : Nat} {es : List MapEntry} {I : List Nat → Array Value → H → Prop}
theorem rangeq_rounds (hrec : SoundR P E rec) (hdraw : DrawOk P E rec) (ok : s.Ok N) (hb : ∀ e ∈ es, e.born < clk) (hnd : (es.map (·.born)).Nodup)
    (hI : ∀ D t h, I D t h → h.blk mb = some (.mp es clk) ∧ t.size = N ∧ t.getD s.qt undef = .pointer (some ⟨q, 0, none⟩))
    (step : ∀ D t h e, I D t h → e ∈ es → e.born ∉ D → ∃ t' h', code P E rec k s.bd (entQ s t e) h = some (.normal, t', h') ∧ I (e.born :: D) t' h')
    {ι0 : Nat → Emb} {h0 : H} {w0 : World} {d : List Deferred} {Q : Exit → Act → World → Prop} (hr0 : w0.heap.size ≤ r)
    (fin : ∀ D t h ι a w, I D t h → (∀ e ∈ es, e.born ∈ D) → Tr ι0 h0 w0 ι h w → Rel P E ι h w → AR ι h.nx (endQ s t) a.tmps → a.defers = d → Q (.exit s.b) a w) :
    ∀ (m : Nat) (D : List Nat) (t : Array Value) (h : H) (ι : Nat → Emb) (w : World) (a : Act) (seen : Array Nat), (es.filter fun e => !D.contains e.born).length < m → I D t h → Tr ι0 h0 w0 ι h w → Rel P E ι h w → AR ι h.nx t a.tmps → a.defers = d → ItR ι h w q mb r clk seen → (∀ x, x ∈ seen ↔ x ∈ D) →
      Code.rounds P (.seq (.region s.i1 #[s.nx, s.x1] false) (.seq (.cond (.tmp s.d2) .skip (.exit s.b)) (.block s.b3 (.seq (.region s.i2 (s.en :: s.x2 :: s.rest).toArray false) s.B)))) Q m a w := by
  intro m
  induction m with
  | zero => intro D t h ι w a seen hm; omega
  | succ m ih =>
    intro D t h ι w a seen hm hi tr rl ar hd it hseen
    obtain ⟨hmb, hsz, hqt⟩ := hI D t h hi
    obtain ⟨es', hm1, hm2, hm3⟩ := rl.blk mb _ hmb
    have hborn : ∀ (i : Nat) (e : MapEntry), es'[i]? = some e → ∃ e0, es[i]? = some e0 ∧ VR ι h.nx e0.key e.key ∧ VR ι h.nx e0.val e.val ∧ e0.born = e.born := by
      intro i e he
      have hlt := (Array.getElem?_eq_some_iff.1 he).1
      have h1 : es[i]? = some es[i] := List.getElem?_eq_getElem (by omega)
      exact ⟨_, h1, hm3 i _ _ h1 he⟩
    have hb' : ∀ e ∈ es', e.born < clk := by
      intro e he
      obtain ⟨i, hi2, rfl⟩ := Array.mem_iff_getElem.1 he
      obtain ⟨e0, h1, _, _, h2⟩ := hborn i _ (Array.getElem?_eq_getElem hi2)
      rw [← h2]; exact hb _ (List.mem_of_getElem? h1)
    have hqv : a.eval (.tmp s.qt) = .pointer (some ⟨r, 0, none⟩) := by
      have := ev_tmp rl ar s.qt
      rw [hqt] at this
      generalize hce : a.eval (.tmp s.qt) = u at this
      cases this
      rw [it.at_]
    rw [rounds_succ]
    refine wp_seq (wp_region_list ?_)
    show wpList P #[s.nx, s.x1] _ [s.nx, s.x1] a w
    unfold wpList
    rw [if_pos (wanted_none ok.nx.2.2 _)]
    have hexn : execOp a.eval s.nx = (do pure (Next.value (← Instr.next (.pointer (some ⟨r, 0, none⟩)) false s.nx.type))) := by
      rw [exec_of ok.nx.2.1]
      show (do pure (Next.value (← Instr.next (a.eval (.tmp s.qt)) false s.nx.type))) = _
      rw [hqv]
    have hexx : ∀ (a : Act) (v : Value), a.eval (.tmp s.d1) = v → execOp a.eval s.x1 = (do pure (Next.value (← Instr.extract v 0))) := by
      intro a v hv
      rw [exec_of ok.x1.2.1]
      show (do pure (Next.value (← Instr.extract (a.eval (.tmp s.d1)) 0))) = _
      rw [hv]
    have evput : ∀ (a : Act) (dd : Nat) (v : Value), dd < a.tmps.size → (a.put (some dd) v).eval (.tmp dd) = v := by
      intro a dd v hlt
      simp [Act.eval, Act.put, Array.getD_eq_getD_getElem?, hlt]
    have hasz : a.tmps.size = N := by rw [← hsz]; exact ar.1.symm
    rcases next_run (P := P) s.nx.type it.obj hm1 hb' with ⟨e', hmem, hns, w1, ⟨kd, hw1⟩, hrun⟩ | ⟨hall, w1, ⟨kd, hw1⟩, hrun⟩
    · -- one entry more
      obtain ⟨i, hilt, hie⟩ := Array.mem_iff_getElem.1 hmem
      obtain ⟨e0, g1, g2, g3, g4⟩ := hborn i e' (by rw [Array.getElem?_eq_getElem hilt, hie])
      have he0 : e0 ∈ es := List.mem_of_getElem? g1
      have hnD : e0.born ∉ D := fun hx => hns (by rw [← g4]; exact (hseen _).2 hx)
      have rl1 : Rel P E ι h w1 := by rw [hw1]; exact rl.drew kd
      have obj1 : w1.heap[r]? = some (.mapIter (some (ι mb).g) clk seen clk) := by rw [hw1]; exact it.obj
      have rl2 := rl1.iter (.mapIter (some (ι mb).g) clk (seen.push e'.born) clk) obj1
      have tr2 : Tr ι0 h0 w0 ι h (setAtW w1 r (.mapIter (some (ι mb).g) clk (seen.push e'.born) clk)) := by
        refine Tr.iter ?_ _ hr0
        rw [hw1]; exact tr.drewn kd
      have hrlt : r < w1.heap.size := by
        rcases Nat.lt_or_ge r w1.heap.size with h | h
        · exact h
        · rw [Array.getElem?_eq_none h] at obj1; cases obj1
      have it2 : ItR ι h (setAtW w1 r (.mapIter (some (ι mb).g) clk (seen.push e'.born) clk)) q mb r clk (seen.push e'.born) := ⟨it.at_, by
        show (w1.heap.setIfInBounds r _)[r]? = _
        rw [Array.getElem?_setIfInBounds_self, if_pos hrlt], it.free, it.lt⟩
      have hm1' : (setAtW w1 r (.mapIter (some (ι mb).g) clk (seen.push e'.born) clk)).heap[(ι mb).g]? = some (.map es' clk) := by
        rw [setAtW_ne (it.free mb _ hmb rfl), hw1]; exact hm1
      generalize hw2 : setAtW w1 r (.mapIter (some (ι mb).g) clk (seen.push e'.born) clk) = w2 at *
      have hrun' : (Instr.next (.pointer (some ⟨r, 0, none⟩)) false s.nx.type).run P w = .ok (.tuple #[.bool true, e'.key, e'.val]) w2 := by rw [← hw2]; exact hrun
      refine .inl (wp_val hexn hrun' ?_)
      rw [ok.nx.1]
      unfold wpList
      rw [if_pos (wanted_none ok.x1.2.2 _)]
      have hv1 : VR ι h.nx (.tuple #[.bool true, e0.key, e0.val]) (.tuple #[.bool true, e'.key, e'.val]) := by
        refine .tuple rfl fun j v v' hv hv' => ?_
        match j with
        | 0 => simp at hv hv'; subst hv; subst hv'; exact .bool _
        | 1 => simp at hv hv'; subst hv; subst hv'; exact g2
        | 2 => simp at hv hv'; subst hv; subst hv'; exact g3
        | j + 3 => simp at hv
      have ar1 := put_rel ar (some s.d1) hv1
      refine .inl (wp_val (hexx _ _ (evput a s.d1 _ (by rw [hasz]; exact ok.lt.2.2.1))) (w' := w2) (v := .bool true) rfl ?_)
      rw [ok.x1.1]
      have ar2 := put_rel ar1 (some s.d2) (v := .bool true) (v' := .bool true) (.bool _)
      unfold wpList
      show Exit.then _ _ .normal _ _
      refine wp_seq ?_
      have hd2 : ((a.put (some s.d1) (.tuple #[.bool true, e'.key, e'.val])).put (some s.d2) (.bool true)).eval (.tmp s.d2) = .bool true := evput _ _ _ (by rw [aput_size, hasz]; exact ok.lt.2.2.2.1)
      refine wp_cond (t := true) hd2 (wp_skip ?_)
      show Exit.then _ _ .normal _ _
      refine wp_block (wp_seq (wp_region_list ?_))
      generalize ha2 : (a.put (some s.d1) (.tuple #[.bool true, e'.key, e'.val])).put (some s.d2) (.bool true) = a2 at *
      have hd2' : a2.defers = d := by rw [← ha2, put_defers, put_defers]; exact hd
      have ha2z : a2.tmps.size = N := by rw [← ha2, aput_size, aput_size]; exact hasz
      have hq2 : a2.eval (.tmp s.qt) = .pointer (some ⟨r, 0, none⟩) := by
        have := ev_tmp rl2 ar2 s.qt
        rw [put_other ok.sep.2, put_other ok.sep.1, hqt] at this
        generalize hce : a2.eval (.tmp s.qt) = u at this
        cases this
        rw [it.at_]
      show wpList P (s.en :: s.x2 :: s.rest).toArray _ (s.en :: s.x2 :: s.rest) a2 w2
      unfold wpList
      rw [if_pos (wanted_none ok.en.2.2 _)]
      have hexe : execOp a2.eval s.en = (do pure (Next.value (← Instr.entry (.pointer (some ⟨r, 0, none⟩))))) := by
        rw [exec_of ok.en.2.1]
        show (do pure (Next.value (← Instr.entry (a2.eval (.tmp s.qt))))) = _
        rw [hq2]
      have hfind : es'.find? (fun x => x.born == e'.born) = some e' := by
        have hnd' : ∀ (j : Nat) (e : MapEntry), es'[j]? = some e → e.born = e'.born → e = e' := by
          intro j e hj hbn
          obtain ⟨e1, k1, _, _, k4⟩ := hborn j e hj
          have hji : j = i := by
            obtain ⟨l1, l2⟩ := List.getElem?_eq_some_iff.1 k1
            obtain ⟨l3, l4⟩ := List.getElem?_eq_some_iff.1 g1
            have := List.getElem_inj (xs := es.map (·.born)) (i := j) (j := i) (h₀ := by simpa using l1) (h₁ := by simpa using l3) hnd
            refine this.1 ?_
            rw [List.getElem_map, List.getElem_map, l2, l4, k4, g4, hbn]
          rw [hji, Array.getElem?_eq_getElem hilt, hie] at hj
          cases hj; rfl
        cases hf : es'.find? (fun x => x.born == e'.born) with
        | none =>
          have := Array.find?_eq_none.1 hf e' hmem
          simp at this
        | some e =>
          have h1 := Array.find?_some hf
          have h2 := Array.mem_of_find?_eq_some hf
          obtain ⟨j, hj, hje⟩ := Array.mem_iff_getElem.1 h2
          rw [hnd' j e (by rw [Array.getElem?_eq_getElem hj, hje]) (by simpa using h1)]
      have hrune := entry_run (P := P) (seen := seen) it2.obj hm1' hfind
      refine .inl (wp_val hexe hrune ?_)
      rw [ok.en.1]
      unfold wpList
      rw [if_pos (wanted_none ok.x2.2.2 _)]
      have hv3 : VR ι h.nx (.tuple #[e0.key, e0.val]) (.tuple #[e'.key, e'.val]) := by
        refine .tuple rfl fun j v v' hv hv' => ?_
        match j with
        | 0 => simp at hv hv'; subst hv; subst hv'; exact g2
        | 1 => simp at hv hv'; subst hv; subst hv'; exact g3
        | j + 2 => simp at hv
      have ar3 := put_rel ar2 (some s.d3) hv3
      have hexx2 : execOp (a2.put (some s.d3) (.tuple #[e'.key, e'.val])).eval s.x2 = (do pure (Next.value (← Instr.extract (.tuple #[e'.key, e'.val]) 0))) := by
        rw [exec_of ok.x2.2.1]
        show (do pure (Next.value (← Instr.extract ((a2.put (some s.d3) (.tuple #[e'.key, e'.val])).eval (.tmp s.d3)) 0))) = _
        rw [evput _ _ _ (by rw [ha2z]; exact ok.lt.2.2.2.2.1)]
      refine .inl (wp_val hexx2 (w' := w2) (v := e'.key) rfl ?_)
      rw [ok.x2.1]
      have ar4 := put_rel ar3 (some s.d4) g2
      obtain ⟨t', h', hc, hi'⟩ := step D t h e0 hi he0 hnD
      unfold RqS.bd at hc
      simp only [code] at hc
      obtain ⟨⟨ec, t1, h1⟩, hc1, hc2⟩ := bind_some hc
      obtain ⟨⟨t1', h1'⟩, ho1, hc1⟩ := map_some hc1
      simp only [Prod.mk.injEq] at hc1
      obtain ⟨rfl, rfl, rfl⟩ := hc1
      rw [ops_noGuard (all' := (s.en :: s.x2 :: s.rest).toArray) _ _ _ ok.rest] at ho1
      refine ops_wp hrec _ s.rest _ _ _ _ ho1 ι w2 _ rl2 ar4 ?_
      intro ι1 a1 w3 p1 p2 p3 p4
      show Exit.then _ _ .normal _ _
      refine (code_sound hrec hdraw k s.B _ _ _ _ _ hc2).2 ι1 w3 _ _ p2 p3 ?_
      intro ι' a' w' q1' q2 q3 q4
      have q1 := p1.trans q1'
      rw [p4] at q4
      show Code.rounds P _ Q m a' w'
      rw [put_defers, put_defers, hd2'] at q4
      refine ih (e0.born :: D) t' h' ι' w' a' (seen.push e'.born) ?_ hi' (tr2.trans q1) q2 q3 q4 (it2.step q1) fun x => ?_
      · have : (es.filter fun e => !(e0.born :: D).contains e.born).length < (es.filter fun e => !D.contains e.born).length := by
          have h1 : (es.filter fun e => !(e0.born :: D).contains e.born) = (es.filter fun e => !D.contains e.born).filter fun e => !(e.born == e0.born) := by
            rw [List.filter_filter]
            refine List.filter_congr fun e _ => ?_
            rw [List.contains_cons, Bool.not_or]
          rw [h1]
          exact List.length_filter_lt_length_iff_exists.2 ⟨e0, List.mem_filter.2 ⟨he0, by simpa using hnD⟩, by simp⟩
        omega
      · rw [Array.mem_push, hseen, List.mem_cons, g4]
        exact ⟨fun h => h.elim (fun a => Or.inr a) (fun a => Or.inl a), fun h => h.elim (fun a => Or.inr a) (fun a => Or.inl a)⟩
    · -- all have been
      have rl1 : Rel P E ι h w1 := by rw [hw1]; exact rl.drew kd
      have tr1 : Tr ι0 h0 w0 ι h w1 := by rw [hw1]; exact tr.drewn kd
      refine .inl (wp_val hexn hrun ?_)
      rw [ok.nx.1]
      unfold wpList
      rw [if_pos (wanted_none ok.x1.2.2 _)]
      have hv1 : VR ι h.nx (.tuple #[.bool false]) (.tuple #[.bool false]) := by
        refine .tuple rfl fun j v v' hv hv' => ?_
        match j with
        | 0 => simp at hv hv'; subst hv; subst hv'; exact .bool _
        | j + 1 => simp at hv
      have ar1 := put_rel ar (some s.d1) hv1
      refine .inl (wp_val (hexx _ _ (evput a s.d1 _ (by rw [hasz]; exact ok.lt.2.2.1))) (w' := w1) (v := .bool false) rfl ?_)
      rw [ok.x1.1]
      have ar2 := put_rel ar1 (some s.d2) (v := .bool false) (v' := .bool false) (.bool _)
      unfold wpList
      show Exit.then _ _ .normal _ _
      refine wp_seq ?_
      have hd2 : ((a.put (some s.d1) (.tuple #[.bool false])).put (some s.d2) (.bool false)).eval (.tmp s.d2) = .bool false := evput _ _ _ (by rw [aput_size, hasz]; exact ok.lt.2.2.2.1)
      refine wp_cond (t := false) hd2 (wp_exit ?_)
      show Q (.exit s.b) _ _
      refine fin D t h ι _ w1 hi (fun e he => ?_) tr1 rl1 ar2 (by rw [put_defers, put_defers]; exact hd)
      obtain ⟨i, hi2, rfl⟩ := List.getElem_of_mem he
      have hlt : i < es'.size := by omega
      obtain ⟨e0, g1, _, _, g4⟩ := hborn i es'[i] (Array.getElem?_eq_getElem hlt)
      rw [List.getElem?_eq_getElem hi2] at g1
      cases g1
      rw [g4]
      exact (hseen _).1 (hall _ (Array.getElem_mem hlt))
/-- The loop, from the range on. -/
theorem rangeq_sd (hrec : SoundR P E rec) (hdraw : DrawOk P E rec) (ok : s.Ok N) {t : Array Value} {h h1 : H} (hsz : t.size = N) (ho : op P E rec t s.o1 h = some (.map (some mb), h1)) {kt vt : TypeId} (hT : P.underlying s.T = some (.map kt vt)) (hm : h1.blk mb = some (.mp es clk)) (hb : ∀ e ∈ es, e.born < clk) (hnd : (es.map (·.born)).Nodup)
    (hI : ∀ D t h, I D t h → h.blk mb = some (.mp es clk) ∧ t.size = N ∧ t.getD s.qt undef = .pointer (some ⟨h1.nx, 0, none⟩))
    (h0 : I [] (put (put t (some s.d0) (.map (some mb))) (some s.qt) (.pointer (some ⟨h1.nx, 0, none⟩))) h1.skip)
    (step : ∀ D t h e, I D t h → e ∈ es → e.born ∉ D → ∃ t' h', code P E rec k s.bd (entQ s t e) h = some (.normal, t', h') ∧ I (e.born :: D) t' h')
    {K : Ex → Array Value → H → Prop} (fin : ∀ D t h, I D t h → (∀ e ∈ es, e.born ∈ D) → K .normal (endQ s t) h) : Sd P E s.code t h K := by
  intro ι w a Q rl ar hQ
  have hasz : a.tmps.size = N := by rw [← hsz]; exact ar.1.symm
  have evput : ∀ (a : Act) (dd : Nat) (v : Value), dd < a.tmps.size → (a.put (some dd) v).eval (.tmp dd) = v := by
    intro a dd v hlt
    simp [Act.eval, Act.put, Array.getD_eq_getD_getElem?, hlt]
  unfold RqS.code
  refine wp_seq (wp_region_list ?_)
  show wpList P #[s.o1, s.rg] _ [s.o1, s.rg] a w
  unfold wpList
  rw [if_pos (wanted_none ok.o1.2 _)]
  refine .inl (op_wp hrec ho rl ar fun v' ι1 w1 q1 q2 q3 => ?_)
  rw [ok.o1.1]
  have hmlt := q2.dom mb _ hm
  cases q3 with
  | map hb1 =>
    have ar1 := put_rel (ar.mono q1.nx q1.ext) (some s.d0) (VR.map (ι := ι1) hb1)
    obtain ⟨es', hm1, _⟩ := q2.blk mb _ hm
    unfold wpList
    rw [if_pos (wanted_none ok.rg.2.2 _)]
    have hexr : execOp (a.put (some s.d0) (.map (some (ι1 mb).g))).eval s.rg = (do pure (Next.value (← Instr.range s.T (.map (some (ι1 mb).g))))) := by
      rw [exec_of ok.rg.2.1]
      show (do pure (Next.value (← Instr.range s.T ((a.put (some s.d0) (.map (some (ι1 mb).g))).eval (.tmp s.d0))))) = _
      rw [evput _ _ _ (by rw [hasz]; exact ok.lt.1)]
    have hrunr : (Instr.range s.T (.map (some (ι1 mb).g))).run P w1 = .ok (.pointer (some ⟨w1.heap.size, 0, none⟩)) (w1.alloc (.mapIter (some (ι1 mb).g) clk #[] clk)) := by
      have hmr : (getObj (ι1 mb).g).run P w1 = .ok (.map es' clk) w1 := by simp [getObj, Sem.run, hm1]
      simp only [Instr.range, Sem.run_bind, run_underlying hT, Result.andThen_ok, hmr, Sem.run_pure, run_newObj]
      rfl
    refine .inl (wp_val hexr hrunr ?_)
    rw [ok.rg.1]
    obtain ⟨tr2, rl2⟩ := q2.dead (.mapIter (some (ι1 mb).g) clk #[] clk) ⟨w1.heap.size, 0, 0, 0⟩
    have hvp : VR (Emb.new ι1 h1.nx ⟨w1.heap.size, 0, 0, 0⟩) h1.skip.nx (.pointer (some ⟨h1.nx, 0, none⟩)) (.pointer (some ⟨w1.heap.size, 0, none⟩)) := by
      have := VR.ptr (ι := Emb.new ι1 h1.nx ⟨w1.heap.size, 0, 0, 0⟩) (n := h1.skip.nx) (b := h1.nx) (o := 0) (by simp [H.skip])
      rw [Emb.new_at] at this
      exact this
    have ar2 := put_rel (ar1.mono tr2.nx tr2.ext) (some s.qt) hvp
    have it : ItR (Emb.new ι1 h1.nx ⟨w1.heap.size, 0, 0, 0⟩) h1.skip (w1.alloc (.mapIter (some (ι1 mb).g) clk #[] clk)) h1.nx mb w1.heap.size clk #[] := by
      refine ⟨Emb.new_at _ _ _, ?_, fun b kb hbb ho => ?_, by simp [H.skip]; omega⟩
      · rw [Emb.new_lt ι1 _ _ hmlt]; exact heap_push_at w1 _
      · rw [Emb.new_lt ι1 _ _ (q2.dom b kb hbb)]
        exact Nat.ne_of_lt (q2.blk b kb hbb).lt
    unfold wpList
    show Exit.then _ _ .normal _ _
    refine wp_block (wp_loop_rounds (es.length + 1) ?_)
    refine rangeq_rounds (Q := Exit.inBlock s.b Q) hrec hdraw ok hb hnd hI step (ι0 := ι) (h0 := h) (w0 := w) (d := a.defers) (by have := q1.size; omega) (fun D t' h' ι' a' w' hi hall t1 r1 a1 d1 => ?_) (es.length + 1) [] _ h1.skip _ _ _ #[] ?_ h0 (q1.trans tr2) rl2 ar2 ?_ it ?_
    · show (if s.b = s.b then Q .normal a' w' else Q (.exit s.b) a' w')
      rw [if_pos rfl]
      exact hQ _ _ _ (fin D t' h' hi hall) ι' a' w' t1 r1 a1 d1
    · exact Nat.lt_succ_of_le (List.length_filter_le _ _)
    · rw [put_defers, put_defers]
    · intro x; simp
end
end
section
variable {P : Program} {E : Env}
/-- The pieces of a function that begin with a region, and how many slots it has. -/
def rqOf (P : Program) (f : FuncId) (hk : Nat) : Option (RqS × Nat) :=
  match P.funcs[f]? with
  | some fn =>
    match fn.body with
    | some c =>
      match pieces hk c with
      | [x] =>
        match matchQ x with
        | some s => cond (Nat.blt s.d0 fn.ntmps && Nat.blt s.qt fn.ntmps && Nat.blt s.d1 fn.ntmps && Nat.blt s.d2 fn.ntmps && Nat.blt s.d3 fn.ntmps && Nat.blt s.d4 fn.ntmps) (some (s, fn.ntmps)) none
        | none => none
      | _ => none
    | none => none
  | none => none
theorem rqOf_some {f : FuncId} {hk : Nat} {s : RqS} {N : Nat} (h : rqOf P f hk = some (s, N)) : s.Ok N ∧ ∀ fn c, P.funcs[f]? = some fn → fn.body = some c → fn.ntmps = N ∧ ∀ x ∈ pieces hk c, x = s.code := by
  unfold rqOf at h
  split at h
  · rename_i fn hf
    split at h
    · rename_i c hc
      split at h
      · rename_i x hx
        split at h
        · rename_i s' hs
          obtain ⟨h1, h2⟩ := cond_some h
          simp only [Prod.mk.injEq] at h2
          obtain ⟨rfl, rfl⟩ := h2
          obtain ⟨e1, e2⟩ := matchQ_some hs h1
          refine ⟨e2, fun fn' c' hf' hc' => ?_⟩
          rw [hf] at hf'; cases hf'
          rw [hc] at hc'; cases hc'
          refine ⟨rfl, fun y hy => ?_⟩
          rw [hx] at hy
          rw [List.mem_singleton.1 hy]; exact e1
        · cases h
      · cases h
    · cases h
  · cases h
variable {rec : Rec} {k : Nat}
theorem bodyQ_calls (hrec : SoundR P E rec) (hdraw : DrawOk P E rec) {hk : Nat} {ins : List Nat} {RG : List Value → H → Option (Ex × List Value × H)} {f : FuncId} {args : List SV} {h h' : H} {v : Value} {s : RqS} {N : Nat} (hs : rqOf P f hk = some (s, N)) (hrg : RgOk P E N hk ins RG s.code)
    (hh : bodyH P E SC (XC P rec k) hk ins RG f (Value × H) args h (fun v h => some (v, h)) = some (v, h')) :
    (∃ fn c, P.funcs[f]? = some fn ∧ fn.body = some c ∧ fn.name ≠ "runtime.NumGoroutine") ∧
      ∀ ι w args', Rel P E ι h w → AR ι h.nx (args.map SV.val).toArray args' → Calls P f args' w fun e w' => ∃ v' ι', e = .returned v' ∧ Tr ι h w ι' h' w' ∧ Rel P E ι' h' w' ∧ VR ι' h'.nx v v' := by
  obtain ⟨_, hrg2⟩ := rqOf_some hs
  unfold bodyH at hh
  split at hh
  · rename_i fn hfn
    split at hh
    · rename_i c hc
      obtain ⟨hN, hpc⟩ := hrg2 fn c hfn hc
      split at hh
      · cases hh
      · rename_i hname
        split at hh
        · rename_i hlen
          refine ⟨⟨fn, c, hfn, hc, hname⟩, fun ι w args' r ha => ?_⟩
          have ht : TE fn.ntmps ((args.map SV.val).toArray ++ Array.replicate (fn.ntmps - (args.map SV.val).toArray.size) undef) (fun i => args.getD i .und) := by
            refine ⟨by simp; omega, fun i => ?_⟩
            rw [Array.getD_eq_getD_getElem?, Array.getElem?_append]
            simp only [List.size_toArray, List.length_map, List.getElem?_toArray, List.getElem?_map, List.getD_eq_getElem?_getD]
            split
            · rename_i hi
              rw [List.getElem?_eq_getElem hi]
              exact .inr rfl
            · rename_i hi
              rw [List.getElem?_eq_none (by omega)]
              rw [Array.getElem?_replicate]
              split <;> exact .inr rfl
          have sd := codeH_sd (k := k) hrec hdraw c (fun x hx => by rw [hpc x hx, hN]; exact hrg) ht hh
          refine calls_of_wp hfn hc (sd ι w _ _ r (init_rel ha) ?_)
          rintro e t' h1 ⟨⟨env', k1, k2⟩, _⟩ ι' a' w' q1 q2 q3 q4
          have fin : ((resT (XC P rec k (Value × H)) env' h1 fn.results.toList [] fun vs => some (res1 vs, h1)) = some (v, h')) → ∃ _ : Value, (e = .normal ∨ e = .ret) → (∃ v0, res P fn t' h1 = some v0 ∧ v0 = v ∧ h1 = h') := by
            intro h3
            obtain ⟨vs, h4, h5⟩ := resT_some k1 _ _ h3
            refine ⟨undef, fun _ => ?_⟩
            cases h5
            refine ⟨res1 vs, ?_, rfl, rfl⟩
            unfold res
            rw [h4]
            unfold res1
            cases vs with
            | nil => rfl
            | cons v vs => cases vs <;> rfl
          have hd : a'.defers = [] := q4
          cases e with
          | exit i => cases k2
          | normal =>
            obtain ⟨_, h5⟩ := fin k2
            obtain ⟨v0, hr, rfl, rfl⟩ := h5 (.inl rfl)
            obtain ⟨v', g1, g2⟩ := res_run q2 q3 hr
            exact ⟨hd, v', g1, v', ι', rfl, q1, q2, g2⟩
          | ret =>
            obtain ⟨_, h5⟩ := fin k2
            obtain ⟨v0, hr, rfl, rfl⟩ := h5 (.inr rfl)
            obtain ⟨v', g1, g2⟩ := res_run q2 q3 hr
            exact ⟨hd, v', g1, v', ι', rfl, q1, q2, g2⟩
        · cases hh
    · cases hh
  · cases hh
def rqB (P : Program) (f : FuncId) (hk : Nat) : Code :=
  match rqOf P f hk with
  | some (s, _) => s.bd
  | none => .skip
def rqN (P : Program) (f : FuncId) (hk : Nat) : Nat :=
  match rqOf P f hk with
  | some (_, n) => n
  | none => 0
/-- The staged form of the loop's body, from some slots on. -/
def pieceQ (P : Program) (E : Env) (S : Sc) (X : (R : Type) → Xs R) (f : FuncId) (hk : Nat) (ins : List Nat) (ws : List Value) (h : H) : Option (Ex × List Value × H) :=
  codeT P E S X (rqN P f hk) (rqB P f hk) [] (Ex × List Value × H) (fun i => match posn i ins 0 with
    | some j => .opq (S.gv ws j)
    | none => .top) h fun e _ h => (X (Ex × List Value × H)).out e [] h
theorem pieceQ_some {f : FuncId} {hk : Nat} {ins : List Nat} {ws : List Value} {h h' : H} {e : Ex} {o : List Value} {s : RqS} {N : Nat} (hs : rqOf P f hk = some (s, N)) (hh : pieceQ P E SC (XC P rec k) f hk ins ws h = some (e, o, h')) {t : Array Value} (hsz : t.size = N) (hin : ∀ i j, posn i ins 0 = some j → t.getD i undef = gv ws j) :
    ∃ t', code P E rec k s.bd t h = some (e, t', h') ∧ t'.size = N ∧ ∀ i, i ∉ writ s.bd → t'.getD i undef = t.getD i undef := by
  unfold pieceQ rqB rqN at hh
  rw [hs] at hh
  simp only at hh
  have ht : TE N t (fun i => match posn i ins 0 with
    | some j => .opq (SC.gv ws j)
    | none => .top) := by
    refine ⟨hsz, fun i => ?_⟩
    simp only
    split
    · rename_i j hj
      exact .inr (hin i j hj).symm
    · exact .inl rfl
  obtain ⟨e1, t1, env1, h1, g1, g2, g3⟩ := codeT_some s.bd ht hh
  replace g3 : some (e1, ([] : List Value), h1) = some (e, o, h') := g3
  cases g3
  exact ⟨t1, g1, g2.1, fun i hi => code_writ s.bd hi g1⟩
end
end Go.AM
end

section
namespace Go.AM
open Go.Proofs
noncomputable def p101H (_rec : Rec) (_k : Nat) (ws0 : List Value) (h0 : H) : Option (Ex × List Value × H) :=
  al h0 157 [(.int .i64 0), (.int .i64 0)] fun h1 =>
  st Tryd.prog h1 157 (nx h0) 0 (gv ws0 1) fun h2 =>
  ld Tryd.prog h2 3 (nx h0) 0 fun v0 =>
  asI .i64 v0 fun n0 =>
  nil (gv ws0 0) (
    asP (gv ws0 0) fun b0 b1 =>
    ld Tryd.prog h2 3 b0 (off b1 1) fun v1 =>
    asI .i64 v1 fun n1 =>
    ifB (eq n0 n1) (
      nil (gv ws0 0) (
        asP (gv ws0 0) fun b2 b3 =>
        ld Tryd.prog h2 3 b2 (off b3 3) fun v2 =>
        asI .i64 v2 fun n2 =>
        ld Tryd.prog h2 3 (nx h0) (off 0 1) fun v3 =>
        asI .i64 v3 fun n3 =>
        nn n3 (
          nil (gv ws0 0) (
            asP (gv ws0 0) fun b4 b5 =>
            st Tryd.prog h2 3 b4 (off b5 3) (.int .i64 (or .i64 n2 (shl .i64 1 n3))) fun h3 =>
            nil (gv ws0 0) (
              asP (gv ws0 0) fun b6 b7 =>
              ld Tryd.prog h3 22 b6 (off b7 5) fun v4 =>
              ld Tryd.prog h3 3 (nx h0) (off 0 1) fun v5 =>
              asI .i64 v5 fun n4 =>
              ld Tryd.prog h3 3 (nx h0) 0 fun v6 =>
              asI .i64 v6 fun n5 =>
              six v4 n4 1 fun b8 b9 =>
              st Tryd.prog h3 3 b8 b9 (.int .i64 n5) fun h4 =>
              out .normal [] h4))))) (
      nil (gv ws0 0) (
        asP (gv ws0 0) fun b10 b11 =>
        ld Tryd.prog h2 22 b10 (off b11 4) fun v7 =>
        ld Tryd.prog h2 3 (nx h0) 0 fun v8 =>
        asI .i64 v8 fun n6 =>
        ld Tryd.prog h2 3 (nx h0) (off 0 1) fun v9 =>
        asI .i64 v9 fun n7 =>
        six v7 n6 1 fun b12 b13 =>
        st Tryd.prog h2 3 b12 b13 (.int .i64 n7) fun h5 =>
        nil (gv ws0 0) (
          asP (gv ws0 0) fun b14 b15 =>
          ld Tryd.prog h5 22 b14 (off b15 5) fun v10 =>
          ld Tryd.prog h5 3 (nx h0) (off 0 1) fun v11 =>
          asI .i64 v11 fun n8 =>
          ld Tryd.prog h5 3 (nx h0) 0 fun v12 =>
          asI .i64 v12 fun n9 =>
          six v10 n8 1 fun b16 b17 =>
          st Tryd.prog h5 3 b16 b17 (.int .i64 n9) fun h6 =>
          out .normal [] h6))))
noncomputable def f101H_l1 (_rec : Rec) (_k : Nat) (v1 : Value) (h0 : H) (ws0 : List Value) (h5 : H) : Option (Ex × List Value × H) :=
  asP (gv ws0 2) fun b0 b1 =>
  ld Tryd.prog h5 142 b0 b1 fun v5 =>
  ld Tryd.prog h5 142 (nx h0) 0 fun v6 =>
  eqv Tryd.prog 142 v5 v6 fun q0 =>
  ifB (not q0) (
    asP (gv ws0 2) fun b2 b3 =>
    ld Tryd.prog h5 142 b2 b3 fun v7 =>
    lok Tryd.prog h5 140 v1 v7 false fun v8 =>
    al h5 142 [(.int .i64 0), (.bool false)] fun h6 =>
    st Tryd.prog h6 142 (nx h5) 0 v8 fun h7 =>
    asP (gv ws0 2) fun b4 b5 =>
    ld Tryd.prog h7 4 b4 (off b5 1) fun v9 =>
    asB v9 fun q1 =>
    ifB q1 (
      asP (gv ws0 2) fun b6 b7 =>
      ld Tryd.prog h7 3 b6 b7 fun v10 =>
      asI .i64 v10 fun n0 =>
      ld Tryd.prog h7 3 (nx h5) 0 fun v11 =>
      asI .i64 v11 fun n1 =>
      bld Tryd.prog 157 [(0, (.int .i64 n0)), (1, (.int .i64 n1))] fun v12 =>
      bls Tryd.prog h7 155 1 [(0, v12)] fun v13 h8 =>
      app Tryd.prog h8 155 155 (gv ws0 0) v13 fun v14 h9 =>
      asP (gv ws0 2) fun b8 b9 =>
      ld Tryd.prog h9 142 b8 b9 fun v15 =>
      al h9 142 [(.int .i64 0), (.bool false)] fun h10 =>
      st Tryd.prog h10 142 (nx h9) 0 v15 fun h11 =>
      ld Tryd.prog h11 142 (nx h9) 0 fun v16 =>
      lok Tryd.prog h11 140 v1 v16 false fun v17 =>
      st Tryd.prog h11 142 (nx h9) 0 v17 fun h12 =>
      out .normal [v14, gv ws0 1, (pt (nx h9) 0)] h12) (
      ld Tryd.prog h7 3 (nx h5) 0 fun v18 =>
      asI .i64 v18 fun n2 =>
      asP (gv ws0 2) fun b10 b11 =>
      ld Tryd.prog h7 3 b10 b11 fun v19 =>
      asI .i64 v19 fun n3 =>
      bld Tryd.prog 157 [(0, (.int .i64 n2)), (1, (.int .i64 n3))] fun v20 =>
      bls Tryd.prog h7 155 1 [(0, v20)] fun v21 h13 =>
      app Tryd.prog h13 155 155 (gv ws0 1) v21 fun v22 h14 =>
      asP (gv ws0 2) fun b12 b13 =>
      ld Tryd.prog h14 142 b12 b13 fun v23 =>
      al h14 142 [(.int .i64 0), (.bool false)] fun h15 =>
      st Tryd.prog h15 142 (nx h14) 0 v23 fun h16 =>
      ld Tryd.prog h16 142 (nx h14) 0 fun v24 =>
      lok Tryd.prog h16 140 v1 v24 false fun v25 =>
      st Tryd.prog h16 142 (nx h14) 0 v25 fun h17 =>
      out .normal [gv ws0 0, v22, (pt (nx h14) 0)] h17)) (
    out (.exit 0) [gv ws0 0, gv ws0 1, gv ws0 2] h5)
noncomputable def f101H_l2 (_rec : Rec) (_k : Nat) (v0 : Value) (h18 : H) (v27 : Value) (n5 : Int) (ws2 : List Value) (h21 : H) : Option (Ex × List Value × H) :=
  asI .i64 (gv ws2 0) fun n6 =>
  ifB (lt n6 n5) (
    asK (gv ws2 0) fun n7 =>
    six v27 n7 1 fun b16 b17 =>
    ld Tryd.prog h21 3 b16 b17 fun v28 =>
    asI .i64 v28 fun n8 =>
    nil v0 (
      asP v0 fun b18 b19 =>
      ld Tryd.prog h21 3 b18 (off b19 1) fun v29 =>
      asI .i64 v29 fun n9 =>
      bld Tryd.prog 157 [(0, (.int .i64 n9)), (1, (.int .i64 n8))] fun v30 =>
      mup Tryd.prog h21 158 (.map (some (nx h18))) v30 (.bool true) fun h22 =>
      asI .i64 (gv ws2 0) fun n10 =>
      out .normal [(.int .i64 (add .i64 n10 1))] h22)) (
    out (.exit 2) [gv ws2 0] h21)
noncomputable def f101H_l3 (_rec : Rec) (_k : Nat) (h18 : H) (v31 : Value) (n11 : Int) (ws4 : List Value) (h24 : H) : Option (Ex × List Value × H) :=
  asI .i64 (gv ws4 0) fun n12 =>
  ifB (lt n12 n11) (
    asK (gv ws4 0) fun n13 =>
    six v31 n13 1 fun b22 b23 =>
    ld Tryd.prog h24 3 b22 b23 fun v32 =>
    asI .i64 v32 fun n14 =>
    ifB (le 0 n14) (
      bld Tryd.prog 157 [(0, gv ws4 0), (1, (.int .i64 n14))] fun v33 =>
      mup Tryd.prog h24 158 (.map (some (nx h18))) v33 (.bool true) fun h25 =>
      asI .i64 (gv ws4 0) fun n15 =>
      out .normal [(.int .i64 (add .i64 n15 1))] h25) (
      asI .i64 (gv ws4 0) fun n16 =>
      out .normal [(.int .i64 (add .i64 n16 1))] h24)) (
    out (.exit 4) [gv ws4 0] h24)
noncomputable def f101H_l4 (_rec : Rec) (_k : Nat) (ws1 : List Value) (h18 : H) (n17 : Int) (ws6 : List Value) (h27 : H) : Option (Ex × List Value × H) :=
  asI .i64 (gv ws6 0) fun n18 =>
  ifB (lt n18 n17) (
    asK (gv ws6 0) fun n19 =>
    six (gv ws1 0) n19 2 fun b24 b25 =>
    ld Tryd.prog h27 157 b24 b25 fun v34 =>
    al h27 157 [(.int .i64 0), (.int .i64 0)] fun h28 =>
    st Tryd.prog h28 157 (nx h27) 0 v34 fun h29 =>
    ld Tryd.prog h29 157 (nx h27) 0 fun v35 =>
    del Tryd.prog h29 158 (.map (some (nx h18))) v35 fun h30 =>
    asI .i64 (gv ws6 0) fun n20 =>
    out .normal [(.int .i64 (add .i64 n20 1))] h30) (
    out (.exit 6) [gv ws6 0] h27)
noncomputable def f101H_l5 (_rec : Rec) (_k : Nat) (ws1 : List Value) (h18 : H) (n21 : Int) (ws8 : List Value) (h32 : H) : Option (Ex × List Value × H) :=
  asI .i64 (gv ws8 0) fun n22 =>
  ifB (lt n22 n21) (
    asK (gv ws8 0) fun n23 =>
    six (gv ws1 1) n23 2 fun b26 b27 =>
    ld Tryd.prog h32 157 b26 b27 fun v36 =>
    al h32 157 [(.int .i64 0), (.int .i64 0)] fun h33 =>
    st Tryd.prog h33 157 (nx h32) 0 v36 fun h34 =>
    ld Tryd.prog h34 157 (nx h32) 0 fun v37 =>
    mup Tryd.prog h34 158 (.map (some (nx h18))) v37 (.bool true) fun h35 =>
    asI .i64 (gv ws8 0) fun n24 =>
    out .normal [(.int .i64 (add .i64 n24 1))] h35) (
    out (.exit 8) [gv ws8 0] h32)
noncomputable def f101H_l6 (_rec : Rec) (_k : Nat) (v0 : Value) (n25 : Int) (ws10 : List Value) (h38 : H) : Option (Ex × List Value × H) :=
  asI .i64 (gv ws10 0) fun n26 =>
  ifB (lt n26 n25) (
    nil v0 (
      asP v0 fun b32 b33 =>
      ld Tryd.prog h38 22 b32 (off b33 4) fun v39 =>
      nil v0 (
        asP v0 fun b34 b35 =>
        ld Tryd.prog h38 22 b34 (off b35 5) fun v40 =>
        asK (gv ws10 0) fun n27 =>
        six v39 n27 1 fun b36 b37 =>
        st Tryd.prog h38 3 b36 b37 (.int .i64 (-1)) fun h39 =>
        asK (gv ws10 0) fun n28 =>
        six v40 n28 1 fun b38 b39 =>
        st Tryd.prog h39 3 b38 b39 (.int .i64 (-1)) fun h40 =>
        asI .i64 (gv ws10 0) fun n29 =>
        out .normal [(.int .i64 (add .i64 n29 1))] h40))) (
    out (.exit 10) [gv ws10 0] h38)
noncomputable def f101H (RG : List Value → H → Option (Ex × List Value × H)) (rec : Rec) (k : Nat) (v0 : Value) (v1 : Value) (v2 : Value) (v3 : Value) (h0 : H) : Option (Value × H) :=
  bx h0 142 v2 fun h1 =>
  bx h1 142 v3 fun h2 =>
  ld Tryd.prog h2 142 (nx h1) 0 fun v4 =>
  al h2 142 [(.int .i64 0), (.bool false)] fun h3 =>
  st Tryd.prog h3 142 (nx h2) 0 v4 fun h4 =>
  lp k (f101H_l1 rec k v1 h0) [(.slice none 0 0), (.slice none 0 0), (pt (nx h2) 0)] h4 fun e0 ws1 h18 =>
  onE e0 0 (
    mkm h18 fun h19 =>
    nil v0 (
      asP v0 fun b14 b15 =>
      ld Tryd.prog h19 3 b14 (off b15 3) fun v26 =>
      asI .i64 v26 fun n4 =>
      calls rec h19 54 [(.int .i64 n4)] fun v27 h20 =>
      len v27 fun n5 =>
      lp k (f101H_l2 rec k v0 h18 v27 n5) [(.int .i64 0)] h20 fun e1 _ h23 =>
      onE e1 2 (
        nil v0 (
          asP v0 fun b20 b21 =>
          ld Tryd.prog h23 22 b20 (off b21 4) fun v31 =>
          len v31 fun n11 =>
          lp k (f101H_l3 rec k h18 v31 n11) [(.int .i64 0)] h23 fun e2 _ h26 =>
          onE e2 4 (
            len (gv ws1 0) fun n17 =>
            lp k (f101H_l4 rec k ws1 h18 n17) [(.int .i64 0)] h26 fun e3 _ h31 =>
            onE e3 6 (
              len (gv ws1 1) fun n21 =>
              lp k (f101H_l5 rec k ws1 h18 n21) [(.int .i64 0)] h31 fun e4 _ h36 =>
              onE e4 8 (
                nil v0 (
                  asP v0 fun b28 b29 =>
                  st Tryd.prog h36 3 b28 (off b29 3) (.int .i64 0) fun h37 =>
                  nil v0 (
                    asP v0 fun b30 b31 =>
                    ld Tryd.prog h37 22 b30 (off b31 4) fun v38 =>
                    len v38 fun n25 =>
                    lp k (f101H_l6 rec k v0 n25) [(.int .i64 0)] h37 fun e5 _ h41 =>
                    onE e5 10 (
                      lp k RG [v0, (.map (some (nx h18)))] h41 fun _ _ h42 =>
                      some (undef, h42)) (
                      none)))) (
                none)) (
              none)) (
            none))) (
        none))) (
    none)
theorem e101H (RG : List Value → H → Option (Ex × List Value × H)) (rec : Rec) (k : Nat) (v0 v1 v2 v3 : Value) (h : H) :
    bodyH Tryd.prog E0 SC (XC Tryd.prog rec k) 39 [0, 12] RG 101 (Value × H) [.opq v0, .opq v1, .opq v2, .opq v3] h (fun v h => some (v, h)) = f101H RG rec k v0 v1 v2 v3 h := by kernel_rfl
theorem ep101H (rec : Rec) (k : Nat) (ws : List Value) (h : H) : pieceQ Tryd.prog E0 SC (XC Tryd.prog rec k) 101 39 [0, 135] ws h = p101H rec k ws h := by kernel_rfl
theorem rq101 : (rqOf Tryd.prog 101 39).isSome = true := by kernel_rfl
theorem rq101f : (rqOf Tryd.prog 101 39).map (fun x => (x.2, x.1.qt, x.1.d1, x.1.d2, x.1.d3, x.1.d4, (AM.writ x.1.code).contains 0, (AM.writ x.1.code).contains 12)) = some (171, 131, 132, 133, 134, 135, false, false) := by kernel_rfl
theorem rq101q : (rqOf Tryd.prog 101 39).map (fun x => (AM.writ x.1.bd).contains 131) = some false := by kernel_rfl
theorem rq101o : (rqOf Tryd.prog 101 39).map (fun x => (x.1.o1.op, Tryd.prog.underlying x.1.T)) = some (.move (.tmp 12), some (.map 157 4)) := by kernel_rfl
theorem rq101_is : ∃ s, rqOf Tryd.prog 101 39 = some (s, 171) ∧ s.qt = 131 ∧ (s.d1 = 132 ∧ s.d2 = 133 ∧ s.d3 = 134 ∧ s.d4 = 135) ∧ 0 ∉ AM.writ s.code ∧ 12 ∉ AM.writ s.code ∧ 131 ∉ AM.writ s.bd ∧ s.o1.op = .move (.tmp 12) ∧ Tryd.prog.underlying s.T = some (.map 157 4) := by
  have h1 := rq101
  have h2 := rq101f
  have h3 := rq101q
  have h4 := rq101o
  revert h1 h2 h3 h4
  generalize rqOf Tryd.prog 101 39 = o
  cases o with
  | none => intro h; cases h
  | some x =>
    obtain ⟨s, n⟩ := x
    intro _ h2 h3 h4
    simp only [Option.map_some, Option.some.injEq, Prod.mk.injEq] at h2 h3 h4
    obtain ⟨rfl, h5, h6, h7, h8, h9, h10, h11⟩ := h2
    exact ⟨s, rfl, h5, ⟨h6, h7, h8, h9⟩, by simpa using h10, by simpa using h11, by simpa using h3, h4.1, h4.2⟩
end Go.AM
end

section
namespace Go.AM
section
variable {P : Program} {E : Env}
/-- Less is known: blocks are left out, and one number of an own row may be any. -/
structure Wk (E : Env) (h h' : H) : Prop where
  nx : h'.nx = h.nx
  blk : ∀ b k', h'.blk b = some k' → h.blk b = some k' ∨ ∃ c i k x e, h.blk b = some (.row c e true) ∧ c[i]? = some (.int k x) ∧ k' = .row (c.set i (.chan none)) e true
  same : ∀ b, h'.blk b = h.blk b ∨ (∃ k, h.blk b = some k ∧ k.own = true) ∨ E.NG ≤ b
theorem Wk.old {h h' : H} (s : Wk E h h') {b : Nat} {k' : Blk} (hb : h'.blk b = some k') : ∃ k, h.blk b = some k ∧ k.own = k'.own := by
  rcases s.blk b k' hb with h1 | ⟨c, i, k, x, e, h1, _, rfl⟩
  · exact ⟨k', h1, rfl⟩
  · exact ⟨_, h1, rfl⟩
theorem Wk.rel {h h' : H} (s : Wk E h h') {ι : Nat → Emb} {w : World} (r : Rel P E ι h w) : Rel P E ι h' w where
  dom := fun b k hb => by
    obtain ⟨k0, h1, _⟩ := s.old hb
    rw [s.nx]; exact r.dom b k0 h1
  blk := fun b k' hb => by
    rw [s.nx]
    rcases s.blk b k' hb with h1 | ⟨c, i, k, x, e, h1, h2, rfl⟩
    · exact r.blk b k' h1
    · obtain ⟨C, E', q1, q2, q3, q4, q5⟩ := r.blk b _ h1
      refine ⟨C, E', q1, q2, by rw [List.length_set]; exact q3, q4, fun j v hv => ?_⟩
      rw [List.getElem?_set] at hv
      by_cases hij : i = j
      · subst hij
        rw [if_pos rfl] at hv
        obtain ⟨v', g1, g2⟩ := q5 i _ h2
        cases g2
        split at hv
        · cases hv
          exact ⟨_, g1, .any _ _⟩
        · cases hv
      · rw [if_neg hij] at hv
        exact q5 j v hv
  inj := fun b b' k k' h1 h2 hne ho => by
    obtain ⟨k0, g1, g2⟩ := s.old h1
    obtain ⟨k0', g3, _⟩ := s.old h2
    exact r.inj b b' k0 k0' g1 g3 hne (g2.trans ho)
  ng := by rw [s.nx]; exact r.ng
  glob := r.glob
  globB := fun g hg => by
    rcases s.same g with h1 | ⟨k, h1, h2⟩ | h1
    · rw [h1]; exact r.globB g hg
    · exfalso
      have h3 := r.globB g hg
      rw [h1] at h3
      have := (r.globO g k hg h3.symm).1
      rw [h2] at this
      cases this
    · omega
  globO := r.globO
theorem Wk.tr {h h' : H} (s : Wk E h h') {ι0 ι : Nat → Emb} {h0 : H} {w0 w : World} (t : Tr ι0 h0 w0 ι h w) : Tr ι0 h0 w0 ι h' w :=
  ⟨by rw [s.nx]; exact t.nx, t.ext, t.os, t.tape, t.output, t.size, t.fr, fun b k hb ho => by
    obtain ⟨k0, h1, h2⟩ := s.old hb
    exact t.own b k0 h1 (h2.trans ho)⟩
theorem Sd.weak {c : Code} {t : Array Value} {h : H} {K K' : Ex → Array Value → H → Prop} (s : Sd P E c t h K) (hk : ∀ e t' h1, K e t' h1 → ∃ h2, Wk E h1 h2 ∧ K' e t' h2) : Sd P E c t h K' := by
  intro ι w a Q r ht hQ
  refine s ι w a Q r ht fun e t' h1 k => ?_
  obtain ⟨h2, wk, k'⟩ := hk e t' h1 k
  intro ι' a' w' q1 q2 q3 q4
  exact hQ e t' h2 k' ι' a' w' (wk.tr q1) (wk.rel q2) (by rw [wk.nx]; exact q3) q4
open Classical in
/-- What a piece does, told at one place. -/
noncomputable def onePt (ws0 : List Value) (h0 h1 : H) : List Value → H → Option (Ex × List Value × H) := fun ws h => if ws = ws0 ∧ h = h0 then some (.ret, [], h1) else none
theorem onePt_at (ws0 : List Value) (h0 h1 : H) : onePt ws0 h0 h1 ws0 h0 = some (.ret, [], h1) := by
  unfold onePt
  exact if_pos ⟨rfl, rfl⟩
theorem onePt_some {ws0 ws ws' : List Value} {h0 h1 h h' : H} {e : Ex} (r : onePt ws0 h0 h1 ws h = some (e, ws', h')) : ws = ws0 ∧ h = h0 ∧ e = .ret ∧ h' = h1 := by
  unfold onePt at r
  split at r
  · rename_i hx
    simp only [Option.some.injEq, Prod.mk.injEq] at r
    obtain ⟨rfl, _, rfl⟩ := r
    exact ⟨hx.1, hx.2, rfl, rfl⟩
  · cases r
variable {s : RqS} {N : Nat}
theorem RqS.Ok.writ (ok : s.Ok N) {i : Nat} (hi : i ∉ AM.writ s.code) : i ≠ s.d0 ∧ i ≠ s.qt ∧ i ≠ s.d1 ∧ i ≠ s.d2 ∧ i ≠ s.d3 ∧ i ≠ s.d4 ∧ i ∉ AM.writ s.bd := by
  simp only [RqS.code, AM.writ, List.mem_eraseDups, List.mem_append, List.mem_filterMap, List.mem_cons, List.not_mem_nil, or_false, not_or] at hi
  simp only [exists_eq_or_imp, exists_eq_left, ok.o1.1, ok.rg.1, ok.nx.1, ok.x1.1, ok.en.1, ok.x2.1, Option.some.injEq, not_or, or_and_right, exists_or] at hi
  obtain ⟨⟨h1, h2⟩, ⟨h3, h4⟩, h5, ⟨h6, h7, h8⟩, h9⟩ := hi
  refine ⟨Ne.symm h1, Ne.symm h2, Ne.symm h3, Ne.symm h4, Ne.symm h6, Ne.symm h7, ?_⟩
  simp only [RqS.bd, AM.writ, List.mem_eraseDups, List.mem_append, List.mem_filterMap, not_or]
  exact ⟨fun ⟨o, ho, e⟩ => h8 ⟨o, ho, e⟩, h9⟩
theorem entQ_other (ok : s.Ok N) {t : Array Value} {e : MapEntry} {i : Nat} (hi : i ∉ AM.writ s.code) : (entQ s t e).getD i undef = t.getD i undef := by
  obtain ⟨_, _, h1, h2, h3, h4, _⟩ := ok.writ hi
  unfold entQ
  rw [put_other h4, put_other h3, put_other h2, put_other h1]
theorem entQ_key (ok : s.Ok N) {t : Array Value} (ht : t.size = N) {e : MapEntry} : (entQ s t e).getD s.d4 undef = e.key := by
  unfold entQ
  exact put_at (by simp only [put_size]; rw [ht]; exact ok.lt.2.2.2.2.2)
theorem entQ_size {t : Array Value} {e : MapEntry} : (entQ s t e).size = t.size := by
  unfold entQ; simp only [put_size]
theorem endQ_other (ok : s.Ok N) {t : Array Value} {i : Nat} (hi : i ∉ AM.writ s.code) : (endQ s t).getD i undef = t.getD i undef := by
  obtain ⟨_, _, h1, h2, _⟩ := ok.writ hi
  unfold endQ
  rw [put_other h2, put_other h1]
theorem endQ_size {t : Array Value} : (endQ s t).size = t.size := by unfold endQ; simp only [put_size]
end
end Go.AM
end

section
namespace Go.AM
open Go.Proofs
variable {R : Type}
def arcV (a : Nat × Nat) : Value := .agg #[iv (a.1 : Nat), iv (a.2 : Nat)]
def arcE (x : (Nat × Nat) × Nat) : MapEntry := { key := arcV x.1, val := .bool true, born := x.2 }
/-- The state's three rows. -/
structure FlB (s t : Nat) (tv : Value) (fb nb bb : Nat) (first : Nat) (nxt : List Int) (bf : List Value) (h : H) : Prop where
  f : h.blk fb = some (.row [tv, iv s, iv t, iv first, .slice (some ⟨nb, 0, none⟩) nxt.length nxt.length, .slice (some ⟨bb, 0, none⟩) bf.length bf.length] 112 true)
  n : h.blk nb = some (.row (nxt.map iv) 3 true)
  b : h.blk bb = some (.row bf 3 true)
  ne : fb ≠ nb ∧ fb ≠ bb ∧ nb ≠ bb
  lt : fb < h.nx ∧ nb < h.nx ∧ bb < h.nx
section
variable {g : List Nat} {s t lo fb nb bb first : Nat} {tv : Value} {nxt : List Int} {bf : List Value} {h : H}
theorem FlH.toB (a : FlH g s t lo tv fb nb bb first nxt bf h) : FlB s t tv fb nb bb first nxt bf h := ⟨a.f, a.n, a.b, a.ne, a.lt⟩
theorem FlB.keep (a : FlB s t tv fb nb bb first nxt bf h) {h' : H} (hn : h.nx ≤ h'.nx) (hb : ∀ b, b < h.nx → h'.blk b = h.blk b) : FlB s t tv fb nb bb first nxt bf h' :=
  ⟨(hb _ a.lt.1).trans a.f, (hb _ a.lt.2.1).trans a.n, (hb _ a.lt.2.2).trans a.b, a.ne, Nat.lt_of_lt_of_le a.lt.1 hn, Nat.lt_of_lt_of_le a.lt.2.1 hn, Nat.lt_of_lt_of_le a.lt.2.2 hn⟩
theorem FlB.lds (a : FlB s t tv fb nb bb first nxt bf h) (K : Value → Option R) : ld Tryd.prog h 3 fb (off 0 1) K = K (iv s) := by rw [d3, cell_of a.f]; rfl
theorem FlB.ldf (a : FlB s t tv fb nb bb first nxt bf h) (K : Value → Option R) : ld Tryd.prog h 3 fb (off 0 3) K = K (iv first) := by rw [d3, cell_of a.f]; rfl
theorem FlB.ldn (a : FlB s t tv fb nb bb first nxt bf h) (K : Value → Option R) : ld Tryd.prog h 22 fb (off 0 4) K = K (.slice (some ⟨nb, 0, none⟩) nxt.length nxt.length) := by rw [d22, cell_of a.f]; rfl
theorem FlB.ldb (a : FlB s t tv fb nb bb first nxt bf h) (K : Value → Option R) : ld Tryd.prog h 22 fb (off 0 5) K = K (.slice (some ⟨bb, 0, none⟩) bf.length bf.length) := by rw [d22, cell_of a.f]; rfl
/-- Out of s there are these. -/
theorem FlB.stF (a : FlB s t tv fb nb bb first nxt bf h) (x : Nat) : ∃ h', (∀ (K : H → Option R), st Tryd.prog h 3 fb (off 0 3) (iv (x : Nat)) K = K h') ∧ FlB s t tv fb nb bb x nxt bf h' ∧ h'.nx = h.nx ∧ ∀ b, b ≠ fb → h'.blk b = h.blk b := by
  refine ⟨h.set fb (.row [tv, iv s, iv t, iv x, .slice (some ⟨nb, 0, none⟩) nxt.length nxt.length, .slice (some ⟨bb, 0, none⟩) bf.length bf.length] 112 true), fun K => ?_, ⟨blk_set_self _ _ _, ?_, ?_, a.ne, a.lt⟩, rfl, fun b hb => blk_set_ne _ _ _ hb⟩
  · rw [w3, wrc_one a.f rfl rfl (by simp [off])]
    rfl
  · rw [blk_set_ne _ _ _ (Ne.symm a.ne.1)]; exact a.n
  · rw [blk_set_ne _ _ _ (Ne.symm a.ne.2.1)]; exact a.b
theorem FlB.stN (a : FlB s t tv fb nb bb first nxt bf h) {v : Nat} (hv : v < nxt.length) (x : Int) : ∃ h', (∀ (K : H → Option R), (six (.slice (some ⟨nb, 0, none⟩) nxt.length nxt.length) (v : Int) 1 fun b o => st Tryd.prog h 3 b o (iv x) K) = K h') ∧ FlB s t tv fb nb bb first (nxt.set v x) bf h' ∧ h'.nx = h.nx ∧ ∀ b, b ≠ nb → h'.blk b = h.blk b := by
  refine ⟨h.set nb (.row ((nxt.set v x).map iv) 3 true), fun K => ?_, ⟨?_, blk_set_self _ _ _, ?_, a.ne, a.lt⟩, rfl, fun b hb => blk_set_ne _ _ _ hb⟩
  · rw [six_at hv, w3, wrc_one a.n rfl rfl (by simpa using hv), List.map_set]
    rfl
  · rw [blk_set_ne _ _ _ a.ne.1, List.length_set]; exact a.f
  · rw [blk_set_ne _ _ _ (Ne.symm a.ne.2.2)]; exact a.b
theorem FlB.stB (a : FlB s t tv fb nb bb first nxt bf h) {u : Nat} (hu : u < bf.length) (x : Int) : ∃ h', (∀ (K : H → Option R), (six (.slice (some ⟨bb, 0, none⟩) bf.length bf.length) (u : Int) 1 fun b o => st Tryd.prog h 3 b o (iv x) K) = K h') ∧ FlB s t tv fb nb bb first nxt (bf.set u (iv x)) h' ∧ h'.nx = h.nx ∧ ∀ b, b ≠ bb → h'.blk b = h.blk b := by
  refine ⟨h.set bb (.row (bf.set u (iv x)) 3 true), fun K => ?_, ⟨?_, ?_, blk_set_self _ _ _, a.ne, a.lt⟩, rfl, fun b hb => blk_set_ne _ _ _ hb⟩
  · rw [six_at hu, w3, wrc_one a.b rfl rfl hu]
    rfl
  · rw [blk_set_ne _ _ _ a.ne.2.1, List.length_set]; exact a.f
  · rw [blk_set_ne _ _ _ a.ne.2.2]; exact a.n
theorem p101H_run (a : FlB s t tv fb nb bb first nxt bf h) {v u n : Nat} (hn : n ≤ 10) (hl : nxt.length = n ∧ bf.length = n) (hf : first < 2 ^ n) (hv : v < n) (hu : u < n) :
    ∃ h', p101H rn 0 [pt fb 0, arcV (v, u)] h = some (.normal, [], h') ∧ FlB s t tv fb nb bb (if v = s then first ||| 2 ^ u else first) (if v = s then nxt else nxt.set v (u : Int)) (bf.set u (iv v)) h' ∧ h'.nx = h.nx + 1 ∧
      (∀ b, b ≠ fb → b ≠ nb → b ≠ bb → b ≠ h.nx → h'.blk b = h.blk b) ∧ h'.blk h.nx = some (.row [iv v, iv u] 157 true) := by
  obtain ⟨h1, hh1⟩ : ∃ h1, h1 = h.var (.row [iv (v : Nat), iv (u : Nat)] 157 true) := ⟨_, rfl⟩
  have n1 : h1.nx = h.nx + 1 := by rw [hh1]; rfl
  have b1 : h1.blk h.nx = some (.row [iv (v : Nat), iv (u : Nat)] 157 true) := by rw [hh1]; exact var_at _ _
  have f1 : ∀ b, b ≠ h.nx → h1.blk b = h.blk b := fun b hb => by rw [hh1]; exact if_neg hb
  have a1 := a.keep (h' := h1) (by omega) fun b hb => f1 b (by omega)
  have hlt := a.lt
  have l0 : ∀ {T : Type} {g' : H}, g'.blk h.nx = some (.row [iv (v : Nat), iv (u : Nat)] 157 true) → ∀ (K : Value → Option T), ld Tryd.prog g' 3 h.nx 0 K = K (iv (v : Int)) := fun x K => by rw [d3, cell_of x]; rfl
  have l1 : ∀ {T : Type} {g' : H}, g'.blk h.nx = some (.row [iv (v : Nat), iv (u : Nat)] 157 true) → ∀ (K : Value → Option T), ld Tryd.prog g' 3 h.nx (off 0 1) K = K (iv (u : Int)) := fun x K => by rw [d3, cell_of x]; rfl
  unfold p101H
  rw [show gv [pt fb 0, arcV (v, u)] 1 = .agg #[iv (v : Nat), iv (u : Nat)] from rfl, show gv [pt fb 0, arcV (v, u)] 0 = pt fb 0 from rfl, al_two sz157 rfl rfl, ← hh1, nx_eq, l0 b1, asI_int, nilp, asP_ptr, a1.lds, asI_int, eqN']
  by_cases hvs : v = s
  · obtain ⟨h2, e2, a2, n2, f2⟩ := a1.stF (R := Ex × List Value × H) (first ||| 2 ^ u)
    have b2 := (f2 h.nx (by omega)).trans b1
    obtain ⟨h3, e3, a3, n3, f3⟩ := a2.stB (R := Ex × List Value × H) (u := u) (by omega) (v : Int)
    refine ⟨h3, ?_, ?_, by omega, fun b q1 q2 q3 q4 => by rw [f3 b q3, f2 b q1, f1 b q4], by rw [f3 _ (by omega)]; exact b2⟩
    · rw [decide_eq_true hvs, ifB_true, nilp, asP_ptr, a1.ldf, asI_int, l1 b1, asI_int, nn_ge (by omega), nilp, asP_ptr, or_calc2 hn hf hu, e2, nilp, asP_ptr, a2.ldb, l1 b2, asI_int, l0 b2, asI_int, e3]
      rfl
    · rw [if_pos hvs, if_pos hvs]; exact a3
  · obtain ⟨h2, e2, a2, n2, f2⟩ := a1.stN (R := Ex × List Value × H) (v := v) (by omega) (u : Int)
    have b2 := (f2 h.nx (by omega)).trans b1
    obtain ⟨h3, e3, a3, n3, f3⟩ := a2.stB (R := Ex × List Value × H) (u := u) (by omega) (v : Int)
    refine ⟨h3, ?_, ?_, by omega, fun b q1 q2 q3 q4 => by rw [f3 b q3, f2 b q2, f1 b q4], by rw [f3 _ (by omega)]; exact b2⟩
    · rw [decide_eq_false hvs, ifB_false, nilp, asP_ptr, a1.ldn, l0 b1, asI_int, l1 b1, asI_int, e2, nilp, asP_ptr, a2.ldb, l1 b2, asI_int, l0 b2, asI_int, e3]
      rfl
    · rw [if_neg hvs, if_neg hvs]; exact a3
end
end Go.AM
end

section
namespace Go.AM
open Go.Proofs
variable {R : Type}
theorem under140 : Tryd.prog.underlying 140 = some (.map 142 142) := by kernel_rfl
theorem under158 : Tryd.prog.underlying 158 = some (.map 157 4) := by kernel_rfl
theorem zero142 : zero? Tryd.prog 142 = some (spV (0, false)) := by kernel_rfl
theorem eqV142 (x y : Int) (p q : Bool) : eqV Tryd.prog 10 142 (.agg #[.int .i64 x, .bool p]) (.agg #[.int .i64 y, .bool q]) = (if (x == y) = true then (if (p == q) = true then some true else some false) else some false) := by kernel_rfl
theorem eqV157 (x y p q : Int) : eqV Tryd.prog 10 157 (.agg #[.int .i64 x, .int .i64 p]) (.agg #[.int .i64 y, .int .i64 q]) = (if (x == y) = true then (if (p == q) = true then some true else some false) else some false) := by kernel_rfl
theorem castEq {a b : Nat} : (((a : Int) == (b : Int)) : Bool) = decide (a = b) := by
  by_cases h : a = b
  · rw [decide_eq_true h]; subst h; exact beq_self_eq_true _
  · rw [decide_eq_false h]; exact beq_eq_false_iff_ne.2 (by omega)
theorem eqSp (a b : Spot) : eqV Tryd.prog 10 142 (spV a) (spV b) = some (decide (a = b)) := by
  unfold spV
  rw [eqV142, castEq]
  obtain ⟨a1, a2⟩ := a
  obtain ⟨b1, b2⟩ := b
  by_cases h : a1 = b1
  · subst h
    cases a2 <;> cases b2 <;> simp
  · simp [h]
theorem eqArc (a b : Nat × Nat) : eqV Tryd.prog 10 157 (arcV a) (arcV b) = some (decide (a = b)) := by
  unfold arcV
  rw [eqV157, castEq, castEq]
  obtain ⟨a1, a2⟩ := a
  obtain ⟨b1, b2⟩ := b
  by_cases h : a1 = b1
  · subst h
    by_cases h2 : a2 = b2 <;> simp [h2]
  · simp [h]
theorem key142 : Key Tryd.prog 142 spV := ⟨eqSp, fun _ => rfl, by kernel_rfl, fun a => by simp [spV, Instr.sameBits]⟩
theorem key157 : Key Tryd.prog 157 arcV := ⟨eqArc, fun _ => rfl, by kernel_rfl, fun a => by simp [arcV, Instr.sameBits]⟩
theorem eqvSp (a b : Spot) (K : Bool → Option R) : eqv Tryd.prog 142 (spV a) (spV b) K = K (decide (a = b)) := by
  have : binOp Tryd.prog .eql 142 (spV a) (spV b) = (eqV Tryd.prog 10 142 (spV a) (spV b)).map Value.bool := by kernel_rfl
  unfold eqv
  rw [this, eqSp]
  rfl
/-- Where an arc lies. -/
def findA : List ((Nat × Nat) × Nat) → Nat × Nat → Nat → Option Nat
  | [], _, _ => none
  | x :: L, a, i => if a = x.1 then some i else findA L a (i + 1)
theorem findK_arc (a : Nat × Nat) : ∀ (L : List ((Nat × Nat) × Nat)) (i : Nat), findK Tryd.prog 157 (arcV a) (L.map arcE) i = some ((findA L a i).map fun j => (j, .bool true)) := by
  intro L
  induction L with
  | nil => intro i; rfl
  | cons x L ih =>
    intro i
    rw [List.map_cons]
    unfold findK findA
    rw [show (arcE x).key = arcV x.1 from rfl, eqArc, Option.bind_some]
    by_cases h : a = x.1
    · rw [decide_eq_true h, if_pos rfl, if_pos h]; rfl
    · rw [decide_eq_false h, if_neg h]
      simp only [Bool.false_eq_true, if_false]
      exact ih (i + 1)
theorem findA_some {a : Nat × Nat} : ∀ (L : List ((Nat × Nat) × Nat)) (i j : Nat), findA L a i = some j → ∃ k x, j = i + k ∧ L[k]? = some x ∧ x.1 = a := by
  intro L
  induction L with
  | nil => intro i j h; cases h
  | cons x L ih =>
    intro i j h
    unfold findA at h
    split at h
    · rename_i e
      cases h
      exact ⟨0, x, rfl, rfl, e.symm⟩
    · obtain ⟨k, y, h1, h2, h3⟩ := ih (i + 1) j h
      exact ⟨k + 1, y, by omega, by simpa using h2, h3⟩
theorem findA_none {a : Nat × Nat} : ∀ (L : List ((Nat × Nat) × Nat)) (i : Nat), findA L a i = none → a ∉ L.map (·.1) := by
  intro L
  induction L with
  | nil => intro i _ h; cases h
  | cons x L ih =>
    intro i h
    unfold findA at h
    split at h
    · cases h
    · rename_i e
      rw [List.map_cons, List.mem_cons, not_or]
      exact ⟨e, ih (i + 1) h⟩
theorem map_erase {α β : Type} (f : α → β) : ∀ (l : List α) (i : Nat), (l.eraseIdx i).map f = (l.map f).eraseIdx i := by
  intro l
  induction l with
  | nil => intro i; rfl
  | cons x l ih =>
    intro i
    cases i with
    | zero => rfl
    | succ i => simp only [List.eraseIdx_cons_succ, List.map_cons, ih]
/-- A map of these arcs. -/
structure ArM (h : H) (mb n : Nat) (S : Nat → Nat → Prop) : Prop where
  ex : ∃ (L : List ((Nat × Nat) × Nat)) (clk : Nat), h.blk mb = some (.mp (L.map arcE) clk) ∧ (∀ x ∈ L, x.2 < clk) ∧ (L.map (·.2)).Nodup ∧ (L.map (·.1)).Nodup ∧ ∀ v u, S v u ↔ (v, u) ∈ L.map (·.1)
  lt : mb < h.nx
  bd : ∀ v u, S v u → v < n ∧ u < n
variable {h : H} {mb n : Nat} {S : Nat → Nat → Prop}
theorem ArM.keep (m : ArM h mb n S) {h' : H} (hn : h.nx ≤ h'.nx) (hb : h'.blk mb = h.blk mb) : ArM h' mb n S := by
  obtain ⟨L, clk, h1, h2⟩ := m.ex
  exact ⟨⟨L, clk, hb.trans h1, h2⟩, Nat.lt_of_lt_of_le m.lt hn, m.bd⟩
theorem ArM.put (m : ArM h mb n S) {v u : Nat} (hv : v < n) (hu : u < n) : ∃ h', (∀ (K : H → Option R), mup Tryd.prog h 158 (.map (some mb)) (arcV (v, u)) (.bool true) K = K h') ∧ ArM h' mb n (orArc S v u) ∧ h'.nx = h.nx ∧ ∀ b, b ≠ mb → h'.blk b = h.blk b := by
  obtain ⟨L, clk, h1, h2, h3, h4, h5⟩ := m.ex
  have hbd : ∀ a b, orArc S v u a b → a < n ∧ b < n := fun a b h => h.elim (m.bd a b) fun e => ⟨by omega, by omega⟩
  cases hf : findA L (v, u) 0 with
  | some i =>
    obtain ⟨k, x, hk, hx, hxe⟩ := findA_some L 0 i hf
    rw [Nat.zero_add] at hk
    subst hk
    have hmod : (L.map arcE).modify i (fun e => { e with key := arcV (v, u), val := .bool true }) = L.map arcE := by
      refine List.ext_getElem? fun j => ?_
      rw [List.getElem?_modify, List.getElem?_map]
      by_cases e : i = j
      · subst e
        rw [hx]
        obtain ⟨x1, x2⟩ := x
        simp only at hxe
        subst hxe
        simp [arcE]
      · cases L[j]? <;> simp [e]
    have hke : (((L.map arcE)[i]?).map (·.key)).getD (arcV (v, u)) = arcV (v, u) := by
      rw [List.getElem?_map, hx]
      simp [arcE, hxe]
    refine ⟨h.set mb (.mp (L.map arcE) clk), fun K => ?_, ⟨⟨L, clk, blk_set_self _ _ _, h2, h3, h4, fun a b => ?_⟩, m.lt, hbd⟩, rfl, fun b hb => blk_set_ne _ _ _ hb⟩
    · unfold mup mapUpdate
      simp only [under158, key157.isKey, if_true, mapOf, h1, Option.bind_some, findK_arc, hf, Option.map_some, hke, key157.bits, key157.plain, Bool.and_self, hmod]
    · rw [← h5]
      unfold orArc
      exact ⟨fun h => h.elim id fun e => (h5 _ _).2 (e.1 ▸ e.2 ▸ List.mem_map.2 ⟨x, List.mem_of_getElem? hx, hxe⟩), .inl⟩
  | none =>
    have hn := findA_none L 0 hf
    refine ⟨h.set mb (.mp (L.map arcE ++ [{ key := arcV (v, u), val := .bool true, born := clk }]) (clk + 1)), fun K => ?_, ⟨⟨L ++ [((v, u), clk)], clk + 1, ?_, fun x hx => ?_, ?_, ?_, fun a b => ?_⟩, m.lt, hbd⟩, rfl, fun b hb => blk_set_ne _ _ _ hb⟩
    · unfold mup mapUpdate
      simp only [under158, key157.isKey, if_true, mapOf, h1, Option.bind_some, findK_arc, hf, Option.map_none]
    · rw [blk_set_self, List.map_append]; rfl
    · rcases List.mem_append.1 hx with hx | hx
      · have := h2 x hx; omega
      · rw [List.mem_singleton.1 hx]; exact Nat.lt_succ_self _
    · rw [List.map_append, List.nodup_append]
      refine ⟨h3, by simp, fun a ha b hb e => ?_⟩
      obtain ⟨x, hx, rfl⟩ := List.mem_map.1 ha
      have := h2 x hx
      simp at hb
      omega
    · rw [List.map_append, List.nodup_append]
      refine ⟨h4, by simp, fun a ha b hb e => ?_⟩
      simp at hb
      rw [e, hb] at ha
      exact hn ha
    · rw [List.map_append, List.mem_append, ← h5]
      unfold orArc
      simp
theorem ArM.del (m : ArM h mb n S) (v u : Nat) : ∃ h', (∀ (K : H → Option R), AM.del Tryd.prog h 158 (.map (some mb)) (arcV (v, u)) K = K h') ∧ ArM h' mb n (fun a b => S a b ∧ (a, b) ≠ (v, u)) ∧ h'.nx = h.nx ∧ ∀ b, b ≠ mb → h'.blk b = h.blk b := by
  obtain ⟨L, clk, h1, h2, h3, h4, h5⟩ := m.ex
  cases hf : findA L (v, u) 0 with
  | some i =>
    obtain ⟨k, x, hk, hx, hxe⟩ := findA_some L 0 i hf
    rw [Nat.zero_add] at hk
    subst hk
    have hlt := (List.getElem?_eq_some_iff.1 hx).1
    refine ⟨h.set mb (.mp ((L.map arcE).eraseIdx i) clk), fun K => ?_, ⟨⟨L.eraseIdx i, clk, ?_, fun y hy => h2 y (List.mem_of_mem_eraseIdx hy), ?_, ?_, fun a b => ?_⟩, m.lt, fun a b h => m.bd a b h.1⟩, rfl, fun b hb => blk_set_ne _ _ _ hb⟩
    · unfold AM.del deleteM
      simp only [List.getElem?_cons_zero, Option.bind_some, under158, key157.isKey, if_true, mapOf, h1, findK_arc, hf, Option.map_some]
    · rw [blk_set_self, map_erase]
    · rw [map_erase]; exact h3.sublist (List.eraseIdx_sublist ..)
    · rw [map_erase]; exact h4.sublist (List.eraseIdx_sublist ..)
    · rw [h5, map_erase]
      have hget : (L.map (·.1))[i]? = some (v, u) := by rw [List.getElem?_map, hx, ← hxe]; rfl
      rw [List.mem_eraseIdx_iff_getElem?]
      constructor
      · rintro ⟨hm, hne⟩
        obtain ⟨j, hj⟩ := List.mem_iff_getElem?.1 hm
        refine ⟨j, fun e => ?_, hj⟩
        subst e
        rw [hget] at hj
        exact hne (Option.some.inj hj).symm
      · rintro ⟨j, hji, hj⟩
        refine ⟨List.mem_of_getElem? hj, fun e => hji ?_⟩
        rw [e] at hj
        obtain ⟨a1, a2⟩ := List.getElem?_eq_some_iff.1 hj
        obtain ⟨b1, b2⟩ := List.getElem?_eq_some_iff.1 hget
        exact (List.getElem_inj (h₀ := a1) (h₁ := b1) h4).1 (by rw [a2, b2])
  | none =>
    have hn := findA_none L 0 hf
    refine ⟨h.set mb (.mp (L.map arcE) clk), fun K => ?_, ⟨⟨L, clk, blk_set_self _ _ _, h2, h3, h4, fun a b => ?_⟩, m.lt, fun a b h => m.bd a b h.1⟩, rfl, fun b hb => blk_set_ne _ _ _ hb⟩
    · unfold AM.del deleteM
      simp only [List.getElem?_cons_zero, Option.bind_some, under158, key157.isKey, if_true, mapOf, h1, findK_arc, hf, Option.map_none, Option.map_some]
    · rw [h5]
      exact ⟨And.left, fun h => ⟨h, fun e => hn (e ▸ h)⟩⟩
end Go.AM
end

section
namespace Go.AM
open Go.Proofs
variable {R : Type}
theorem app155 : okApp Tryd.prog 155 157 2 = true := by kernel_rfl
def arcC (a : Nat × Nat) : List Value := [iv (a.1 : Nat), iv (a.2 : Nat)]
theorem bls155 (a : Nat × Nat) (h : H) : buildSlice Tryd.prog 155 1 [(0, arcV a)] h = some (.slice (some ⟨h.nx, 0, none⟩) 1 1, h.new (.row (arcC a) 157 true)) := by kernel_rfl
theorem kbld157 (a b : Nat) (K : Value → Option R) : bld Tryd.prog 157 [(0, .int .i64 (a : Int)), (1, .int .i64 (b : Int))] K = K (arcV (a, b)) := bld_some (by kernel_rfl)
/-- What a search has come from, as_ the map holds it. -/
def kvV (kv : List (Spot × Spot)) : List (Spot × Value) := kv.map fun p => (p.1, spV p.2)
theorem valK_mem {kv : List (Spot × Spot)} (hnd : (kv.map (·.1)).Nodup) {y x : Spot} (h : (y, x) ∈ kv) : valK (kvV kv) y = some (spV x) := by
  have key : ∀ (kv : List (Spot × Spot)) (i : Nat), (kv.map (·.1)).Nodup → (y, x) ∈ kv → (lookK (kvV kv) y i).map (·.2) = some (spV x) := by
    intro kv
    induction kv with
    | nil => intro i _ h; cases h
    | cons p kv ih =>
      intro i hn hm
      rw [List.map_cons, List.nodup_cons] at hn
      show (if y = p.1 then some (i, spV p.2) else lookK (kvV kv) y (i + 1)).map (·.2) = _
      rcases List.mem_cons.1 hm with e | hm
      · subst e
        rw [if_pos rfl]; rfl
      · rw [if_neg (fun (e : y = p.1) => hn.1 (e ▸ List.mem_map.2 ⟨_, hm, rfl⟩))]
        exact ih (i + 1) hn.2 hm
  exact key kv 0 hnd h
theorem ldS {h : H} {b : Nat} {w : Bool} {x : Spot} (hb : h.blk b = some (.row (spC x) 142 w)) (K : Value → Option R) : ld Tryd.prog h 142 b 0 K = K (spV x) := by
  rw [d142, rd_two hb, Option.bind_some]; rfl
theorem ldS0 {h : H} {b : Nat} {w : Bool} {x : Spot} (hb : h.blk b = some (.row (spC x) 142 w)) (K : Value → Option R) : ld Tryd.prog h 3 b 0 K = K (iv x.1) := by
  rw [d3, cell_of hb]; rfl
theorem ldS1 {h : H} {b : Nat} {w : Bool} {x : Spot} (hb : h.blk b = some (.row (spC x) 142 w)) (K : Value → Option R) : ld Tryd.prog h 4 b (off 0 1) K = K (.bool x.2) := by
  rw [d4, cell_of hb]; rfl
theorem alS {h : H} {a0 a1 : Value} {x : Spot} (K : H → Option R) : (al h 142 [a0, a1] fun h1 => st Tryd.prog h1 142 (nx h) 0 (spV x) K) = K (h.var (.row (spC x) 142 true)) := al_two sz142 rfl rfl K
theorem stS {h : H} {b : Nat} {y x : Spot} (hb : h.blk b = some (.row (spC y) 142 true)) (K : H → Option R) : st Tryd.prog h 142 b 0 (spV x) K = K (h.set b (.row (spC x) 142 true)) := by
  rw [w142]
  unfold spV
  rw [wrc_two hb rfl rfl, Option.bind_some]; rfl
theorem gv30 (a b c : Value) : AM.gv [a, b, c] 0 = a := rfl
theorem gv31 (a b c : Value) : AM.gv [a, b, c] 1 = b := rfl
theorem gv32 (a b c : Value) : AM.gv [a, b, c] 2 = c := rfl
set_option maxHeartbeats 1000000 in
theorem ap_l1 {kv : List (Spot × Spot)} {s m0 lo : Nat} {h0 : H} (hnd : (kv.map (·.1)).Nodup) (hks : ∀ p ∈ kv, p.1 ≠ (s, true)) (hm0 : m0 < lo) (ha0 : h0.nx < lo) : ∀ {y : Spot} {L : List Spot}, PK s kv y L → ∀ (h5 : H) (cv av : Value) (cs as_ : List (List Value)) (b m : Nat), L.length < m → cs.length + L.length < 2 ^ 20 → as_.length + L.length < 2 ^ 20 →
    h5.blk m0 = some (mpOf spV (kvV kv)) → h5.blk h0.nx = some (.row (spC (s, true)) 142 true) → h5.blk b = some (.row (spC y) 142 true) → b < h5.nx → lo ≤ h5.nx → AqR lo h5 157 2 cv cs → AqR lo h5 157 2 av as_ → (∀ q, blkOf cv = some q → blkOf av ≠ some q) →
    ∃ cv' av' yv h', lpGo (f101H_l1 rn 100 (.map (some m0)) h0) m [cv, av, pt b 0] h5 = some (.exit 0, [cv', av', yv], h') ∧ Fr lo h5 h' ∧ AqR lo h' 157 2 cv' (cs ++ (cutL y L).map arcC) ∧ AqR lo h' 157 2 av' (as_ ++ (addL y L).map arcC) := by
  intro y L hp
  induction hp with
  | start =>
    intro h5 cv av cs as_ b m hm _ _ b0 b1 b2 hb hlo hc ha hne
    obtain ⟨m, rfl⟩ : ∃ k, m = k + 1 := ⟨m - 1, by omega⟩
    refine ⟨cv, av, pt b 0, h5, lpGo_exit ?_, .refl _ _, ?_, ?_⟩
    · unfold f101H_l1
      rw [gv32, asP_ptr, ldS b2, nx_eq, ldS b1, eqvSp, decide_eq_true rfl, Bool.not_true, ifB_false, gv30, gv31]
      rfl
    · simpa [cutL] using hc
    · simpa [addL] using ha
  | @step y x L hyx _ ih =>
    intro h5 cv av cs as_ b m hm hcl hal b0 b1 b2 hb hlo hc ha hne
    rw [List.length_cons] at hm hcl hal
    obtain ⟨m, rfl⟩ : ∃ k, m = k + 1 := ⟨m - 1, by omega⟩
    have hys := hks _ hyx
    have hval := valK_mem hnd hyx
    have lk : ∀ {T : Type} {h : H}, h.blk m0 = some (mpOf spV (kvV kv)) → ∀ (K : Value → Option T), lok Tryd.prog h 140 (.map (some m0)) (spV y) false K = K (spV x) := fun hb K => by
      rw [lok_of0 key142 under140 zero142 hb, hval]; rfl
    obtain ⟨h7, hh7⟩ : ∃ h7, h7 = h5.var (.row (spC x) 142 true) := ⟨_, rfl⟩
    have x7 : Ext h5 h7 := hh7 ▸ .var _ _
    have n7 : h7.nx = h5.nx + 1 := by rw [hh7]; rfl
    have b7 : h7.blk h5.nx = some (.row (spC x) 142 true) := by rw [hh7]; exact var_at _ _
    have y7 := (x7.blk b hb).trans b2
    have start : ∀ {r : Option (Ex × List Value × H)}, (∀ q : Unit, ifB y.2 (
        ld Tryd.prog h7 3 b 0 fun v10 => asI .i64 v10 fun n0 => ld Tryd.prog h7 3 (nx h5) 0 fun v11 => asI .i64 v11 fun n1 =>
        bld Tryd.prog 157 [(0, (.int .i64 n0)), (1, (.int .i64 n1))] fun v12 => bls Tryd.prog h7 155 1 [(0, v12)] fun v13 h8 => app Tryd.prog h8 155 155 cv v13 fun v14 h9 =>
        ld Tryd.prog h9 142 b 0 fun v15 => al h9 142 [(.int .i64 0), (.bool false)] fun h10 => st Tryd.prog h10 142 (nx h9) 0 v15 fun h11 => ld Tryd.prog h11 142 (nx h9) 0 fun v16 =>
        lok Tryd.prog h11 140 (.map (some m0)) v16 false fun v17 => st Tryd.prog h11 142 (nx h9) 0 v17 fun h12 => out .normal [v14, av, (pt (nx h9) 0)] h12) (
        ld Tryd.prog h7 3 (nx h5) 0 fun v18 => asI .i64 v18 fun n2 => ld Tryd.prog h7 3 b 0 fun v19 => asI .i64 v19 fun n3 =>
        bld Tryd.prog 157 [(0, (.int .i64 n2)), (1, (.int .i64 n3))] fun v20 => bls Tryd.prog h7 155 1 [(0, v20)] fun v21 h13 => app Tryd.prog h13 155 155 av v21 fun v22 h14 =>
        ld Tryd.prog h14 142 b 0 fun v23 => al h14 142 [(.int .i64 0), (.bool false)] fun h15 => st Tryd.prog h15 142 (nx h14) 0 v23 fun h16 => ld Tryd.prog h16 142 (nx h14) 0 fun v24 =>
        lok Tryd.prog h16 140 (.map (some m0)) v24 false fun v25 => st Tryd.prog h16 142 (nx h14) 0 v25 fun h17 => out .normal [cv, v22, (pt (nx h14) 0)] h17) = r) → f101H_l1 rn 100 (.map (some m0)) h0 [cv, av, pt b 0] h5 = r := by
      intro r hr
      unfold f101H_l1
      rewrite [gv32, asP_ptr, ldS b2, nx_eq, ldS b1, eqvSp, decide_eq_false hys, Bool.not_false, ifB_true, asP_ptr, ldS b2, lk b0, alS, ← hh7, asP_ptr, ldS1 y7, asB_bool, gv30, gv31]
      simp only [asP_ptr]
      exact hr ()
    have hcb : ∀ q, blkOf cv = some q → q ≠ b ∧ lo ≤ q := fun q hq => by
      obtain ⟨q1, _, q3⟩ := hc.blkOf hq
      refine ⟨fun e => ?_, q1⟩
      rw [e, b2] at q3
      simp at q3
    have hab : ∀ q, blkOf av = some q → q ≠ b ∧ lo ≤ q := fun q hq => by
      obtain ⟨q1, _, q3⟩ := ha.blkOf hq
      refine ⟨fun e => ?_, q1⟩
      rw [e, b2] at q3
      simp at q3
    -- behind the push
    have back : ∀ (h9 : H), h7.nx ≤ h9.nx → h9.blk b = some (.row (spC y) 142 true) → h9.blk m0 = some (mpOf spV (kvV kv)) → ∃ h12, (∀ (K : H → Option (Ex × List Value × H)),
        (ld Tryd.prog h9 142 b 0 fun v15 => al h9 142 [(.int .i64 0), (.bool false)] fun h10 => st Tryd.prog h10 142 (nx h9) 0 v15 fun h11 => ld Tryd.prog h11 142 (nx h9) 0 fun v16 =>
        lok Tryd.prog h11 140 (.map (some m0)) v16 false fun v17 => st Tryd.prog h11 142 (nx h9) 0 v17 K) = K h12) ∧ h12.nx = h9.nx + 1 ∧ h12.blk h9.nx = some (.row (spC x) 142 true) ∧ ∀ q, q < h9.nx → h12.blk q = h9.blk q := by
      intro h9 n9 hb9 hm9
      obtain ⟨h11, hh11⟩ : ∃ h11, h11 = h9.var (.row (spC y) 142 true) := ⟨_, rfl⟩
      have x11 : Ext h9 h11 := hh11 ▸ .var _ _
      have b11 : h11.blk h9.nx = some (.row (spC y) 142 true) := by rw [hh11]; exact var_at _ _
      have n11 : h11.nx = h9.nx + 1 := by rw [hh11]; rfl
      refine ⟨h11.set h9.nx (.row (spC x) 142 true), fun K => ?_, n11, blk_set_self _ _ _, fun q hq => ?_⟩
      · rw [ldS hb9, alS, ← hh11, nx_eq, ldS b11, lk ((x11.blk _ (by omega)).trans hm9), stS b11]
      · rw [blk_set_ne _ _ _ (by omega)]; exact x11.blk q hq
    by_cases hy2 : y.2 = true
    · obtain ⟨cv', h9, e9, a9, n9, k9, b', hb', hb''⟩ := (hc.ext x7).push app155 app155 (bls155 (y.1, x.1)) rfl rfl (by omega) (by omega)
      have hb9 := (k9 b (by omega) (fun e => (hcb b e).1 rfl)).trans y7
      have hm9 := (k9 m0 (by omega) (fun e => by have := (hcb m0 e).2; omega)).trans ((x7.blk _ (by omega)).trans b0)
      obtain ⟨h12, e12, n12, b12, f12⟩ := back h9 n9 hb9 hm9
      have hav9 : AqR lo h9 157 2 av as_ := (ha.ext x7).keep n9 fun q hq => k9 q (by have := ((ha.ext x7).blkOf hq).2.1; omega) (fun e => hne q e hq)
      have hd : ∀ q, q < lo → h12.blk q = h5.blk q := fun q hq => by rw [f12 q (by omega), k9 q (by omega) (fun e => by have := (hcb q e).2; omega), x7.blk q (by omega)]
      obtain ⟨cv2, av2, yv, h', i1, i2, i3, i4⟩ := ih h12 cv' av (cs ++ [arcC (y.1, x.1)]) as_ h9.nx m (by omega) (by simp; omega) (by omega) ((hd _ hm0).trans b0) ((hd _ ha0).trans b1) b12 (by omega) (by omega)
        (a9.keep (by omega) fun q hq => f12 q (a9.blkOf hq).2.1) (hav9.keep (by omega) fun q hq => f12 q (hav9.blkOf hq).2.1) (fun q hq e => by
          rw [hb'] at hq; cases hq
          have := ((ha.ext x7).blkOf e).2.1
          omega)
      refine ⟨cv2, av2, yv, h', ?_, ⟨by have := i2.nx; omega, fun q hq => (i2.blk q hq).trans (hd q hq)⟩, ?_, ?_⟩
      · rw [lpGo_next (start fun _ => ?_)]
        · exact i1
        · rw [hy2, ifB_true, ldS0 y7, asI_int, nx_eq h5, ldS0 b7, asI_int, kbld157, e9, e12]
          rfl
      · rw [cutL_cons, if_pos hy2]
        simpa [List.append_assoc] using i3
      · rw [addL_cons, if_pos hy2]; exact i4
    · have hy2' : y.2 = false := by simpa using hy2
      obtain ⟨av', h9, e9, a9, n9, k9, b', hb', hb''⟩ := (ha.ext x7).push app155 app155 (bls155 (x.1, y.1)) rfl rfl (by omega) (by omega)
      have hb9 := (k9 b (by omega) (fun e => (hab b e).1 rfl)).trans y7
      have hm9 := (k9 m0 (by omega) (fun e => by have := (hab m0 e).2; omega)).trans ((x7.blk _ (by omega)).trans b0)
      obtain ⟨h12, e12, n12, b12, f12⟩ := back h9 n9 hb9 hm9
      have hcv9 : AqR lo h9 157 2 cv cs := (hc.ext x7).keep n9 fun q hq => k9 q (by have := ((hc.ext x7).blkOf hq).2.1; omega) (fun e => hne q hq e)
      have hd : ∀ q, q < lo → h12.blk q = h5.blk q := fun q hq => by rw [f12 q (by omega), k9 q (by omega) (fun e => by have := (hab q e).2; omega), x7.blk q (by omega)]
      obtain ⟨cv2, av2, yv, h', i1, i2, i3, i4⟩ := ih h12 cv av' cs (as_ ++ [arcC (x.1, y.1)]) h9.nx m (by omega) (by omega) (by simp; omega) ((hd _ hm0).trans b0) ((hd _ ha0).trans b1) b12 (by omega) (by omega)
        (hcv9.keep (by omega) fun q hq => f12 q (hcv9.blkOf hq).2.1) (a9.keep (by omega) fun q hq => f12 q (a9.blkOf hq).2.1) (fun q hq e => by
          rw [hb'] at e; cases e
          have := ((hc.ext x7).blkOf hq).2.1
          omega)
      refine ⟨cv2, av2, yv, h', ?_, ⟨by have := i2.nx; omega, fun q hq => (i2.blk q hq).trans (hd q hq)⟩, ?_, ?_⟩
      · rw [lpGo_next (start fun _ => ?_)]
        · exact i1
        · rw [hy2', ifB_false, nx_eq h5, ldS0 b7, asI_int, ldS0 y7, asI_int, kbld157, e9, e12]
          rfl
      · rw [cutL_cons, if_neg hy2]; exact i3
      · rw [addL_cons, if_neg hy2]
        simpa [List.append_assoc] using i4
end Go.AM
end

section
namespace Go.AM
open Go.Proofs
variable {R : Type}
/-- All that was there is as_ it was, but one block. -/
structure Exo (o : Option Nat) (h h' : H) : Prop where
  nx : h.nx ≤ h'.nx
  blk : ∀ b, b < h.nx → o ≠ some b → h'.blk b = h.blk b
theorem Exo.refl (o : Option Nat) (h : H) : Exo o h h := ⟨Nat.le_refl _, fun _ _ _ => rfl⟩
theorem lp_app {α : Type} {e t t2 : TypeId} {sz lo : Nat} (ht : okApp Tryd.prog t e sz = true) {F : List Value → H → Option (Ex × List Value × H)} {k : Nat} {l : List α} (p : α → Bool) (xv : α → Value) (cell : α → List Value)
    (hb : ∀ x (h : H), buildSlice Tryd.prog t2 1 [(0, xv x)] h = some (.slice (some ⟨h.nx, 0, none⟩) 1 1, h.new (.row (cell x) e true))) (hc : ∀ x, (cell x).length = sz ∧ (cell x).all scal = true) (jv : Nat → Value) (oj : Nat) (hk : l.length < k)
    {acc : List (List Value)} {sv0 : Value} {h : H}
    (fin : ∀ sv g, Exo (blkOf sv0) h g → F [sv, jv l.length] g = some (.exit oj, [sv, jv l.length], g))
    (step : ∀ i x sv g, l[i]? = some x → Exo (blkOf sv0) h g → F [sv, jv i] g = if p x = true then (bls Tryd.prog g t2 1 [(0, xv x)] fun v5 h5 => app Tryd.prog h5 t t sv v5 fun v6 h6 => some (.normal, [v6, jv (i + 1)], h6)) else some (.normal, [sv, jv (i + 1)], g))
    (hap : AqR lo h e sz sv0 acc) (hlo : lo ≤ h.nx) (hl : acc.length + l.length < 2 ^ 25) :
    ∃ sv' h', lpGo F k [sv0, jv 0] h = some (.exit oj, [sv', jv l.length], h') ∧ Exo (blkOf sv0) h h' ∧ AqR lo h' e sz sv' (acc ++ (l.filter p).map cell) := by
  obtain ⟨ws', h', hl', xg, hll, sv', hbs, hap', rfl⟩ := lp_for (F := F) (k := k) (l := l) (fun _ x acc => if p x = true then acc ++ [cell x] else acc)
    (fun i acc' ws h' => Exo (blkOf sv0) h h' ∧ acc'.length ≤ acc.length + i ∧ ∃ sv, (blkOf sv = blkOf sv0 ∨ ∀ b, blkOf sv = some b → h.nx ≤ b) ∧ AqR lo h' e sz sv acc' ∧ ws = [sv, jv i]) oj (ws := [sv0, jv 0]) (h := h) (s0 := acc)
    ⟨.refl _ _, by omega, sv0, .inl rfl, hap, rfl⟩ hk
    (by
      rintro acc' ws g ⟨xg, _, sv, _, _, rfl⟩
      exact fin sv g xg)
    (by
      rintro i x acc' ws g hx ⟨xg, hal, sv, hbs, hap1, rfl⟩
      have hi := (List.getElem?_eq_some_iff.1 hx).1
      have hF := step i x sv g hx xg
      by_cases hp : p x = true
      · rw [if_pos hp] at hF ⊢
        obtain ⟨sv', h2, e2, a2, n2, k2, b2, hb2, hb2'⟩ := hap1.push ht ht (hb x) (hc x).1 (hc x).2 (by omega) (Nat.le_trans hlo xg.nx)
        rw [hF, e2]
        have := xg.nx
        refine ⟨_, _, rfl, ⟨by omega, fun b hb hne => ?_⟩, by simp; omega, sv', .inr fun b hb => by rw [hb2] at hb; cases hb; omega, a2, rfl⟩
        rw [k2 b (by omega) (fun e => ?_)]
        · exact xg.blk b hb hne
        · rcases hbs with h1 | h1
          · exact hne (h1 ▸ e)
          · have := h1 b e; omega
      · rw [if_neg hp] at hF ⊢
        rw [hF]
        exact ⟨_, _, rfl, xg, by omega, sv, hbs, hap1, rfl⟩)
  rw [foldI_filter] at hap'
  exact ⟨sv', h', hl', xg, hap'⟩
section
variable {g : List Nat} {s t lo fb nb bb first : Nat} {tv : Value} {nxt : List Int} {bf : List Value} {h : H}
/-- Is the edge one that the search takes? -/
def fwdQ (s first : Nat) (nxt : List Int) (v u : Nat) : Bool := decide (u ≠ s) && !usedW s first nxt v u
theorem fwd_cells {v : Nat} : ((elts (AM.nb g v)).filter (fwdQ s first nxt v)).map (fun u => spC (u, false)) = cellsS (fwdL g s first nxt v) := by
  unfold fwdL fwdQ cellsS
  rw [List.map_map]
  rfl
/-- What the three loops have in common. -/
structure AhC (g : List Nat) (s t lo : Nat) (tv : Value) (fb nb bb first : Nat) (nxt : List Int) (bf : List Value) (v : Nat) (w : Bool) (h : H) : Prop where
  a : FlH g s t lo tv fb nb bb first nxt bf h
  st : StW g s t first nxt bf
  hg : GrN g
  hs : s < g.length
  hv : v < g.length
theorem FlH.exo (a : FlH g s t lo tv fb nb bb first nxt bf h) {o : Option Nat} {h' : H} (x : Exo o h h') (ho : ∀ b, o = some b → b ≠ fb ∧ b ≠ nb ∧ b ≠ bb ∧ blkOf tv ≠ some b) : FlH g s t lo tv fb nb bb first nxt bf h' :=
  ⟨a.tvs.keepB x.nx fun b hb => x.blk b (a.tvs.blkR hb).1 fun e => (ho b e).2.2.2 hb, a.tvlo, (x.blk _ a.lt.1 fun e => (ho _ e).1 rfl).trans a.f, (x.blk _ a.lt.2.1 fun e => (ho _ e).2.1 rfl).trans a.n, (x.blk _ a.lt.2.2 fun e => (ho _ e).2.2.1 rfl).trans a.b, a.ne, a.lo, Nat.lt_of_lt_of_le a.lt.1 x.nx, Nat.lt_of_lt_of_le a.lt.2.1 x.nx, Nat.lt_of_lt_of_le a.lt.2.2 x.nx⟩
theorem ah_loop {v : Nat} {b : Bool} {v115 : Value} {F : List Value → H → Option (Ex × List Value × H)} {h h2 : H} {sv : Value} {acc : List (List Value)} (c : AhC g s t lo tv fb nb bb first nxt bf v b h)
    (x1 : Ext (h.new (.row (spC (v, b)) 142 true)) h2) (hs2 : SlR h2 3 1 v115 (cellsN (elts (AM.nb g v)))) (hap : AqR (h.nx + 1) h2 142 2 sv acc) (hne : ∀ b, blkOf sv = some b → blkOf v115 ≠ some b) (hacc : acc.length ≤ 10)
    (oj : Nat) (fin : ∀ sv g', F [sv, iv ((elts (AM.nb g v)).length : Nat)] g' = some (.exit oj, [sv, iv ((elts (AM.nb g v)).length : Nat)], g'))
    (step : ∀ (i u : Nat) (sv : Value) (g' : H), i < 20 → u < g.length → FlH g s t lo tv fb nb bb first nxt bf g' → (∀ (K : Value → Option (Ex × List Value × H)), (six v115 (i : Int) 1 fun b o => ld Tryd.prog g' 3 b o K) = K (iv (u : Int))) → (∀ (K : Value → Option (Ex × List Value × H)), ld Tryd.prog g' 3 h.nx 0 K = K (iv (v : Int))) → AM.lt (i : Int) ((elts (AM.nb g v)).length : Nat) = true →
      F [sv, iv (i : Nat)] g' = if fwdQ s first nxt v u = true then (bls Tryd.prog g' 143 1 [(0, spV (u, false))] fun v5 h5 => app Tryd.prog h5 143 143 sv v5 fun v6 h6 => some (.normal, [v6, iv ((i + 1 : Nat) : Int)], h6)) else some (.normal, [sv, iv ((i + 1 : Nat) : Int)], g')) :
    ∃ sv' h', lpGo F 100 [sv, iv 0] h2 = some (.exit oj, [sv', iv ((elts (AM.nb g v)).length : Nat)], h') ∧ Ext h h' ∧ AqR (h.nx + 1) h' 142 2 sv' (acc ++ cellsS (fwdL g s first nxt v)) := by
  have hlen := c.hg.len
  have hnb : AM.nb g v < 1024 := Nat.lt_of_lt_of_le (c.hg.nb_lt v) c.hg.pow
  have hel : (elts (AM.nb g v)).length ≤ 10 := by unfold elts; exact Nat.le_trans (List.length_filter_le ..) (by simp)
  have x0 : Ext h (h.new (.row (spC (v, b)) 142 true)) := .new _ _
  have hsv := blk_new_self h (.row (spC (v, b)) 142 true)
  have hn1 : (h.new (.row (spC (v, b)) 142 true)).nx = h.nx + 1 := rfl
  have hx1 := x1.nx
  have a2 := c.a.ext (x0.trans x1)
  have hso : ∀ q, blkOf sv = some q → h.nx + 1 ≤ q := fun q hq => (hap.blkOf hq).1
  have htv := c.a.tvs
  obtain ⟨sv', h', e1, x2, a2⟩ := lp_app app143 (lo := h.nx + 1) (F := F) (k := 100) (l := elts (AM.nb g v)) (h := h2) (sv0 := sv) (acc := acc) (fwdQ s first nxt v) (fun u => spV (u, false)) (fun u => spC (u, false)) (fun u h => bls143 (u, false) h) (fun u => ⟨rfl, rfl⟩) (fun i => iv (i : Nat)) oj (by omega)
    (fun sv g' _ => fin _ g')
    (fun i u sv g' hu xg => by
      have hi := (List.getElem?_eq_some_iff.1 hu).1
      have hub := (mem_elts hnb).1 (List.mem_of_getElem? hu)
      refine step i u sv g' (by omega) (bit_lt (c.hg.nb_lt v) hub) (a2.exo xg fun q hq => ?_) (fun K => (hs2.keepB xg.nx fun q hq => xg.blk q (hs2.blkR hq).1 fun e => hne q e hq).ld0 ag3 (by omega) (x := [iv (u : Int)]) (by simp [hu]) rfl K) (fun K => ?_) (by simp only [AM.lt, decide_eq_true_eq]; omega)
      · have h1 := hso q hq
        have := c.a.lt
        exact ⟨by omega, by omega, by omega, fun e => by have := (htv.blkR e).1; omega⟩
      · have hb : g'.blk h.nx = some (.row (spC (v, b)) 142 true) := by
          rw [xg.blk _ (by omega) (fun e => by have := hso _ e; omega), x1.blk _ (by omega)]; exact hsv
        rw [d3, cell_of hb]; rfl)
    hap (by omega) (by omega)
  rw [fwd_cells] at a2
  refine ⟨sv', h', e1, ⟨by have := x2.nx; omega, fun q hq => ?_⟩, a2⟩
  rw [x2.blk q (by omega) (fun e => by have := hso _ e; omega), x1.blk q (by omega)]
  exact x0.blk q hq
end
end Go.AM
end

section
namespace Go.AM
open Go.Proofs
variable {R : Type}
/-- A loop that counts up. -/
theorem lp_up {F : List Value → H → Option (Ex × List Value × H)} {k n oj : Nat} (I : Nat → H → Prop) {h : H} (h0 : I 0 h) (hk : n < k) (fin : ∀ h, I n h → F [iv (n : Nat)] h = some (.exit oj, [iv (n : Nat)], h))
    (step : ∀ i h, i < n → I i h → ∃ h', F [iv (i : Nat)] h = some (.normal, [iv ((i + 1 : Nat) : Int)], h') ∧ I (i + 1) h') : ∃ h', lpGo F k [iv 0] h = some (.exit oj, [iv (n : Nat)], h') ∧ I n h' := by
  have key : ∀ (d i m : Nat) (h : H), i + d = n → d < m → I i h → ∃ h', lpGo F m [iv (i : Nat)] h = some (.exit oj, [iv (n : Nat)], h') ∧ I n h' := by
    intro d
    induction d with
    | zero =>
      intro i m h hi hm hI
      obtain ⟨m, rfl⟩ : ∃ k, m = k + 1 := ⟨m - 1, by omega⟩
      have : i = n := by omega
      subst this
      exact ⟨h, lpGo_exit (fin h hI), hI⟩
    | succ d ih =>
      intro i m h hi hm hI
      obtain ⟨m, rfl⟩ : ∃ k, m = k + 1 := ⟨m - 1, by omega⟩
      obtain ⟨h1, e1, I1⟩ := step i h (by omega) hI
      obtain ⟨h2, e2, I2⟩ := ih (i + 1) m h1 (by omega) (by omega) I1
      exact ⟨h2, (lpGo_next e1).trans e2, I2⟩
  exact key n 0 k h (by omega) hk h0
theorem gv10 (a : Value) : AM.gv [a] 0 = a := rfl
theorem add1 {i : Nat} (hi : i < 2 ^ 20) : add .i64 (i : Int) 1 = ((i + 1 : Nat) : Int) := by rw [add64 (by omega) (by omega)]; omega
theorem lt_self (n : Nat) : AM.lt (n : Int) (n : Int) = false := by simp [AM.lt]
theorem lt_nat {a b : Nat} (h : a < b) : AM.lt (a : Int) (b : Int) = true := by simp only [AM.lt, decide_eq_true_eq]; omega
theorem Exo.trans {o : Option Nat} {a b c : H} (x : Exo o a b) (y : Exo o b c) : Exo o a c := ⟨Nat.le_trans x.nx y.nx, fun q hq hne => (y.blk q (Nat.lt_of_lt_of_le hq x.nx) hne).trans (x.blk q hq hne)⟩
theorem Ext.exo {o : Option Nat} {a b : H} (x : Ext a b) : Exo o a b := ⟨x.nx, fun q hq _ => x.blk q hq⟩
theorem ArM.congr {h : H} {mb n : Nat} {S S' : Nat → Nat → Prop} (m : ArM h mb n S) (e : ∀ a b, S a b ↔ S' a b) : ArM h mb n S' := by
  have : S = S' := by funext a b; exact propext (e a b)
  rw [← this]; exact m
theorem ArM.exo {h h' : H} {mb n : Nat} {S : Nat → Nat → Prop} (m : ArM h mb n S) (x : Ext h h') : ArM h' mb n S := m.keep x.nx (x.blk _ m.lt)
section
variable {s t fb nb bb first : Nat} {tv : Value} {nxt : List Int} {bf : List Value}
theorem FlB.exo {h h' : H} (a : FlB s t tv fb nb bb first nxt bf h) {o : Option Nat} (x : Exo o h h') (ho : ∀ b, o = some b → b ≠ fb ∧ b ≠ nb ∧ b ≠ bb) : FlB s t tv fb nb bb first nxt bf h' :=
  ⟨(x.blk _ a.lt.1 fun e => (ho _ e).1 rfl).trans a.f, (x.blk _ a.lt.2.1 fun e => (ho _ e).2.1 rfl).trans a.n, (x.blk _ a.lt.2.2 fun e => (ho _ e).2.2 rfl).trans a.b, a.ne, Nat.lt_of_lt_of_le a.lt.1 x.nx, Nat.lt_of_lt_of_le a.lt.2.1 x.nx, Nat.lt_of_lt_of_le a.lt.2.2 x.nx⟩
/-- The arcs out of s. -/
theorem ap_l2 {h18 h : H} {v27 : Value} {l : List Nat} {n : Nat} {S : Nat → Nat → Prop} (a : FlB s t tv fb nb bb first nxt bf h) (hl : SlR h 3 1 v27 (cellsN l)) (hll : l.length < 50) (hln : ∀ u ∈ l, u < n) (hs : s < n) (m : ArM h h18.nx n S) (hne : h18.nx ≠ fb ∧ h18.nx ≠ nb ∧ h18.nx ≠ bb) (hv : blkOf v27 ≠ some h18.nx) :
    ∃ h', lpGo (f101H_l2 rn 100 (pt fb 0) h18 v27 (l.length : Nat)) 100 [iv 0] h = some (.exit 2, [iv (l.length : Nat)], h') ∧ Exo (some h18.nx) h h' ∧ ArM h' h18.nx n (fun a b => S a b ∨ (a = s ∧ b ∈ l)) := by
  obtain ⟨h', e, x, m'⟩ := lp_up (F := f101H_l2 rn 100 (pt fb 0) h18 v27 (l.length : Nat)) (k := 100) (n := l.length) (oj := 2) (fun i h' => Exo (some h18.nx) h h' ∧ ArM h' h18.nx n (fun a b => S a b ∨ (a = s ∧ b ∈ l.take i))) (h := h)
    ⟨.refl _ _, m.congr fun a b => by simp⟩ (by omega)
    (fun h' _ => by
      unfold f101H_l2
      rw [gv10, asI_int, lt_self]; rfl)
    (by
      rintro i h' hi ⟨x, m'⟩
      have hu := List.getElem?_eq_getElem hi
      generalize l[i] = u at hu
      have hun := hln u (List.mem_of_getElem? hu)
      have a' := a.exo x fun b e => by cases e; exact hne
      have e1 : ∀ {T : Type} (K : Value → Option T), (six v27 (i : Int) 1 fun b o => ld Tryd.prog h' 3 b o K) = K (iv (u : Int)) := fun K => (hl.keepB x.nx fun b hb => x.blk b (hl.blkR hb).1 fun e => hv (by rw [hb, e])).ld0 ag3 (by omega) (x := [iv (u : Int)]) (by simp [hu]) rfl K
      obtain ⟨h2, e2, m2, n2, f2⟩ := m'.put (R := Ex × List Value × H) hs hun
      refine ⟨h2, ?_, x.trans ⟨by omega, fun b hb hn => f2 b fun e => hn (by rw [e])⟩, m2.congr fun a b => ?_⟩
      · unfold f101H_l2
        rw [gv10, asI_int, lt_nat hi, ifB_true, asK_int, e1, asI_int, nilp, asP_ptr, a'.lds, asI_int, kbld157, nx_eq, e2, asI_int, add1 (by omega)]
        rfl
      · unfold orArc
        rw [List.take_add_one, hu, List.mem_append]
        simp only [Option.toList_some, List.mem_singleton]
        constructor
        · rintro ((h | ⟨rfl, h⟩) | ⟨rfl, rfl⟩)
          · exact .inl h
          · exact .inr ⟨rfl, .inl h⟩
          · exact .inr ⟨rfl, .inr rfl⟩
        · rintro (h | ⟨rfl, h | rfl⟩)
          · exact .inl (.inl h)
          · exact .inl (.inr ⟨rfl, h⟩)
          · exact .inr ⟨rfl, rfl⟩)
  rw [List.take_length] at m'
  exact ⟨h', e, x, m'⟩
/-- The arcs out of others. -/
theorem ap_l3 {h18 h : H} {n : Nat} {S : Nat → Nat → Prop} (a : FlB s t tv fb nb bb first nxt bf h) (hll : nxt.length = n) (hn : n < 50) (hln : ∀ (v u : Nat), nxt[v]? = some (u : Int) → u < n) (m : ArM h h18.nx n S) (hne : h18.nx ≠ fb ∧ h18.nx ≠ nb ∧ h18.nx ≠ bb) :
    ∃ h', lpGo (f101H_l3 rn 100 h18 (.slice (some ⟨nb, 0, none⟩) nxt.length nxt.length) (n : Nat)) 100 [iv 0] h = some (.exit 4, [iv (n : Nat)], h') ∧ Exo (some h18.nx) h h' ∧ ArM h' h18.nx n (fun a b => S a b ∨ nxt[a]? = some (b : Int)) := by
  obtain ⟨h', e, x, m'⟩ := lp_up (F := f101H_l3 rn 100 h18 (.slice (some ⟨nb, 0, none⟩) nxt.length nxt.length) (n : Nat)) (k := 100) (n := n) (oj := 4) (fun i h' => Exo (some h18.nx) h h' ∧ ArM h' h18.nx n (fun a b => S a b ∨ (a < i ∧ nxt[a]? = some (b : Int)))) (h := h)
    ⟨.refl _ _, m.congr fun a b => by simp⟩ (by omega)
    (fun h' _ => by
      unfold f101H_l3
      rw [gv10, asI_int, lt_self]; rfl)
    (by
      rintro i h' hi ⟨x, m'⟩
      have hu : nxt[i]? = some (nxt[i]'(by omega)) := List.getElem?_eq_getElem (by omega)
      generalize nxt[i]'(by omega) = z at hu
      have a' := a.exo x fun b e => by cases e; exact hne
      have e1 : ∀ {T : Type} (K : Value → Option T), (six (.slice (some ⟨nb, 0, none⟩) nxt.length nxt.length) (i : Int) 1 fun b o => ld Tryd.prog h' 3 b o K) = K (iv z) := fun K => by
        rw [six_at (by omega), d3, cell_of a'.n, List.getElem?_map, hu]; rfl
      by_cases hz : 0 ≤ z
      · obtain ⟨u, rfl⟩ : ∃ u : Nat, z = (u : Int) := ⟨z.toNat, by omega⟩
        obtain ⟨h2, e2, m2, n2, f2⟩ := m'.put (R := Ex × List Value × H) hi (hln i u hu)
        refine ⟨h2, ?_, x.trans ⟨by omega, fun b hb hn => f2 b fun e => hn (by rw [e])⟩, m2.congr fun a b => ?_⟩
        · unfold f101H_l3
          rw [gv10, asI_int, lt_nat hi, ifB_true, asK_int, e1, asI_int, show AM.le 0 (u : Int) = true by simp [AM.le], ifB_true, kbld157, nx_eq, e2, asI_int, add1 (by omega)]
          rfl
        · unfold orArc
          constructor
          · rintro ((h | ⟨h1, h2⟩) | ⟨rfl, rfl⟩)
            · exact .inl h
            · exact .inr ⟨by omega, h2⟩
            · exact .inr ⟨by omega, hu⟩
          · rintro (h | ⟨h1, h2⟩)
            · exact .inl (.inl h)
            · by_cases e : a = i
              · subst e
                rw [hu, Option.some.injEq] at h2
                exact .inr ⟨rfl, by omega⟩
              · exact .inl (.inr ⟨by omega, h2⟩)
      · refine ⟨h', ?_, x, m'.congr fun a b => ?_⟩
        · unfold f101H_l3
          rw [gv10, asI_int, lt_nat hi, ifB_true, asK_int, e1, asI_int, show AM.le 0 z = false by simp [AM.le]; omega, ifB_false, asI_int, add1 (by omega)]
          rfl
        · constructor
          · rintro (h | ⟨h1, h2⟩)
            · exact .inl h
            · exact .inr ⟨by omega, h2⟩
          · rintro (h | ⟨h1, h2⟩)
            · exact .inl h
            · by_cases e : a = i
              · subst e
                rw [hu, Option.some.injEq] at h2
                omega
              · exact .inr ⟨by omega, h2⟩)
  refine ⟨h', e, x, m'.congr fun a b => ?_⟩
  constructor
  · rintro (h | h)
    · exact .inl h
    · exact .inr h.2
  · rintro (h | h)
    · exact .inl h
    · exact .inr ⟨by have := (List.getElem?_eq_some_iff.1 h).1; omega, h⟩
/-- Arcs are left out. -/
theorem ap_l4 {h18 h : H} {n : Nat} {S : Nat → Nat → Prop} {ws1 : List Value} {l : List (Nat × Nat)} (hl : SlR h 157 2 (AM.gv ws1 0) (l.map arcC)) (hll : l.length < 50) (m : ArM h h18.nx n S) (hv : blkOf (AM.gv ws1 0) ≠ some h18.nx) :
    ∃ h', lpGo (f101H_l4 rn 100 ws1 h18 (l.length : Nat)) 100 [iv 0] h = some (.exit 6, [iv (l.length : Nat)], h') ∧ Exo (some h18.nx) h h' ∧ ArM h' h18.nx n (fun a b => S a b ∧ (a, b) ∉ l) := by
  obtain ⟨h', e, x, m'⟩ := lp_up (F := f101H_l4 rn 100 ws1 h18 (l.length : Nat)) (k := 100) (n := l.length) (oj := 6) (fun i h' => Exo (some h18.nx) h h' ∧ ArM h' h18.nx n (fun a b => S a b ∧ (a, b) ∉ l.take i)) (h := h)
    ⟨.refl _ _, m.congr fun a b => by simp⟩ (by omega)
    (fun h' _ => by
      unfold f101H_l4
      rw [gv10, asI_int, lt_self]; rfl)
    (by
      rintro i h' hi ⟨x, m'⟩
      have hu := List.getElem?_eq_getElem hi
      generalize l[i] = u at hu
      have e1 : ∀ {T : Type} (K : Value → Option T), (six (AM.gv ws1 0) (i : Int) 2 fun b o => ld Tryd.prog h' 157 b o K) = K (arcV u) := fun K => (hl.keepB x.nx fun b hb => x.blk b (hl.blkR hb).1 fun e => hv (by rw [hb, e])).ldA ag157 sz157 (by omega) (x := arcC u) (by simp [hu]) K
      obtain ⟨h1, hh1⟩ : ∃ h1, h1 = h'.var (.row (arcC u) 157 true) := ⟨_, rfl⟩
      have x1 : Ext h' h1 := hh1 ▸ .var _ _
      have b1 : h1.blk h'.nx = some (.row (arcC u) 157 true) := by rw [hh1]; exact var_at _ _
      obtain ⟨h2, e2, m2, n2, f2⟩ := (m'.exo x1).del (R := Ex × List Value × H) u.1 u.2
      refine ⟨h2, ?_, x.trans (x1.exo.trans ⟨by omega, fun b hb hn => f2 b fun e => hn (by rw [e])⟩), m2.congr fun a b => ?_⟩
      · unfold f101H_l4
        rw [gv10, asI_int, lt_nat hi, ifB_true, asK_int, e1]
        unfold arcV
        rw [al_two sz157 rfl rfl, show [iv (u.1 : Nat), iv (u.2 : Nat)] = arcC u from rfl, ← hh1, nx_eq, d157, show h1.rd h'.nx 0 2 = some (arcC u) from rd_two b1, Option.bind_some, show (Value.agg (arcC u).toArray) = arcV (u.1, u.2) from rfl, nx_eq, e2, asI_int, add1 (by omega)]
        rfl
      · rw [List.take_add_one, hu, List.mem_append]
        simp only [Option.toList_some, List.mem_singleton, not_or]
        exact ⟨fun h => ⟨h.1.1, h.1.2, h.2⟩, fun h => ⟨⟨h.1, h.2.1⟩, h.2.2⟩⟩)
  rw [List.take_length] at m'
  exact ⟨h', e, x, m'⟩
/-- Arcs are added. -/
theorem ap_l5 {h18 h : H} {n : Nat} {S : Nat → Nat → Prop} {ws1 : List Value} {l : List (Nat × Nat)} (hl : SlR h 157 2 (AM.gv ws1 1) (l.map arcC)) (hll : l.length < 50) (hln : ∀ v u, (v, u) ∈ l → v < n ∧ u < n) (m : ArM h h18.nx n S) (hv : blkOf (AM.gv ws1 1) ≠ some h18.nx) :
    ∃ h', lpGo (f101H_l5 rn 100 ws1 h18 (l.length : Nat)) 100 [iv 0] h = some (.exit 8, [iv (l.length : Nat)], h') ∧ Exo (some h18.nx) h h' ∧ ArM h' h18.nx n (fun a b => S a b ∨ (a, b) ∈ l) := by
  obtain ⟨h', e, x, m'⟩ := lp_up (F := f101H_l5 rn 100 ws1 h18 (l.length : Nat)) (k := 100) (n := l.length) (oj := 8) (fun i h' => Exo (some h18.nx) h h' ∧ ArM h' h18.nx n (fun a b => S a b ∨ (a, b) ∈ l.take i)) (h := h)
    ⟨.refl _ _, m.congr fun a b => by simp⟩ (by omega)
    (fun h' _ => by
      unfold f101H_l5
      rw [gv10, asI_int, lt_self]; rfl)
    (by
      rintro i h' hi ⟨x, m'⟩
      have hu := List.getElem?_eq_getElem hi
      generalize l[i] = u at hu
      obtain ⟨q1, q2⟩ := hln u.1 u.2 (List.mem_of_getElem? hu)
      have e1 : ∀ {T : Type} (K : Value → Option T), (six (AM.gv ws1 1) (i : Int) 2 fun b o => ld Tryd.prog h' 157 b o K) = K (arcV u) := fun K => (hl.keepB x.nx fun b hb => x.blk b (hl.blkR hb).1 fun e => hv (by rw [hb, e])).ldA ag157 sz157 (by omega) (x := arcC u) (by simp [hu]) K
      obtain ⟨h1, hh1⟩ : ∃ h1, h1 = h'.var (.row (arcC u) 157 true) := ⟨_, rfl⟩
      have x1 : Ext h' h1 := hh1 ▸ .var _ _
      have b1 : h1.blk h'.nx = some (.row (arcC u) 157 true) := by rw [hh1]; exact var_at _ _
      obtain ⟨h2, e2, m2, n2, f2⟩ := (m'.exo x1).put (R := Ex × List Value × H) q1 q2
      refine ⟨h2, ?_, x.trans (x1.exo.trans ⟨by omega, fun b hb hn => f2 b fun e => hn (by rw [e])⟩), m2.congr fun a b => ?_⟩
      · unfold f101H_l5
        rw [gv10, asI_int, lt_nat hi, ifB_true, asK_int, e1]
        unfold arcV
        rw [al_two sz157 rfl rfl, show [iv (u.1 : Nat), iv (u.2 : Nat)] = arcC u from rfl, ← hh1, nx_eq, d157, show h1.rd h'.nx 0 2 = some (arcC u) from rd_two b1, Option.bind_some, show (Value.agg (arcC u).toArray) = arcV (u.1, u.2) from rfl, nx_eq, e2, asI_int, add1 (by omega)]
        rfl
      · unfold orArc
        rw [List.take_add_one, hu, List.mem_append]
        simp only [Option.toList_some, List.mem_singleton]
        constructor
        · rintro ((h | h) | ⟨rfl, rfl⟩)
          · exact .inl h
          · exact .inr (.inl h)
          · exact .inr (.inr rfl)
        · rintro (h | h | h)
          · exact .inl (.inl h)
          · exact .inl (.inr h)
          · exact .inr ⟨by rw [← h], by rw [← h]⟩)
  rw [List.take_length] at m'
  exact ⟨h', e, x, m'⟩
theorem rep_set {α : Type} {x : α} {l : List α} {i : Nat} (hi : i < l.length) : (List.replicate i x ++ l.drop i).set i x = List.replicate (i + 1) x ++ l.drop (i + 1) := by
  rw [List.set_append_right _ _ (by simp), List.length_replicate, Nat.sub_self, List.drop_eq_getElem_cons hi, List.set_cons_zero, List.replicate_succ', List.append_assoc]
  rfl
/-- The rows are cleared. -/
theorem ap_l6 {h : H} {n : Nat} (a : FlB s t tv fb nb bb first nxt bf h) (hl1 : nxt.length = n) (hl2 : bf.length = n) (hn : n < 50) :
    ∃ h', lpGo (f101H_l6 rn 100 (pt fb 0) (n : Nat)) 100 [iv 0] h = some (.exit 10, [iv (n : Nat)], h') ∧ FlB s t tv fb nb bb first (List.replicate n (-1)) (List.replicate n (iv (-1))) h' ∧ h'.nx = h.nx ∧ ∀ b, b ≠ nb → b ≠ bb → h'.blk b = h.blk b := by
  obtain ⟨h', e, a', n', f'⟩ := lp_up (F := f101H_l6 rn 100 (pt fb 0) (n : Nat)) (k := 100) (n := n) (oj := 10) (fun i h' => FlB s t tv fb nb bb first (List.replicate i (-1) ++ nxt.drop i) (List.replicate i (iv (-1)) ++ bf.drop i) h' ∧ h'.nx = h.nx ∧ ∀ b, b ≠ nb → b ≠ bb → h'.blk b = h.blk b) (h := h)
    ⟨by simpa using a, rfl, fun _ _ _ => rfl⟩ (by omega)
    (fun h' _ => by
      unfold f101H_l6
      rw [gv10, asI_int, lt_self]; rfl)
    (by
      rintro i h' hi ⟨a', n', f'⟩
      have hlen1 : (List.replicate i (-1 : Int) ++ nxt.drop i).length = n := by simp; omega
      have hlen2 : (List.replicate i (iv (-1)) ++ bf.drop i).length = n := by simp; omega
      obtain ⟨h1, e1, a1, n1, f1⟩ := a'.stN (R := Ex × List Value × H) (v := i) (by omega) (-1)
      obtain ⟨h2, e2, a2, n2, f2⟩ := a1.stB (R := Ex × List Value × H) (u := i) (by omega) (-1)
      refine ⟨h2, ?_, ?_, by omega, fun b b1 b2 => by rw [f2 b b2, f1 b b1, f' b b1 b2]⟩
      · unfold f101H_l6
        rw [gv10, asI_int, lt_nat hi, ifB_true, nilp, asP_ptr, a'.ldn, nilp, asP_ptr, a'.ldb, asK_int, e1, asK_int, e2, asI_int, add1 (by omega)]
        rfl
      · rw [rep_set (by omega), rep_set (by omega)] at a2
        exact a2)
  refine ⟨h', e, ?_, n', f'⟩
  rw [List.drop_of_length_le (by omega), List.drop_of_length_le (by omega), List.append_nil, List.append_nil] at a'
  exact a'
end
end Go.AM
end
