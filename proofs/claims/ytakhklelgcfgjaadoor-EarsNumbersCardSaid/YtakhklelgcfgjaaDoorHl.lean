/- CheckNumber and IsNumber. -/
import Derived.Test.YtakhklelgcfgjaaDoorHk
namespace Go.AM
open Go.Proofs

variable {R : Type}

attribute [local simp] nx_eq nx_new nx_set blk_new blk_set asI_int asK_int asB_bool asP_ptr al_eq bx_eq len_slice onE_exit onE_ret onR_ret Value.cells cell_new cell_set rd_new rd_set off eq lt le ifB gv out ext20 ext21

/-! ### Plain -/

def badN (g : List Nat) (S len i x b : Nat) : Bool := decide (0 < i) && (decide (i < len - 1) && (decide (nb g x &&& b = 0) || decide (nb g x &&& without (without S b) (2 ^ x) = 0)))

def numR (g : List Nat) (S len : Nat) : List Nat → Nat → Nat → Bool
  | [], _, _ => true
  | x :: r, i, b => if badN g S len i x b = true then false else numR g S len r (i + 1) (b ||| 2 ^ x)

def setL (m : List Nat) : Nat := m.foldl (fun s x => s ||| 2 ^ x) 0

theorem itL_num {g : List Nat} {S len : Nat} {rr : Nat → Nat → List Value} : ∀ (m : List Nat) (i b : Nat),
    (numR g S len m i b = true ∧ ∃ b', itL (fun i x b => if badN g S len i x b = true then .inr (rr i b) else .inl (b ||| 2 ^ x)) m i b = .inl b') ∨
    (numR g S len m i b = false ∧ ∃ j b', itL (fun i x b => if badN g S len i x b = true then .inr (rr i b) else .inl (b ||| 2 ^ x)) m i b = .inr (rr j b')) := by
  intro m
  induction m with
  | nil => intro i b; exact .inl ⟨rfl, b, rfl⟩
  | cons x m ih =>
    intro i b
    by_cases hb : badN g S len i x b = true
    · refine .inr ⟨?_, i, b, ?_⟩
      · simp only [numR, hb, if_true]
      · simp only [itL, hb, if_true]
    · rcases ih (i + 1) (b ||| 2 ^ x) with ⟨h1, b', h2⟩ | ⟨h1, j, b', h2⟩
      · refine .inl ⟨?_, b', ?_⟩
        · simp only [numR, hb, if_false]; exact h1
        · simp only [itL, hb, if_false]; exact h2
      · refine .inr ⟨?_, j, b', ?_⟩
        · simp only [numR, hb, if_false]; exact h1
        · simp only [itL, hb, if_false]; exact h2

theorem itL_set {p : Int → Bool} {rr : Nat → Nat → List Value} : ∀ (l : List Int) (i s : Nat),
    (l.all p = true ∧ itL (fun i x s => if p x = true then .inl (s ||| 2 ^ x.toNat) else .inr (rr i s)) l i s = .inl ((l.map Int.toNat).foldl (fun s x => s ||| 2 ^ x) s)) ∨
    (l.all p = false ∧ ∃ j s', itL (fun i x s => if p x = true then .inl (s ||| 2 ^ x.toNat) else .inr (rr i s)) l i s = .inr (rr j s')) := by
  intro l
  induction l with
  | nil => intro i s; exact .inl ⟨rfl, rfl⟩
  | cons x l ih =>
    intro i s
    by_cases hx : p x = true
    · rcases ih (i + 1) (s ||| 2 ^ x.toNat) with ⟨h1, h2⟩ | ⟨h1, j, b', h2⟩
      · refine .inl ⟨?_, ?_⟩
        · rw [List.all_cons, hx, h1]; rfl
        · simp only [itL, hx, if_true]; exact h2
      · refine .inr ⟨?_, j, b', ?_⟩
        · rw [List.all_cons, h1, Bool.and_false]
        · simp only [itL, hx, if_true]; exact h2
    · refine .inr ⟨?_, i, s, ?_⟩
      · rw [List.all_cons, Bool.eq_false_iff.2 hx, Bool.false_and]
      · simp only [itL, hx, if_false, Bool.false_eq_true]

/-- The first and the last one are neighbours. -/
def endsN (g : List Nat) (m : List Nat) : Bool := adj g (m.getD 0 0) (m.getD (m.length - 1) 0)

def chkP (g : List Nat) (l : List Int) : Bool :=
  l.all (nodeB g) && (decide (l.length = g.length) && (decide (setL (l.map Int.toNat) = allN g) && (decide (2 ≤ l.length) && (endsN g (l.map Int.toNat) && numR g (allN g) l.length (l.map Int.toNat) 0 0))))

theorem nat_list {g : List Nat} {l : List Int} (h : l.all (nodeB g) = true) : l = (l.map Int.toNat).map Int.ofNat ∧ ∀ x ∈ l.map Int.toNat, x < g.length := by
  rw [List.all_eq_true] at h
  constructor
  · rw [List.map_map]
    conv => lhs; rw [← List.map_id l]
    refine List.map_congr_left fun x hx => ?_
    obtain ⟨a, ha, _⟩ := nodeB_nat (h x hx)
    rw [ha]; rfl
  · intro x hx
    obtain ⟨y, hy, rfl⟩ := List.mem_map.1 hx
    obtain ⟨a, ha, hb⟩ := nodeB_nat (h y hy)
    rw [ha]; simpa using hb

/-! ### A slice's beginning -/

theorem s36 {v : Value} {l : List Int} {h : H} (hs : SlR h 3 1 v (cellsI l)) : ∃ v' h', rn 36 #[v] h = some (v', h') ∧ Exw h h' ∧ SlR h' 3 1 v' (cellsI (l.take 16)) := by
  have e1 : imin ((cellsI l).length : Int) 16 = ((min l.length 16 : Nat) : Int) := by
    rw [List.length_map]
    unfold imin
    split <;> omega
  obtain ⟨v1, s1, e2⟩ := hs.take (i := ((min l.length 16 : Nat) : Int)) under22 sz3 (by omega) (by rw [List.length_map]; omega)
  have e3 : (cellsI l).take ((min l.length 16 : Nat) : Int).toNat = cellsI (l.take 16) := by
    rw [Int.toNat_natCast, ← List.map_take]
    congr 1
    rcases Nat.le_total l.length 16 with h1 | h1
    · rw [Nat.min_eq_left h1, List.take_of_length_le (Nat.le_refl _), List.take_of_length_le h1]
    · rw [Nat.min_eq_right h1]
  rw [e3] at s1
  obtain ⟨v', h', e4, x, s, a, n, c, rfl⟩ := s83 s1 (by rw [List.length_map, List.length_take]; omega)
  obtain ⟨h2, e5, m2, w2⟩ := x36 (k := 0) (h := h) (v0 := v) (h1 := h') (v := .slice a n c) (by
    unfold f36
    rw [hs.len, e1, e2, calls_eq e4]) rfl
  exact ⟨_, h2, e5, w2 x.toExt, s.ext m2.ext⟩

/-! ### The program's loops -/

theorem getI {h : H} {v : Value} {l : List Int} (hs : SlR h 3 1 v (cellsI l)) {i : Nat} {x : Int} (hx : l[i]? = some x) (K : Value → Option R) : (six v (i : Int) 1 fun b o => ld Tryd.prog h 3 b o K) = K (iv x) := by
  simp only [d3]; exact getL hs hx K

theorem s35_l1 {v1 v3 : Value} {g : List Nat} {l : List Int} {h : H} (hg : GrN g) (hs : SlR h 3 1 v3 (cellsN g)) (hs1 : SlR h 3 1 v1 (cellsI l)) (hl : l.length ≤ 16) :
    (l.all (nodeB g) = true ∧ lpGo (f35_l1 rn 40 v1 v3 l.length) 40 [.bool false, iv 0, iv 0, iv 0] h = some (.exit 0, [.bool false, iv 0, iv (setL (l.map Int.toNat) : Nat), iv l.length], h)) ∨
    (l.all (nodeB g) = false ∧ ∃ w, lpGo (f35_l1 rn 40 v1 v3 l.length) 40 [.bool false, iv 0, iv 0, iv 0] h = some (.ret, [.bool false, iv 0] ++ w, h)) := by
  have hlen := hg.len
  have key := lp_same (F := f35_l1 rn 40 v1 v3 l.length) (k := 40) (l := l) (fun i (s : Nat) => [.bool false, iv 0, iv s, iv i])
    (fun i x s => if nodeB g x = true then .inl (s ||| 2 ^ x.toNat) else .inr ([.bool false, iv 0, iv s, iv i] : List Value)) (fun _ s => s < 2 ^ g.length) (fun _ => .ret) (fun r => r) 0 (fun s => [.bool false, iv 0, iv s, iv l.length]) (h := h)
    (ws := [.bool false, iv 0, iv 0, iv 0]) (s0 := 0) rfl (Nat.two_pow_pos _) (by omega) (fun _ => by simp)
    (by
      intro s _
      simp [f35_l1])
    (by
      intro i x s hx hI
      have hi := (List.getElem?_eq_some_iff.1 hx).1
      have hadd : add .i64 (i : Int) 1 = ((i + 1 : Nat) : Int) := by rw [add64 (by omega) (by omega)]; omega
      have c79 := fun (K : Value → H → Option (Ex × List Value × H)) => calls_eq (K := K) (xs := [v3, iv x]) (s79 (z := x) hs)
      by_cases hn : nodeB g x = true
      · obtain ⟨a, rfl, ha⟩ := nodeB_nat hn
        refine ⟨fun s' hs' => ?_, ?_⟩
        · rw [if_pos hn] at hs'
          cases hs'
          rw [Int.toNat_natCast]
          exact or_lt hI ha
        · rw [if_pos hn]
          unfold f35_l1 rnd
          rw [show AM.gv [.bool false, iv 0, iv s, iv i] 3 = iv i from rfl, show AM.gv [.bool false, iv 0, iv s, iv i] 2 = iv s from rfl, show AM.gv [.bool false, iv 0, iv s, iv i] 1 = iv 0 from rfl, show AM.gv [.bool false, iv 0, iv s, iv i] 0 = .bool false from rfl,
            asI_int, lt_t (by omega), ifB_true, asK_int, getI hs1 hx, asI_int, c79, asB_bool, hn, show (!true) = false from rfl, ifB_false, nn_ge (show (0 : Int) ≤ (a : Int) by omega), asI_int, asI_int, or_calc2 hlen hI ha, hadd]
          rfl
      · refine ⟨fun s' hs' => ?_, ?_⟩
        · rw [if_neg hn] at hs'; cases hs'
        · rw [if_neg hn]
          unfold f35_l1 rnd
          rw [show AM.gv [.bool false, iv 0, iv s, iv i] 3 = iv i from rfl, show AM.gv [.bool false, iv 0, iv s, iv i] 2 = iv s from rfl, show AM.gv [.bool false, iv 0, iv s, iv i] 1 = iv 0 from rfl, show AM.gv [.bool false, iv 0, iv s, iv i] 0 = .bool false from rfl,
            asI_int, lt_t (by omega), ifB_true, asK_int, getI hs1 hx, asI_int, c79, asB_bool, Bool.eq_false_iff.2 hn, show (!false) = true from rfl, ifB_true]
          rfl)
  rcases itL_set (p := nodeB g) (rr := fun i s => [.bool false, iv 0, iv s, iv i]) l 0 0 with ⟨h1, h2⟩ | ⟨h1, j, s', h2⟩
  · rw [h2] at key
    exact .inl ⟨h1, key.1⟩
  · rw [h2] at key
    exact .inr ⟨h1, [iv s', iv j], key⟩

theorem setL_lt {n : Nat} : ∀ (m : List Nat) (s : Nat), s < 2 ^ n → (∀ x ∈ m, x < n) → m.foldl (fun s x => s ||| 2 ^ x) s < 2 ^ n := by
  intro m
  induction m with
  | nil => intro s hs _; exact hs
  | cons x m ih =>
    intro s hs hx
    exact ih _ (Nat.or_lt_two_pow hs (Nat.pow_lt_pow_right (by omega) (hx x (List.mem_cons_self ..)))) (fun y hy => hx y (List.mem_cons_of_mem _ hy))

theorem after_calc {g : List Nat} (hg : GrN g) {b x : Nat} (hb : b < 2 ^ g.length) (hx : x < g.length) : AM.andNot .i64 (AM.andNot .i64 (allN g : Int) (b : Int)) (AM.shl .i64 1 (x : Int)) = ((without (without (allN g) b) (2 ^ x) : Nat) : Int) := by
  have h1 := hg.pow
  have h2 : 2 ^ x < 1024 := Nat.lt_of_lt_of_le (Nat.pow_lt_pow_right (by omega) hx) h1
  have h3 : without (allN g) b < 2 ^ 10 := without_le _ _ (allN_lt10 hg)
  have hlen := hg.len
  rw [lf_calc hg (by omega), shl1_nat (by omega)]
  exact andNot_nat (by unfold lf; omega) (by omega)

theorem after_lt {g : List Nat} (hg : GrN g) (b x : Nat) : without (without (allN g) b) (2 ^ x) < 1024 := without_le (n := 10) _ _ (without_le _ _ (allN_lt10 hg))

theorem s35_l2 {v1 v3 : Value} {g : List Nat} {m : List Nat} {ws1 : List Value} {h : H} (hg : GrN g) (hs : SlR h 3 1 v3 (cellsN g)) (hs1 : SlR h 3 1 v1 (cellsN m)) (hl : m.length ≤ 16) (hm : ∀ x ∈ m, x < g.length) (hw : AM.gv ws1 2 = iv (allN g : Nat)) :
    (numR g (allN g) m.length m 0 0 = true ∧ ∃ w, lpGo (f35_l2 rn 40 v1 v3 ws1 m.length) 40 [.bool false, iv 0, iv 0, iv 0] h = some (.exit 2, w, h)) ∨
    (numR g (allN g) m.length m 0 0 = false ∧ ∃ w, lpGo (f35_l2 rn 40 v1 v3 ws1 m.length) 40 [.bool false, iv 0, iv 0, iv 0] h = some (.ret, [.bool false, iv 0] ++ w, h)) := by
  have hlen := hg.len
  have hpow := hg.pow
  have hn1 : ∀ {T : Type} (K : Int → Option T), len v1 K = K (m.length : Int) := fun K => by rw [hs1.len]; simp
  have key := lp_same (F := f35_l2 rn 40 v1 v3 ws1 m.length) (k := 40) (l := m) (fun i (s : Nat) => [.bool false, iv 0, iv s, iv i])
    (fun i x b => if badN g (allN g) m.length i x b = true then .inr ([.bool false, iv 0, iv b, iv i] : List Value) else .inl (b ||| 2 ^ x)) (fun _ s => s < 2 ^ g.length) (fun _ => .ret) (fun r => r) 2 (fun s => [.bool false, iv 0, iv s, iv m.length]) (h := h)
    (ws := [.bool false, iv 0, iv 0, iv 0]) (s0 := 0) rfl (Nat.two_pow_pos _) (by omega) (fun _ => by simp)
    (by
      intro s _
      simp [f35_l2])
    (by
      intro i x b hx hI
      have hi := (List.getElem?_eq_some_iff.1 hx).1
      have hxn := hm x (List.mem_of_getElem? hx)
      have hadd : add .i64 (i : Int) 1 = ((i + 1 : Nat) : Int) := by rw [add64 (by omega) (by omega)]; omega
      have hsub : AM.sub .i64 (m.length : Int) 1 = ((m.length - 1 : Nat) : Int) := by rw [sub64 (by omega) (by omega)]; omega
      have hb10 : b < 1024 := by omega
      have hnb := nb_lt10 hg.toGrB x
      have haf := after_lt hg b x
      have e1 : ∀ (K : Value → Option (Ex × List Value × H)), (six v1 (i : Int) 1 fun b o => ld Tryd.prog h 3 b o K) = K (iv (x : Nat)) := fun K =>
        hs1.ld0 ag3 (by omega) (x := [iv (x : Int)]) (by simp [hx]) rfl K
      have e2 : ∀ (K : Value → Option (Ex × List Value × H)), (six v3 (x : Int) 1 fun b o => ld Tryd.prog h 3 b o K) = K (iv (nb g x : Nat)) := fun K => by
        simp only [d3]; exact getN hs hxn K
      have hnnx : ∀ {T : Type} (y : Option T), nn (x : Int) y = y := fun y => nn_ge (show (0 : Int) ≤ (x : Int) by omega) y
      have hlt0 : AM.lt 0 (i : Int) = decide (0 < i) := by simp [AM.lt]
      have hlt1 : AM.lt (i : Int) ((m.length - 1 : Nat) : Int) = decide (i < m.length - 1) := by simp only [AM.lt, decide_eq_decide]; omega
      have start : f35_l2 rn 40 v1 v3 ws1 m.length [.bool false, iv 0, iv b, iv i] h = if badN g (allN g) m.length i x b = true then some (.ret, [.bool false, iv 0, iv b, iv i], h) else some (.normal, [.bool false, iv 0, iv ((b ||| 2 ^ x : Nat) : Int), iv ((i + 1 : Nat) : Int)], h) := by
        unfold f35_l2
        rw [show AM.gv [.bool false, iv 0, iv b, iv i] 3 = iv i from rfl, show AM.gv [.bool false, iv 0, iv b, iv i] 2 = iv b from rfl, show AM.gv [.bool false, iv 0, iv b, iv i] 1 = iv 0 from rfl, show AM.gv [.bool false, iv 0, iv b, iv i] 0 = .bool false from rfl]
        simp only [asI_int, lt_t (show (i : Int) < (m.length : Int) by omega), ifB_true, asK_int, e1, hw, hnnx, hlt0, hn1, hsub, hlt1, e2, and_calc hnb hb10, after_calc hg hI hxn, and_calc hnb haf, or_calc2 hlen hI hxn, hadd, AM.out]
        unfold badN
        by_cases h1 : 0 < i
        · simp only [h1, decide_true, ifB_true, Bool.true_and]
          by_cases h2 : i < m.length - 1
          · simp only [h2, decide_true, ifB_true, Bool.true_and]
            by_cases h3 : nb g x &&& b = 0
            · simp only [h3, decide_true, ifB_true, Bool.true_or, if_true]
            · simp only [h3, decide_false, ifB_false, Bool.false_or]
              by_cases h4 : nb g x &&& without (without (allN g) b) (2 ^ x) = 0
              · simp only [h4, decide_true, ifB_true, if_true]
              · simp only [h4, decide_false, ifB_false, Bool.false_eq_true, if_false]
          · simp only [h2, decide_false, ifB_false, Bool.false_and, Bool.false_eq_true, if_false]
        · simp only [h1, decide_false, ifB_false, Bool.false_and, Bool.false_eq_true, if_false]
      rw [start]
      by_cases hbad : badN g (allN g) m.length i x b = true
      · refine ⟨fun s' hs' => ?_, ?_⟩
        · rw [if_pos hbad] at hs'; cases hs'
        · rw [if_pos hbad, if_pos hbad]; rfl
      · refine ⟨fun s' hs' => ?_, ?_⟩
        · rw [if_neg hbad] at hs'; cases hs'; exact or_lt hI hxn
        · rw [if_neg hbad, if_neg hbad]; rfl)
  rcases itL_num (g := g) (S := allN g) (len := m.length) (rr := fun i b => [.bool false, iv 0, iv b, iv i]) m 0 0 with ⟨h1, b', h2⟩ | ⟨h1, j, b', h2⟩
  · rw [h2] at key
    exact .inl ⟨h1, _, key.1⟩
  · rw [h2] at key
    exact .inr ⟨h1, [iv b', iv j], key⟩

end Go.AM
