/- EarsNumbers. -/
import Derived.Test.YtakhklelgcfgjaaDoorHl
namespace Go.AM
open Go.Proofs

variable {R : Type}

attribute [local simp] nx_eq nx_new nx_set blk_new blk_set asI_int asK_int asB_bool asP_ptr al_eq bx_eq len_slice onE_exit onE_ret onR_ret Value.cells cell_new cell_set rd_new rd_set off eq lt le ifB gv out ext20 ext21

theorem cellsI_nat {l : List Int} {m : List Nat} (h : l = m.map Int.ofNat) : cellsI l = cellsN m := by rw [h, cellsN_eq]

theorem s35_bad {v v1 : Value} {l : List Int} {h : H} (hval : validG l = false) (hs : SlR h 3 1 v (cellsI l)) : rn 35 #[v, v1] h = some (.tuple #[.bool false, iv 2], h) := by
  have c63 := fun (K : Value → H → Option (Value × H)) => calls_eq (K := K) (xs := [v]) (s63 hs)
  rw [hval] at c63
  refine y35 (k := 0) ?_
  unfold f35
  rw [c63]
  rfl

theorem s35 {v v1 : Value} {g : List Nat} {l : List Int} {h : H} (hg : GrN g) (hval : validG (g.map Int.ofNat) = true) (hs : SlR h 3 1 v (cellsN g)) (hs1 : SlR h 3 1 v1 (cellsI l)) (hl : l.length ≤ 16) :
    rn 35 #[v, v1] h = some (.tuple #[.bool (chkP g l), iv 0], h) := by
  have hlen := hg.len
  have c63 := fun (K : Value → H → Option (Value × H)) => calls_eq (K := K) (xs := [v]) (s63 (l := g.map Int.ofNat) (h := h) (by rw [cellsN_eq]; exact hs))
  rw [if_pos hval] at c63
  have hn1 : ∀ {T : Type} (K : Int → Option T), len v1 K = K (l.length : Int) := fun K => by rw [hs1.len]; simp
  have hn : ∀ {T : Type} (K : Int → Option T), len v K = K (g.length : Int) := fun K => by rw [hs.len]; simp
  have c65 := fun (K : Value → H → Option (Value × H)) => calls_eq (K := K) (xs := [v]) (s65 hg.toGrB hs)
  refine p35 (k := 40) (h1 := h) ?_ rfl (.refl _)
  unfold f35 chkP
  rw [c63, ext20, ext21, asB_bool, show (!true) = false from rfl, ifB_false, hn1]
  rcases s35_l1 hg hs hs1 hl with ⟨hall, hl1⟩ | ⟨hall, w, hl1⟩
  · refine (lp_eq hl1).trans ?_
    rw [onE_exit, if_pos rfl, hall, Bool.true_and]
    obtain ⟨hlm, hmn⟩ := nat_list hall
    have hs1' := hs1
    rw [cellsI_nat hlm] at hs1'
    have hml : (l.map Int.toNat).length = l.length := List.length_map ..
    rw [show AM.gv [.bool false, iv 0, iv (setL (l.map Int.toNat) : Nat), iv l.length] 2 = iv (setL (l.map Int.toNat) : Nat) from rfl]
    rw [hn1, hn, eqN]
    by_cases h1 : l.length = g.length
    · rw [decide_eq_true h1, show (!true) = false from rfl, ifB_false, Bool.true_and, c65, asI_int, asI_int, eqN]
      by_cases h2 : setL (l.map Int.toNat) = allN g
      · rw [decide_eq_true h2, show (!true) = false from rfl, ifB_false, Bool.true_and, hn1]
        by_cases h3 : 2 ≤ l.length
        · rw [show AM.lt (l.length : Int) 2 = false by simp [AM.lt]; omega, ifB_false, decide_eq_true h3, Bool.true_and]
          have hsub : AM.sub .i64 (l.length : Int) 1 = ((l.length - 1 : Nat) : Int) := by rw [sub64 (by omega) (by omega)]; omega
          have g0 : ∀ (i : Nat) (hi : i < l.length) (K : Value → Option (Value × H)), (six v1 (i : Int) 1 fun b o => ld Tryd.prog h 3 b o K) = K (iv ((l.map Int.toNat).getD i 0 : Nat)) := fun i hi K => by
            refine hs1'.ld0 ag3 (by omega) (x := [iv ((l.map Int.toNat).getD i 0 : Nat)]) ?_ rfl K
            rw [Int.toNat_natCast, List.getElem?_map, List.getD_eq_getElem?_getD, List.getElem?_eq_getElem (by omega)]
            rfl
          have g00 := g0 0 (by omega)
          have m0 : (l.map Int.toNat).getD 0 0 < g.length := by
            refine hmn _ ?_
            rw [List.getD_eq_getElem?_getD, List.getElem?_eq_getElem (by omega)]
            exact List.getElem_mem _
          have m1 : (l.map Int.toNat).getD (l.length - 1) 0 < g.length := by
            refine hmn _ ?_
            rw [List.getD_eq_getElem?_getD, List.getElem?_eq_getElem (by omega)]
            exact List.getElem_mem _
          rw [show ((0 : Nat) : Int) = 0 from rfl] at g00
          rw [g00, asI_int, hn1, hsub, g0 _ (by omega), asI_int, calls_eq (xs := [v, iv ((l.map Int.toNat).getD 0 0 : Nat), iv ((l.map Int.toNat).getD (l.length - 1) 0 : Nat)]) (s80 hg.toGrB hs m0 m1), asB_bool]
          unfold endsN
          rw [hml]
          cases adj g ((l.map Int.toNat).getD 0 0) ((l.map Int.toNat).getD (l.length - 1) 0) with
          | false => rfl
          | true =>
            rw [show (!true) = false from rfl, ifB_false, hn1, Bool.true_and]
            have hl2 := s35_l2 (v1 := v1) (v3 := v) (ws1 := [.bool false, iv 0, iv (setL (l.map Int.toNat) : Nat), iv l.length]) hg hs hs1' (by omega) hmn (by rw [h2]; rfl)
            rw [hml] at hl2
            rcases hl2 with ⟨hq, w, hl2⟩ | ⟨hq, w, hl2⟩
            · refine (lp_eq hl2).trans ?_
              rw [onE_exit, if_pos rfl, hq]
            · refine (lp_eq hl2).trans ?_
              rw [onE_ret, onR_ret, hq]
              rfl
        · rw [show AM.lt (l.length : Int) 2 = true by simp [AM.lt]; omega, ifB_true, decide_eq_false h3, Bool.false_and]
      · rw [decide_eq_false h2, show (!false) = true from rfl, ifB_true, Bool.false_and]
    · rw [decide_eq_false h1, show (!false) = true from rfl, ifB_true, Bool.false_and]
  · refine (lp_eq hl1).trans ?_
    rw [onE_ret, onR_ret, hall, Bool.false_and]
    rfl

/-! ### The document's -/

def stepO (g : List Nat) (x : Int) (s : Nat) : Bool := nodeB g x && !s.testBit x.toNat

theorem itL_order {g : List Nat} {rr : Nat → Nat → List Value} : ∀ (l : List Int) (i s : Nat),
    ((l.all (nodeB g) = true ∧ (l.map Int.toNat).Nodup ∧ ∀ x ∈ l.map Int.toNat, s.testBit x = false) ∧ ∃ s', itL (fun i x s => if stepO g x s = true then .inl (s ||| 2 ^ x.toNat) else .inr (rr i s)) l i s = .inl s') ∨
    (¬ (l.all (nodeB g) = true ∧ (l.map Int.toNat).Nodup ∧ ∀ x ∈ l.map Int.toNat, s.testBit x = false) ∧ ∃ j s', itL (fun i x s => if stepO g x s = true then .inl (s ||| 2 ^ x.toNat) else .inr (rr i s)) l i s = .inr (rr j s')) := by
  intro l
  induction l with
  | nil => intro i s; exact .inl ⟨⟨rfl, by simp, by simp⟩, s, rfl⟩
  | cons x l ih =>
    intro i s
    by_cases hx : stepO g x s = true
    · have hx' := hx
      unfold stepO at hx'
      rw [Bool.and_eq_true, Bool.not_eq_true'] at hx'
      have hiff : ((x :: l).all (nodeB g) = true ∧ ((x :: l).map Int.toNat).Nodup ∧ ∀ y ∈ (x :: l).map Int.toNat, s.testBit y = false) ↔ (l.all (nodeB g) = true ∧ (l.map Int.toNat).Nodup ∧ ∀ y ∈ l.map Int.toNat, (s ||| 2 ^ x.toNat).testBit y = false) := by
        rw [List.all_cons, hx'.1, Bool.true_and, List.map_cons, List.nodup_cons]
        constructor
        · rintro ⟨h1, ⟨h2, h3⟩, h4⟩
          refine ⟨h1, h3, fun y hy => ?_⟩
          rw [or_bit, h4 y (List.mem_cons_of_mem _ hy), decide_eq_false (fun e => h2 (by rw [e]; exact hy))]; rfl
        · rintro ⟨h1, h3, h4⟩
          refine ⟨h1, ⟨fun hm => ?_, h3⟩, fun y hy => ?_⟩
          · have := h4 _ hm
            rw [or_bit] at this
            simp at this
          · rw [List.mem_cons] at hy
            rcases hy with rfl | hy
            · exact hx'.2
            · have := h4 y hy
              rw [or_bit, Bool.or_eq_false_iff] at this
              exact this.1
      rcases ih (i + 1) (s ||| 2 ^ x.toNat) with ⟨h1, s', h2⟩ | ⟨h1, j, s', h2⟩
      · refine .inl ⟨hiff.2 h1, s', ?_⟩
        simp only [itL, hx, if_true]; exact h2
      · refine .inr ⟨fun hc => h1 (hiff.1 hc), j, s', ?_⟩
        simp only [itL, hx, if_true]; exact h2
    · refine .inr ⟨?_, i, s, ?_⟩
      · rintro ⟨h1, h2, h3⟩
        rw [List.all_cons, Bool.and_eq_true] at h1
        refine hx ?_
        unfold stepO
        rw [h1.1, h3 x.toNat (by simp)]; rfl
      · simp only [itL, hx, if_false, Bool.false_eq_true]

def orderB (g : List Nat) (l : List Int) : Bool := l.all (nodeB g) && decide (l.map Int.toNat).Nodup && decide (l.length = g.length)

theorem s84 {v : Value} {g : List Nat} {l : List Int} {h : H} (hg : GrN g) (hs : SlR h 3 1 v (cellsI l)) : rn 84 #[v, iv g.length] h = some (.bool (orderB g l), h) := by
  have hlen := hg.len
  have hpow := hg.pow
  have hm := hs.lt62
  rw [List.length_map] at hm
  have hn : ∀ {T : Type} (K : Int → Option T), len v K = K (l.length : Int) := fun K => by rw [hs.len]; simp
  have key := lp_same (F := f84_l1 rn (l.length + 1) v g.length l.length) (k := l.length + 1) (l := l) (fun i (s : Nat) => [.bool false, iv s, iv i])
    (fun i x s => if stepO g x s = true then .inl (s ||| 2 ^ x.toNat) else .inr ([.bool false, iv s, iv i] : List Value)) (fun _ s => s < 2 ^ g.length) (fun _ => .ret) (fun r => r) 0 (fun s => [.bool false, iv s, iv l.length]) (h := h)
    (ws := [.bool false, iv 0, iv 0]) (s0 := 0) rfl (Nat.two_pow_pos _) (by omega) (fun _ => by simp)
    (by
      intro s _
      simp [f84_l1])
    (by
      intro i x s hx hI
      have hi := (List.getElem?_eq_some_iff.1 hx).1
      have hadd : add .i64 (i : Int) 1 = ((i + 1 : Nat) : Int) := by rw [add64 (by omega) (by omega)]; omega
      have start : f84_l1 rn (l.length + 1) v g.length l.length [.bool false, iv s, iv i] h = if stepO g x s = true then some (.normal, [.bool false, iv ((s ||| 2 ^ x.toNat : Nat) : Int), iv ((i + 1 : Nat) : Int)], h) else some (.ret, [.bool false, iv s, iv i], h) := by
        unfold f84_l1
        rw [show AM.gv [.bool false, iv s, iv i] 2 = iv i from rfl, show AM.gv [.bool false, iv s, iv i] 1 = iv s from rfl, show AM.gv [.bool false, iv s, iv i] 0 = .bool false from rfl, asI_int, lt_t (by omega), ifB_true, asK_int, getI hs hx, asI_int]
        unfold stepO nodeB
        by_cases h1 : 0 ≤ x
        · rw [show AM.lt x 0 = false by simp [AM.lt, h1], ifB_false, decide_eq_true h1, Bool.true_and]
          by_cases h2 : x < (g.length : Int)
          · rw [show AM.le (g.length : Int) x = false by simp [AM.le]; omega, ifB_false, decide_eq_true h2, Bool.true_and, asI_int]
            obtain ⟨a, rfl⟩ : ∃ a : Nat, x = (a : Int) := ⟨x.toNat, by omega⟩
            rw [nn_ge (show (0 : Int) ≤ (a : Int) by omega), bit_nat (by omega) (by omega), Int.toNat_natCast]
            cases s.testBit a with
            | true => rfl
            | false =>
              rw [show AM.eq (if false = true then (1 : Int) else 0) 1 = false from rfl, ifB_false, nn_ge (show (0 : Int) ≤ (a : Int) by omega), asI_int, asI_int, or_calc2 hlen hI (by omega), hadd]
              rfl
          · rw [show AM.le (g.length : Int) x = true by simp [AM.le]; omega, ifB_true, decide_eq_false h2, Bool.false_and, if_neg (by simp)]
            rfl
        · rw [show AM.lt x 0 = true by simp [AM.lt]; omega, ifB_true, decide_eq_false h1, Bool.false_and, Bool.false_and, if_neg (by simp)]
          rfl
      rw [start]
      by_cases hst : stepO g x s = true
      · refine ⟨fun s' hs' => ?_, ?_⟩
        · rw [if_pos hst] at hs'; cases hs'
          unfold stepO at hst
          rw [Bool.and_eq_true] at hst
          obtain ⟨a, rfl, ha⟩ := nodeB_nat hst.1
          rw [Int.toNat_natCast]
          exact or_lt hI ha
        · rw [if_pos hst, if_pos hst]; rfl
      · refine ⟨fun s' hs' => ?_, ?_⟩
        · rw [if_neg hst] at hs'; cases hs'
        · rw [if_neg hst, if_neg hst]; rfl)
  refine p84 (k := l.length + 1) (h1 := h) ?_ rfl (.refl _)
  unfold f84 orderB
  rw [hn]
  rcases itL_order (g := g) (rr := fun i s => [.bool false, iv s, iv i]) l 0 0 with ⟨⟨h1, h2, _⟩, s', h3⟩ | ⟨h1, j, s', h3⟩
  · rw [h3] at key
    refine (lp_eq key.1).trans ?_
    rw [onE_exit, if_pos rfl, hn, eqN, h1, decide_eq_true h2, Bool.true_and, Bool.true_and]
  · rw [h3] at key
    refine (lp_eq key).trans ?_
    have : (l.all (nodeB g) && decide (l.map Int.toNat).Nodup) = false := by
      rw [Bool.eq_false_iff]
      intro hc
      rw [Bool.and_eq_true, decide_eq_true_iff] at hc
      exact h1 ⟨hc.1, hc.2, by simp⟩
    rw [onE_ret, onR_ret, this, Bool.false_and]
    rfl

def docP (g : List Nat) (l : List Int) : Bool := orderB g l && (decide (2 ≤ l.length) && (endsN g (l.map Int.toNat) && numR g (allN g) l.length (l.map Int.toNat) 0 0))

theorem s37_l1 {v0 v1 : Value} {g : List Nat} {m : List Nat} {h : H} (hg : GrN g) (hs : SlR h 3 1 v0 (cellsN g)) (hs1 : SlR h 3 1 v1 (cellsN m)) (hl : m.length ≤ 16) (hm : ∀ x ∈ m, x < g.length) :
    (numR g (allN g) m.length m 0 0 = true ∧ ∃ w, lpGo (f37_l1 rn 40 v0 v1 m.length m.length) 40 [.bool false, iv 0, iv 0] h = some (.exit 0, w, h)) ∨
    (numR g (allN g) m.length m 0 0 = false ∧ ∃ w, lpGo (f37_l1 rn 40 v0 v1 m.length m.length) 40 [.bool false, iv 0, iv 0] h = some (.ret, [.bool false] ++ w, h)) := by
  have hlen := hg.len
  have hpow := hg.pow
  have c68 := fun (K : Value → H → Option (Ex × List Value × H)) => calls_eq (K := K) (xs := [v0]) (s68 hg.toGrB hs)
  have key := lp_same (F := f37_l1 rn 40 v0 v1 m.length m.length) (k := 40) (l := m) (fun i (s : Nat) => [.bool false, iv s, iv i])
    (fun i x b => if badN g (allN g) m.length i x b = true then .inr ([.bool false, iv b, iv i] : List Value) else .inl (b ||| 2 ^ x)) (fun _ s => s < 2 ^ g.length) (fun _ => .ret) (fun r => r) 0 (fun s => [.bool false, iv s, iv m.length]) (h := h)
    (ws := [.bool false, iv 0, iv 0]) (s0 := 0) rfl (Nat.two_pow_pos _) (by omega) (fun _ => by simp)
    (by
      intro s _
      simp [f37_l1])
    (by
      intro i x b hx hI
      have hi := (List.getElem?_eq_some_iff.1 hx).1
      have hxn := hm x (List.mem_of_getElem? hx)
      have hadd : add .i64 (i : Int) 1 = ((i + 1 : Nat) : Int) := by rw [add64 (by omega) (by omega)]; omega
      have hsub : AM.sub .i64 (m.length : Int) 1 = ((m.length - 1 : Nat) : Int) := by rw [sub64 (by omega) (by omega)]; omega
      have hb10 : b < 1024 := by omega
      have hnb := nb_lt10 hg.toGrB x
      have haf := after_lt hg b x
      have e1 : ∀ (K : Value → Option (Ex × List Value × H)), (six v1 (i : Int) 1 fun b o => ld Tryd.prog h 3 b o K) = K (iv (x : Nat)) := fun K =>
        hs1.ld0 ag3 (by omega) (x := [iv (x : Int)]) (by simp [hx]) rfl K
      have e2 : ∀ (K : Value → Option (Ex × List Value × H)), (six v0 (x : Int) 1 fun b o => ld Tryd.prog h 3 b o K) = K (iv (nb g x : Nat)) := fun K => by
        simp only [d3]; exact getN hs hxn K
      have hnnx : ∀ {T : Type} (y : Option T), nn (x : Int) y = y := fun y => nn_ge (show (0 : Int) ≤ (x : Int) by omega) y
      have hlt0 : AM.lt 0 (i : Int) = decide (0 < i) := by simp [AM.lt]
      have hlt1 : AM.lt (i : Int) ((m.length - 1 : Nat) : Int) = decide (i < m.length - 1) := by simp only [AM.lt, decide_eq_decide]; omega
      have start : f37_l1 rn 40 v0 v1 m.length m.length [.bool false, iv b, iv i] h = if badN g (allN g) m.length i x b = true then some (.ret, [.bool false, iv b, iv i], h) else some (.normal, [.bool false, iv ((b ||| 2 ^ x : Nat) : Int), iv ((i + 1 : Nat) : Int)], h) := by
        unfold f37_l1
        rw [show AM.gv [.bool false, iv b, iv i] 2 = iv i from rfl, show AM.gv [.bool false, iv b, iv i] 1 = iv b from rfl, show AM.gv [.bool false, iv b, iv i] 0 = .bool false from rfl]
        simp only [asI_int, lt_t (show (i : Int) < (m.length : Int) by omega), ifB_true, asK_int, e1, c68, hnnx, hlt0, hsub, hlt1, e2, and_calc hnb hb10, after_calc hg hI hxn, and_calc hnb haf, or_calc2 hlen hI hxn, hadd, AM.out]
        unfold badN
        by_cases h1 : 0 < i
        · simp only [h1, decide_true, ifB_true, Bool.true_and]
          by_cases h2 : i < m.length - 1
          · simp only [h2, decide_true, ifB_true, Bool.true_and]
            by_cases h3 : nb g x &&& b = 0
            · simp only [h3, decide_true, ifB_true, Bool.true_or, if_true]
            · simp only [h3, decide_false, ifB_false, Bool.false_or]
              by_cases h4 : nb g x &&& without (without (allN g) b) (2 ^ x) = 0
              · simp only [h4, decide_true, ifB_true, if_true]
              · simp only [h4, decide_false, ifB_false, Bool.false_eq_true, if_false]
          · simp only [h2, decide_false, ifB_false, Bool.false_and, Bool.false_eq_true, if_false]
        · simp only [h1, decide_false, ifB_false, Bool.false_and, Bool.false_eq_true, if_false]
      rw [start]
      by_cases hbad : badN g (allN g) m.length i x b = true
      · refine ⟨fun s' hs' => ?_, ?_⟩
        · rw [if_pos hbad] at hs'; cases hs'
        · rw [if_pos hbad, if_pos hbad]; rfl
      · refine ⟨fun s' hs' => ?_, ?_⟩
        · rw [if_neg hbad] at hs'; cases hs'; exact or_lt hI hxn
        · rw [if_neg hbad, if_neg hbad]; rfl)
  rcases itL_num (g := g) (S := allN g) (len := m.length) (rr := fun i b => [.bool false, iv b, iv i]) m 0 0 with ⟨h1, b', h2⟩ | ⟨h1, j, b', h2⟩
  · rw [h2] at key
    exact .inl ⟨h1, _, key.1⟩
  · rw [h2] at key
    exact .inr ⟨h1, [iv b', iv j], key⟩

theorem s37 {v v1 : Value} {g : List Nat} {l : List Int} {h : H} (hg : GrN g) (hs : SlR h 3 1 v (cellsN g)) (hs1 : SlR h 3 1 v1 (cellsI l)) : rn 37 #[v, v1] h = some (.bool (docP g l), h) := by
  have hlen := hg.len
  have hn1 : ∀ {T : Type} (K : Int → Option T), len v1 K = K (l.length : Int) := fun K => by rw [hs1.len]; simp
  have hn : ∀ {T : Type} (K : Int → Option T), len v K = K (g.length : Int) := fun K => by rw [hs.len]; simp
  have c84 := fun (K : Value → H → Option (Value × H)) => calls_eq (K := K) (xs := [v1, iv g.length]) (s84 hg hs1)
  refine p37 (k := 40) (h1 := h) ?_ rfl (.refl _)
  unfold f37 docP
  rw [hn1, hn, c84, asB_bool]
  cases ho : orderB g l with
  | false => rfl
  | true =>
    unfold orderB at ho
    rw [Bool.and_eq_true, Bool.and_eq_true, decide_eq_true_iff, decide_eq_true_iff] at ho
    obtain ⟨⟨hall, _⟩, hle⟩ := ho
    obtain ⟨hlm, hmn⟩ := nat_list hall
    have hs1' := hs1
    rw [cellsI_nat hlm] at hs1'
    have hml : (l.map Int.toNat).length = l.length := List.length_map ..
    rw [show (!true) = false from rfl, ifB_false, Bool.true_and]
    by_cases h3 : 2 ≤ l.length
    · rw [show AM.lt (l.length : Int) 2 = false by simp [AM.lt]; omega, ifB_false, decide_eq_true h3, Bool.true_and]
      have hsub : AM.sub .i64 (l.length : Int) 1 = ((l.length - 1 : Nat) : Int) := by rw [sub64 (by omega) (by omega)]; omega
      have g0 : ∀ (i : Nat) (hi : i < l.length) (K : Value → Option (Value × H)), (six v1 (i : Int) 1 fun b o => ld Tryd.prog h 3 b o K) = K (iv ((l.map Int.toNat).getD i 0 : Nat)) := fun i hi K => by
        refine hs1'.ld0 ag3 (by omega) (x := [iv ((l.map Int.toNat).getD i 0 : Nat)]) ?_ rfl K
        rw [Int.toNat_natCast, List.getElem?_map, List.getD_eq_getElem?_getD, List.getElem?_eq_getElem (by omega)]
        rfl
      have g00 := g0 0 (by omega)
      have m0 : (l.map Int.toNat).getD 0 0 < g.length := by
        refine hmn _ ?_
        rw [List.getD_eq_getElem?_getD, List.getElem?_eq_getElem (by omega)]
        exact List.getElem_mem _
      have m1 : (l.map Int.toNat).getD (l.length - 1) 0 < g.length := by
        refine hmn _ ?_
        rw [List.getD_eq_getElem?_getD, List.getElem?_eq_getElem (by omega)]
        exact List.getElem_mem _
      have e2 : ∀ (K : Value → Option (Value × H)), (six v (((l.map Int.toNat).getD 0 0 : Nat) : Int) 1 fun b o => ld Tryd.prog h 3 b o K) = K (iv (nb g ((l.map Int.toNat).getD 0 0) : Nat)) := fun K => by
        simp only [d3]; exact getN hs m0 K
      rw [show ((0 : Nat) : Int) = 0 from rfl] at g00
      rw [g00, asI_int, e2, asI_int, hsub, g0 _ (by omega), asI_int, nn_ge (by omega), adj_bit hg.toGrB (by omega)]
      unfold endsN
      rw [hml]
      cases adj g ((l.map Int.toNat).getD 0 0) ((l.map Int.toNat).getD (l.length - 1) 0) with
      | false => rfl
      | true =>
        rw [show AM.eq (if true = true then (1 : Int) else 0) 0 = false from rfl, ifB_false, hn1, Bool.true_and]
        have hl2 := s37_l1 (v1 := v1) (v0 := v) hg hs hs1' (by omega) hmn
        rw [hml] at hl2
        rcases hl2 with ⟨hq, w, hl2⟩ | ⟨hq, w, hl2⟩
        · refine (lp_eq hl2).trans ?_
          rw [onE_exit, if_pos rfl, hq]
        · refine (lp_eq hl2).trans ?_
          rw [onE_ret, onR_ret, hq]
          rfl
    · rw [show AM.lt (l.length : Int) 2 = true by simp [AM.lt]; omega, ifB_true, decide_eq_false h3, Bool.false_and]

end Go.AM
