/- Parts of the proof, put together: the abstract machine, what the functions of the program answer, and plain laws. -/
import Derived.Test.YtakhklelgcfgjaaDoorMy4

section
namespace Go.AM
open Go.Proofs
variable {R : Type}
attribute [local simp] nx_eq nx_new nx_set blk_new blk_set asI_int asK_int asB_bool asP_ptr al_eq bx_eq len_slice onE_exit onE_ret onR_ret Value.cells d3 d22 cell_new cell_set rd_new rd_set off eq lt le ifB gv out
/-- Numbers, as_ they stand in a row. -/
abbrev cellsN (l : List Nat) : List (List Value) := l.map fun (n : Nat) => [iv (n : Int)]
theorem cellsN_eq (l : List Nat) : cellsI (l.map Int.ofNat) = cellsN l := by rw [cellsI, List.map_map]; rfl
/-- A graph that is valid. -/
structure GrN (g : List Nat) : Prop extends GrB g where
  pos : 1 ≤ g.length
  irr : ∀ a, adj g a a = false
  sym : ∀ a b, adj g a b = adj g b a
theorem bitI_nat {a p : Nat} (ha : a < 2 ^ 63) (hp : p ≤ 64) : bitI a p = if a.testBit p then 1 else 0 := bit_nat ha hp
theorem valid_nat {l : List Int} (hv : validG l = true) : ∃ g : List Nat, l = g.map Int.ofNat ∧ GrN g := by
  have hl : 1 ≤ l.length ∧ l.length ≤ 10 := by
    unfold validG at hv
    simp only [Bool.and_eq_true, decide_eq_true_iff] at hv
    exact hv.1
  have hrow := (validG_iff hl).1 hv
  have hshl : AM.shl .i64 1 (l.length : Int) = ((2 ^ l.length : Nat) : Int) := shl1_nat (by omega)
  have hpow : 2 ^ l.length ≤ 1024 := Nat.pow_le_pow_right (n := 2) (by omega) hl.2
  have hb : ∀ (i : Nat) (x : Int), l[i]? = some x → 0 ≤ x ∧ x < (2 ^ l.length : Nat) ∧ bitI x i ≠ 1 ∧ ∀ (j : Nat) (y : Int), l[j]? = some y → bitI x j = bitI y i := by
    intro i x hx
    have := hrow i x hx
    unfold rowOk at this
    rw [hshl] at this
    simp only [Bool.and_eq_true, Bool.not_eq_true', decide_eq_false_iff_not, List.all_eq_true, List.mem_range, decide_eq_true_iff] at this
    refine ⟨by omega, by omega, this.1.2, fun j y hy => ?_⟩
    have h := this.2 j (List.getElem?_eq_some_iff.1 hy).1
    simpa [List.getD, hy] using h
  have hmap : l = (l.map Int.toNat).map Int.ofNat := by
    rw [List.map_map]
    symm
    conv => rhs; rw [← List.map_id l]
    refine List.map_congr_left fun x hx => ?_
    obtain ⟨i, hi, rfl⟩ := List.getElem_of_mem hx
    have := hb i _ (List.getElem?_eq_getElem hi)
    simp only [Function.comp_apply, id_eq]
    show ((l[i].toNat : Nat) : Int) = l[i]
    omega
  refine ⟨l.map Int.toNat, hmap, ⟨⟨by simpa using hl.2, fun x hx => ?_⟩, by simpa using hl.1, fun a => ?_, fun a b => ?_⟩⟩
  · obtain ⟨y, hy, rfl⟩ := List.mem_map.1 hx
    obtain ⟨i, hi, rfl⟩ := List.getElem_of_mem hy
    have := hb i _ (List.getElem?_eq_getElem hi)
    rw [List.length_map]
    omega
  all_goals
    have hnb : ∀ i, (∃ x : Nat, l[i]? = some (x : Int) ∧ nb (l.map Int.toNat) i = x ∧ x < 1024) ∨ (l[i]? = none ∧ nb (l.map Int.toNat) i = 0) := by
      intro i
      unfold nb
      rw [List.getD_eq_getElem?_getD, List.getElem?_map]
      cases hx : l[i]? with
      | none => exact .inr ⟨rfl, rfl⟩
      | some x =>
        have := hb i x hx
        exact .inl ⟨x.toNat, by simp; omega, rfl, by omega⟩
  · unfold adj
    rcases hnb a with ⟨x, h1, h2, h3⟩ | ⟨_, h2⟩
    · rw [h2]
      have := (hb a x h1).2.2.1
      rw [bitI_nat (by omega) (by have := (List.getElem?_eq_some_iff.1 h1).1; omega)] at this
      cases hq : x.testBit a with
      | false => rfl
      | true => rw [hq] at this; simp at this
    · rw [h2]; simp
  · unfold adj
    rcases hnb a with ⟨x, h1, h2, h3⟩ | ⟨h1, h2⟩
    · rcases hnb b with ⟨y, h4, h5, h6⟩ | ⟨h4, h5⟩
      · rw [h2, h5]
        have := (hb a x h1).2.2.2 b y h4
        rw [bitI_nat (by omega) (by have := (List.getElem?_eq_some_iff.1 h4).1; omega), bitI_nat (by omega) (by have := (List.getElem?_eq_some_iff.1 h1).1; omega)] at this
        cases hq : x.testBit b <;> cases hr : y.testBit a <;> simp [hq, hr] at this ⊢
      · rw [h5]
        have hbl : l.length ≤ b := by
          refine Classical.byContradiction fun hc => ?_
          rw [List.getElem?_eq_getElem (by omega)] at h4
          cases h4
        have hxl : x < 2 ^ l.length := by have := (hb a x h1).2.1; omega
        rw [h2, big_bit hxl hbl]; simp
    · rw [h2]
      have hal : l.length ≤ a := by
        refine Classical.byContradiction fun hc => ?_
        rw [List.getElem?_eq_getElem (by omega)] at h1
        cases h1
      rcases hnb b with ⟨y, h4, h5, h6⟩ | ⟨h4, h5⟩
      · have hyl : y < 2 ^ l.length := by have := (hb b y h4).2.1; omega
        rw [h5, big_bit hyl hal]; simp
      · rw [h5]; simp
theorem wr64u {n : Nat} (h : n < 1024) : wr .u64 (n : Int) = n := by
  unfold wr IntKind.wrap
  show (n : Int) % 2 ^ 64 = n
  omega
theorem getN {h : H} {v : Value} {g : List Nat} (hs : SlR h 3 1 v (cellsN g)) {i : Nat} (hi : i < g.length) (K : Value → Option R) : (six v (i : Int) 1 fun b o => (h.cell b o).bind K) = K (iv (nb g i : Nat)) := by
  have : g[i]? = some (nb g i) := by unfold nb; rw [List.getD_eq_getElem?_getD, List.getElem?_eq_getElem hi]; rfl
  exact hs.c0 (by omega) (x := [iv (nb g i : Nat)]) (by simp [this]) rfl K
/-- The nodes of a set. -/
theorem s76 {S : Nat} (hS : S < 1024) (h : H) : ∃ v' h', rn 76 #[iv S] h = some (v', h') ∧ Exw h h' ∧ SlR h' 3 1 v' (cellsN (elts S)) := by
  obtain ⟨e, ws', h', hl, rfl, xg, v, w, hap, rfl⟩ := lpGo_inv (F := f76_l1 rn 2000)
    (fun d ws g => Ext h g ∧ ∃ (v : Value) (x : Nat) (L : List Nat), ws = [v, iv x] ∧ d = x ∧ x < 1024 ∧ L ++ elts x = elts S ∧ AqR h.nx g 3 1 v (cellsN L))
    (fun e ws g => e = .exit 0 ∧ Ext h g ∧ ∃ v w, AqR h.nx g 3 1 v (cellsN (elts S)) ∧ ws = [v, w])
    (by
      rintro d ws g ⟨xg, v, x, L, rfl, rfl, hx, hL, hap⟩
      by_cases hx0 : d = 0
      · subst hx0
        rw [elts_zero, List.append_nil] at hL
        subst hL
        exact ⟨.exit 0, [v, iv 0], _, by simp [f76_l1], .inr ⟨by simp, rfl, xg, v, iv 0, hap, rfl⟩⟩
      · have h0 : 0 < d := Nat.pos_of_ne_zero hx0
        obtain ⟨h1, h2⟩ := elts_next h0 hx
        have c89 := fun (K : Value → H → Option (Ex × List Value × H)) => calls_eq (K := K) (xs := [.int .u64 d]) (s89 h0 hx g)
        have hsub : sub .i64 (d : Int) 1 = ((d - 1 : Nat) : Int) := by rw [sub64 (by omega) (by omega)]; omega
        have hand : AM.and .i64 (d : Int) ((d - 1 : Nat) : Int) = ((d &&& (d - 1) : Nat) : Int) := and_nat (by omega) (by omega)
        have hLl : L.length ≤ 10 := by
          have h3 := congrArg List.length hL
          rw [List.length_append, elts_len S] at h3
          have := pop_le_n (Nat.le_refl 10) hS
          omega
        obtain ⟨v', g2, e2, a2, n2, k2, b2, hb2, hb2'⟩ := hap.push app22 app22 (bls22 (low d : Int)) rfl rfl (by simp; omega) xg.nx
        have ee : ∀ (K : Value → H → Option (Ex × List Value × H)), (bls Tryd.prog g 22 1 [(0, iv (low d : Nat))] fun y h2 => app Tryd.prog h2 22 22 v y K) = K v' g2 := fun K => e2 K
        refine ⟨.normal, [v', iv (d &&& (d - 1) : Nat)], g2, ?_, .inl ⟨rfl, d &&& (d - 1), h2, ⟨by have := xg.nx; omega, fun b hb => ?_⟩, v', d &&& (d - 1), L ++ [low d], rfl, rfl, by omega, ?_, ?_⟩⟩
        · unfold f76_l1
          rw [show AM.gv [v, iv d] 1 = iv d from rfl, show AM.gv [v, iv d] 0 = v from rfl, asI_int, show AM.eq (d : Int) 0 = false by simp; omega, show (!false) = true from rfl, ifB_true, asI_int, wr64u hx, c89, asI_int, ee, asI_int, asI_int, hsub, hand]
          rfl
        · rw [k2 b (by have := xg.nx; omega) (fun e => by have := (hap.blkOf e).1; omega)]
          exact xg.blk b hb
        · rw [← hL, h1]; simp
        · have : cellsN (L ++ [low d]) = cellsN L ++ [[iv (low d : Int)]] := by simp
          rw [this]; exact a2)
    S 2000 (by omega) ⟨.refl _, .slice none 0 0, S, [], rfl, rfl, hS, rfl, .nil⟩
  obtain ⟨h2, e2, m2, w2⟩ := x76 (k := 2000) (n0 := S) (h := h) (h1 := h') (v := v) (by
    unfold f76
    exact (lp_eq hl).trans rfl) (by obtain ⟨x, y, z, hz⟩ := hap.isSl; rw [hz]; rfl)
  exact ⟨v, h2, e2, w2 xg, hap.slR.ext m2.ext⟩
/-- What a node reaches within a set. -/
theorem s78 {tv : Value} {g : List Nat} {W v : Nat} {h : H} (hg : GrB g) (hs : SlR h 3 1 tv (cellsN g)) (hv : v < g.length) (hW : W < 2 ^ g.length) : rn 78 #[tv, iv v, iv W] h = some (iv (rch g W v : Nat), h) := by
  have hlen := hg.len
  have hpow := hg.pow
  have hW' : W < 1024 := Nat.lt_of_lt_of_le hW hpow
  have hinner : ∀ (S : Nat) (nv : Value) (h2 : H), Ext h h2 → S < 2 ^ g.length → SlR h2 3 1 nv (cellsN (elts S)) →
      lpGo (f78_l2 rn 2000 tv W nv (elts S).length) 2000 [iv S, iv 0] h2 = some (.exit 2, [iv (grow g W S : Nat), iv (elts S).length], h2) := by
    intro S nv h2 x2 hS hn
    have hS' : S < 1024 := Nat.lt_of_lt_of_le hS hpow
    have hpl : (elts S).length ≤ 10 := by rw [elts_len]; exact pop_le_n (Nat.le_refl 10) hS'
    have hl := lp_same (σ := Nat) (ρ := Empty) (F := f78_l2 rn 2000 tv W nv (elts S).length) (k := 2000) (l := elts S) (h := h2) (fun i s => [iv s, iv i])
      (fun _ i s => .inl (s ||| (nb g i &&& W))) (fun _ s => s < 1024) (fun _ => .ret) (fun _ => []) 2 (fun s => [iv s, iv (elts S).length]) (ws := [iv S, iv 0]) (s0 := S) rfl hS' (by omega) (by simp)
      (fun _ _ => by simp [f78_l2])
      (by
        intro i x s hx hI
        have hi := (List.getElem?_eq_some_iff.1 hx).1
        have hxS := (mem_elts hS').1 (List.mem_of_getElem? hx)
        have hxl : x < g.length := bit_lt hS hxS
        have hnw : nb g x &&& W < 1024 := Nat.and_lt_two_pow (n := 10) _ hW'
        refine ⟨fun s' hs' => by cases hs'; exact Nat.or_lt_two_pow (n := 10) hI hnw, ?_⟩
        have e1 : ∀ (K : Value → Option (Ex × List Value × H)), (six nv (i : Int) 1 fun b o => (h2.cell b o).bind K) = K (iv x) := fun K => hn.c0 (by omega) (x := [iv x]) (by simp [hx]) rfl K
        have e2 := fun (K : Value → Option (Ex × List Value × H)) => getN (hs.ext x2) hxl K
        have hand : AM.and .i64 (nb g x : Int) (W : Int) = ((nb g x &&& W : Nat) : Int) := and_nat (by have := hg.nb_lt x; omega) (by omega)
        have hor : AM.or .i64 (s : Int) ((nb g x &&& W : Nat) : Int) = ((s ||| (nb g x &&& W) : Nat) : Int) := or_nat (by omega) (by omega)
        have hadd : add .i64 (i : Int) 1 = (i : Int) + 1 := add64 (by omega) (by omega)
        simp [f78_l2, hi, e1, e2, hand, hor, hadd, rnd])
    rw [itL_inl (fun _ i s => s ||| (nb g i &&& W)), foldI_foldl (fun i s => s ||| (nb g i &&& W))] at hl
    exact hl.1
  obtain ⟨e, ws', h', hl, rfl, xg, w, rfl⟩ := lpGo_inv (F := f78_l1 rn 2000 tv W)
    (fun d ws h2 => Ext h h2 ∧ ∃ S : Nat, ws = [iv 0, iv S] ∧ S < 2 ^ g.length ∧ d + pop S = 10 ∧ S.testBit v = true ∧ ∀ u, S.testBit u = true → Rch g W v u)
    (fun e ws h2 => e = .ret ∧ Ext h h2 ∧ ∃ w, ws = [iv (rch g W v : Nat), w])
    (by
      rintro d ws h2 ⟨x2, S, rfl, hS, hd, hSv, hSr⟩
      have hS' : S < 1024 := Nat.lt_of_lt_of_le hS hpow
      obtain ⟨nv, h3, e76, x3w, hn⟩ := s76 hS' h2
      have x3 := x3w.toExt
      have hl := hinner S nv h3 (x2.trans x3) hS hn
      have hnl : ∀ {T : Type} (K : Int → Option T), len nv K = K ((elts S).length : Int) := fun K => by rw [hn.len]; simp
      have start : f78_l1 rn 2000 tv W [iv 0, iv S] h2 = if grow g W S = S then some (.ret, [iv S, iv S], h3) else some (.normal, [iv 0, iv (grow g W S : Nat)], h3) := by
        unfold f78_l1
        rw [show AM.gv [iv 0, iv S] 1 = iv S from rfl, calls_eq (xs := [iv S]) e76, hnl]
        refine (lp_eq hl).trans ?_
        rw [onE_exit, if_pos rfl, show AM.gv [iv (grow g W S : Nat), iv (elts S).length] 0 = iv (grow g W S : Nat) from rfl, asI_int, asI_int]
        by_cases hq : grow g W S = S
        · rw [if_pos hq, hq, show AM.eq (S : Int) (S : Int) = true by simp, ifB_true]; rfl
        · rw [if_neg hq, show AM.eq (grow g W S : Int) (S : Int) = false by simp; omega, ifB_false]; rfl
      rw [start]
      by_cases hq : grow g W S = S
      · rw [if_pos hq]
        refine ⟨_, _, _, rfl, .inr ⟨by simp, rfl, x2.trans x3, iv S, ?_⟩⟩
        rw [rch_eq (g := g) (W := W) (v := v) (by omega) hW' hS' hSv hSr fun a b ha hab hb => by
          rw [← hq, grow_bit hS']
          exact .inr ⟨a, ha, hab, hb⟩]
      · rw [if_neg hq]
        have hsub : ∀ u, S.testBit u = true → (grow g W S).testBit u = true := fun u hu => (grow_bit hS').2 (.inl hu)
        have hglt : grow g W S < 2 ^ g.length := by
          have key : ∀ (L : List Nat) (s : Nat), s < 2 ^ g.length → L.foldl (fun s i => s ||| (nb g i &&& W)) s < 2 ^ g.length := by
            intro L
            induction L with
            | nil => intro s h; exact h
            | cons i L ih => intro s h; exact ih _ (Nat.or_lt_two_pow h (Nat.and_lt_two_pow _ hW))
          exact key _ _ hS
        obtain ⟨i, hi⟩ : ∃ i, (grow g W S).testBit i ≠ S.testBit i := by
          refine Classical.byContradiction fun hc => hq (Nat.eq_of_testBit_eq fun i => Classical.byContradiction fun h => hc ⟨i, h⟩)
        have hSi : S.testBit i = false := by
          cases hh : S.testBit i with
          | false => rfl
          | true => rw [hh, hsub i hh] at hi; exact absurd rfl hi
        have hGi : (grow g W S).testBit i = true := by
          cases hh : (grow g W S).testBit i with
          | true => rfl
          | false => rw [hh, hSi] at hi; exact absurd rfl hi
        have hp := pop_lt (Nat.lt_of_lt_of_le hglt hpow) hsub hGi hSi
        have hp2 := pop_le_n (Nat.le_refl 10) (Nat.lt_of_lt_of_le hglt hpow)
        refine ⟨_, _, _, rfl, .inl ⟨rfl, 10 - pop (grow g W S), by omega, x2.trans x3, grow g W S, rfl, hglt, by omega, hsub v hSv, fun u hu => ?_⟩⟩
        rcases (grow_bit hS').1 hu with h | ⟨a, ha, hab, hb⟩
        · exact hSr u h
        · exact .step (hSr a ha) hab hb)
    (10 - pop (2 ^ v)) 2000 (by omega) ⟨.refl _, 2 ^ v, rfl, Nat.pow_lt_pow_right (by omega) hv, by
      have := pop_le_n (Nat.le_refl 10) (show 2 ^ v < 2 ^ 10 from Nat.pow_lt_pow_right (by omega) (by omega))
      omega, by simp [Nat.testBit_two_pow], fun u hu => by
      rw [Nat.testBit_two_pow] at hu
      have : v = u := by simpa using hu
      subst this
      exact .base⟩
  refine p78 (k := 2000) (h1 := h') ?_ rfl xg
  unfold f78
  rw [nn_ge (by omega), shl1_nat (by omega)]
  refine (lp_eq hl).trans ?_
  rw [onR_ret]
  rfl
/-- The document's Reached. -/
theorem s33 {tv : Value} {g : List Nat} {W v : Nat} {h : H} (hg : GrB g) (hs : SlR h 3 1 tv (cellsN g)) (hv : v < g.length) (hW : W < 2 ^ g.length) : rn 33 #[tv, iv W, iv v] h = some (iv (rch g W v : Nat), h) := by
  have hlen := hg.len
  have hpow := hg.pow
  have hW' : W < 1024 := Nat.lt_of_lt_of_le hW hpow
  have hn : ∀ {T : Type} (K : Int → Option T), len tv K = K (g.length : Int) := fun K => by rw [hs.len]; simp
  have hinner : ∀ (m : Nat), m < 1024 → lpGo (f33_l2 rn 200 tv W g.length) 200 [iv m, iv 0] h = some (.exit 2, [iv (roundD g W m : Nat), iv g.length], h) := by
    intro m hm
    have hl := lp_same (σ := Nat) (ρ := Empty) (F := f33_l2 rn 200 tv W g.length) (k := 200) (l := List.range g.length) (h := h) (fun i s => [iv s, iv i])
      (fun _ i s => .inl (stepD g W s i)) (fun _ s => s < 1024) (fun _ => .ret) (fun _ => []) 2 (fun s => [iv s, iv g.length]) (ws := [iv m, iv 0]) (s0 := m) rfl hm (by simp; omega) (by simp)
      (fun _ _ => by rw [List.length_range]; simp [f33_l2])
      (by
        intro i x s hx hI
        obtain ⟨hi, rfl⟩ := range_get hx
        have hnw : nb g x &&& W < 1024 := Nat.and_lt_two_pow (n := 10) _ hW'
        have hst : stepD g W s x < 1024 := by
          unfold stepD
          split
          · exact Nat.or_lt_two_pow (n := 10) hI hnw
          · exact hI
        refine ⟨fun s' hs' => by cases hs'; exact hst, ?_⟩
        have e2 := fun (K : Value → Option (Ex × List Value × H)) => getN hs hi K
        have hand : AM.and .i64 (nb g x : Int) (W : Int) = ((nb g x &&& W : Nat) : Int) := and_nat (by have := hg.nb_lt x; omega) (by omega)
        have hor : AM.or .i64 (s : Int) ((nb g x &&& W : Nat) : Int) = ((s ||| (nb g x &&& W) : Nat) : Int) := or_nat (by omega) (by omega)
        have hadd : add .i64 (x : Int) 1 = (x : Int) + 1 := add64 (by omega) (by omega)
        have hbit : AM.and .i64 (shr .i64 (s : Int) (x : Int)) 1 = if s.testBit x then 1 else 0 := bit_nat (by omega) (by omega)
        unfold stepD
        by_cases hb : s.testBit x = true
        · simp [f33_l2, hi, nn_ge (show (0 : Int) ≤ (x : Int) by omega), hbit, hb, e2, hand, hor, hadd, rnd]
        · simp [f33_l2, hi, nn_ge (show (0 : Int) ≤ (x : Int) by omega), hbit, hb, hadd, rnd])
    rw [itL_inl (fun _ i s => stepD g W s i), foldI_foldl (fun i s => stepD g W s i)] at hl
    exact hl.1
  have hl := lp_same (σ := Nat) (ρ := Empty) (F := f33_l1 rn 200 tv W g.length) (k := 200) (l := List.range g.length) (h := h) (fun i s => [iv s, iv i])
    (fun _ _ s => .inl (roundD g W s)) (fun _ s => s < 1024) (fun _ => .ret) (fun _ => []) 0 (fun s => [iv s, iv g.length]) (ws := [iv (2 ^ v : Nat), iv 0]) (s0 := 2 ^ v) rfl (Nat.lt_of_lt_of_le (Nat.pow_lt_pow_right (by omega) hv) hpow) (by simp; omega) (by simp)
    (fun _ _ => by rw [List.length_range]; simp [f33_l1])
    (by
      intro i x s hx hI
      obtain ⟨hi, rfl⟩ := range_get hx
      refine ⟨fun s' hs' => by cases hs'; exact foldD_lt (n := 10) hW' _ _ hI, ?_⟩
      have hadd : add .i64 (x : Int) 1 = (x : Int) + 1 := add64 (by omega) (by omega)
      have hlq := fun (K : Ex → List Value → H → Option (Ex × List Value × H)) => lp_eq (K := K) (hinner s hI)
      simp [f33_l1, hi, hn, hlq, hadd, rnd])
  rw [itL_inl (fun _ _ s => roundD g W s), foldI_foldl (fun _ s => roundD g W s)] at hl
  have hfin := reachD hg hv hW
  rw [hfin] at hl
  refine p33 (k := 200) ?_ rfl (.refl _)
  unfold f33
  rw [nn_ge (by omega), hn, shl1_nat (by omega)]
  refine (lp_eq hl.1).trans ?_
  rfl
/-- All nodes. -/
def allN (g : List Nat) : Nat := 2 ^ g.length - 1
theorem allN_lt (g : List Nat) : allN g < 2 ^ g.length := by have := Nat.two_pow_pos g.length; unfold allN; omega
theorem allN_bit (g : List Nat) (i : Nat) : (allN g).testBit i = decide (i < g.length) := by unfold allN; rw [Nat.testBit_two_pow_sub_one]
theorem shl_all {n : Nat} (h : n ≤ 10) : sub .i64 (AM.shl .i64 1 (n : Int)) 1 = ((2 ^ n - 1 : Nat) : Int) := by
  have h1 : 2 ^ n ≤ 2 ^ 10 := Nat.pow_le_pow_right (by omega) h
  have h2 := Nat.two_pow_pos n
  rw [shl1_nat (by omega), sub64 (by omega) (by omega)]
  omega
theorem s65 {tv : Value} {g : List Nat} {h : H} (hg : GrB g) (hs : SlR h 3 1 tv (cellsN g)) : rn 65 #[tv] h = some (iv (allN g : Nat), h) := by
  have hn : ∀ {T : Type} (K : Int → Option T), len tv K = K (g.length : Int) := fun K => by rw [hs.len]; simp
  refine p65 (k := 0) ?_ rfl (.refl _)
  simp [f65, hn, nn_ge, shl_all hg.len, allN]
/-- Is a set connected, if it is not empty? -/
noncomputable def connS (g : List Nat) (S : Nat) : Bool := decide (S = 0) || decide (rch g S (low S) = S)
theorem low_lt {g : List Nat} {S : Nat} (hg : GrB g) (hS : S < 2 ^ g.length) (h0 : S ≠ 0) : low S < g.length := bit_lt hS (low_bit (Nat.pos_of_ne_zero h0) (Nat.lt_of_lt_of_le hS hg.pow))
theorem s64 {tv : Value} {g : List Nat} {S : Nat} {h : H} (hg : GrB g) (hs : SlR h 3 1 tv (cellsN g)) (hS : S < 2 ^ g.length) : rn 64 #[tv, iv S] h = some (.bool (connS g S), h) := by
  have hS' : S < 1024 := Nat.lt_of_lt_of_le hS hg.pow
  refine p64 (k := 0) ?_ rfl (.refl _)
  unfold f64 connS
  by_cases h0 : S = 0
  · subst h0; simp
  · have c89 := fun (K : Value → H → Option (Value × H)) => calls_eq (K := K) (xs := [.int .u64 S]) (s89 (Nat.pos_of_ne_zero h0) hS' h)
    have c78 := fun (K : Value → H → Option (Value × H)) => calls_eq (K := K) (xs := [tv, iv (low S : Nat), iv S]) (s78 hg hs (low_lt hg hS h0) hS)
    rw [show AM.eq (S : Int) 0 = false by simp; omega, ifB_false, wr64u hS', c89, asI_int, c78, asI_int]
    have : AM.eq (rch g S (low S) : Int) (S : Int) = decide (rch g S (low S) = S) := by
      rw [Bool.eq_iff_iff]; simp; omega
    rw [this, decide_eq_false h0]
    rfl
end Go.AM
end

section
namespace Go.AM
open Go.Proofs
variable {R : Type}
attribute [local simp] nx_eq nx_new nx_set blk_new blk_set asI_int asK_int asB_bool asP_ptr al_eq bx_eq len_slice onE_exit onE_ret onR_ret Value.cells d3 d22 cell_new cell_set rd_new rd_set off eq lt le ifB gv out ext20 ext21
/-- A set without two numbers. -/
def del2 (S a b : Nat) : Nat := without (without S (2 ^ a)) (2 ^ b)
theorem del2_lt {S a b n : Nat} (h : S < 2 ^ n) : del2 S a b < 2 ^ n := without_le _ _ (without_le _ _ h)
end Go.AM
end

section
namespace Go.AM
open Go.Proofs
variable {R : Type}
attribute [local simp] nx_eq nx_new nx_set blk_new blk_set asI_int asK_int asB_bool asP_ptr al_eq bx_eq len_slice onE_exit onE_ret onR_ret Value.cells d3 d22 cell_new cell_set rd_new rd_set off eq lt le ifB gv out ext20 ext21
theorem SlR.blkR {h : H} {e : TypeId} {s : Nat} {v : Value} {L : List (List Value)} (a : SlR h e s v L) {b : Nat} (hb : blkOf v = some b) : b < h.nx ∧ ∃ cs own, h.blk b = some (.row cs e own) := by
  cases a with
  | nil => cases hb
  | at_ hb' hr => cases hb; exact ⟨hb', _, _, hr⟩
/-- A loop that appends is the same as_ a filter. -/
theorem foldI_filter {α β : Type} {p : α → Bool} {f : α → β} : ∀ (l : List α) (i : Nat) (s : List β), foldI (fun _ x acc => if p x = true then acc ++ [f x] else acc) l i s = s ++ (l.filter p).map f := by
  intro l
  induction l with
  | nil => intro i s; simp [foldI]
  | cons x l ih =>
    intro i s
    simp only [foldI]
    rw [ih]
    cases hp : p x <;> simp [List.filter_cons, hp]
theorem adj_bit {g : List Nat} (hg : GrB g) {a b : Nat} (hb : b ≤ 64) : AM.and .i64 (shr .i64 (nb g a : Int) (b : Int)) 1 = if adj g a b then 1 else 0 := by
  have h1 := hg.nb_lt a
  have h2 := hg.pow
  exact bit_nat (by omega) hb
end Go.AM
end

section
namespace Go.AM
open Go.Proofs
variable {R : Type}
attribute [local simp] nx_eq nx_new nx_set blk_new blk_set asI_int asK_int asB_bool asP_ptr al_eq bx_eq len_slice onE_exit onE_ret onR_ret Value.cells d3 d22 d78 w3 cell_new cell_set rd_new rd_set off eq lt le ifB gv out ext20 ext21
/-- Is a node a cut node of a set that has it? -/
noncomputable def cutQ (g : List Nat) (S v : Nat) : Bool := !connS g (without (rch g S v) (2 ^ v))
noncomputable def cutsP (g : List Nat) (S : Nat) : Nat := mkS (fun v => S.testBit v && cutQ g S v) 10
theorem cutsP_lt (g : List Nat) (S : Nat) : cutsP g S < 1024 := mkS_lt _ 10
theorem cutsP_bit {g : List Nat} {S v : Nat} (hS : S < 1024) : (cutsP g S).testBit v = true ↔ S.testBit v = true ∧ cutQ g S v = true := by
  unfold cutsP
  rw [mkS_bit, Bool.and_eq_true, Bool.and_eq_true, decide_eq_true_iff]
  exact ⟨And.right, fun h => ⟨bit_lt (n := 10) hS h.1, h⟩⟩
/-- Numbers put into a set one by one. -/
theorem orIf_bit {p : Nat → Bool} {u : Nat} : ∀ (L : List Nat) (i s : Nat), (foldI (fun _ v s => if p v = true then s ||| 2 ^ v else s) L i s).testBit u = true ↔ s.testBit u = true ∨ (u ∈ L ∧ p u = true) := by
  intro L
  induction L with
  | nil => intro i s; simp [foldI]
  | cons v L ih =>
    intro i s
    simp only [foldI]
    rw [ih]
    have h1 : (if p v = true then s ||| 2 ^ v else s).testBit u = true ↔ s.testBit u = true ∨ (u = v ∧ p u = true) := by
      split
      · rename_i hp
        rw [Nat.testBit_or, Nat.testBit_two_pow, Bool.or_eq_true, decide_eq_true_iff]
        constructor
        · rintro (h | h)
          · exact .inl h
          · exact .inr ⟨h.symm, h ▸ hp⟩
        · rintro (h | ⟨h, _⟩)
          · exact .inl h
          · exact .inr h.symm
      · rename_i hp
        constructor
        · exact .inl
        · rintro (h | ⟨rfl, h⟩)
          · exact h
          · exact absurd h hp
    rw [h1, List.mem_cons]
    constructor
    · rintro ((h | ⟨h, h'⟩) | ⟨h, h'⟩)
      · exact .inl h
      · exact .inr ⟨.inl h, h'⟩
      · exact .inr ⟨.inr h, h'⟩
    · rintro (h | ⟨h | h, h'⟩)
      · exact .inl (.inl h)
      · exact .inl (.inr ⟨h, h'⟩)
      · exact .inr ⟨h, h'⟩
theorem orIf_lt {p : Nat → Bool} {n : Nat} : ∀ (L : List Nat) (i s : Nat), s < 2 ^ n → (∀ v ∈ L, v < n) → foldI (fun _ v s => if p v = true then s ||| 2 ^ v else s) L i s < 2 ^ n := by
  intro L
  induction L with
  | nil => intro i s h _; exact h
  | cons v L ih =>
    intro i s h hv
    simp only [foldI]
    refine ih _ _ ?_ fun w hw => hv w (List.mem_cons_of_mem _ hw)
    split
    · exact Nat.or_lt_two_pow h (Nat.pow_lt_pow_right (by omega) (hv v List.mem_cons_self))
    · exact h
theorem rch_ltn {g : List Nat} {W v : Nat} (hg : GrB g) (hv : v < g.length) (hW : W < 2 ^ g.length) : rch g W v < 2 ^ g.length := by
  have hlen := hg.len
  have hW' : W < 1024 := Nat.lt_of_lt_of_le hW hg.pow
  refine Nat.lt_pow_two_of_testBit _ fun i hi => ?_
  rw [Bool.eq_false_iff]
  intro h
  have hr := (rch_bit (by omega) hW').1 h
  cases hr with
  | base => omega
  | step _ _ hb => have := bit_lt hW hb; omega
theorem cut_calc {g : List Nat} {S v : Nat} (hg : GrB g) (hv : v < g.length) (hS : S < 2 ^ g.length) : AM.andNot .i64 (rch g S v : Int) (AM.shl .i64 1 (v : Int)) = ((without (rch g S v) (2 ^ v) : Nat) : Int) := by
  have h1 := rch_lt g S v
  have hlen := hg.len
  have hv' : 2 ^ v < 2 ^ 10 := Nat.pow_lt_pow_right (by omega) (by omega)
  rw [shl1_nat (by omega), andNot_nat (by omega) (by omega)]
theorem s70 {tv : Value} {g : List Nat} {S : Nat} {h : H} (hg : GrB g) (hs : SlR h 3 1 tv (cellsN g)) (hS : S < 2 ^ g.length) : rn 70 #[tv, iv S] h = some (iv (cutsP g S : Nat), h) := by
  have hlen := hg.len
  have hS' : S < 1024 := Nat.lt_of_lt_of_le hS hg.pow
  obtain ⟨nv, h1, e76, x1w, hn⟩ := s76 hS' h
  have x1 := x1w.toExt
  have c76 := fun (K : Value → H → Option (Value × H)) => calls_eq (K := K) (xs := [iv S]) e76
  have hnn : ∀ {T : Type} (K : Int → Option T), len nv K = K ((elts S).length : Int) := fun K => by rw [hn.len]; simp
  have hpl : (elts S).length ≤ 10 := by rw [elts_len]; exact pop_le_n (Nat.le_refl 10) hS'
  have hl := lp_same (σ := Nat) (ρ := Empty) (F := f70_l1 rn 200 tv S nv (elts S).length) (k := 200) (l := elts S) (h := h1) (fun i s => [iv s, iv i])
    (fun _ v s => .inl (if cutQ g S v = true then s ||| 2 ^ v else s)) (fun _ s => s < 1024) (fun _ => .ret) (fun _ => []) 0 (fun s => [iv s, iv (elts S).length]) (ws := [iv 0, iv 0]) (s0 := 0) rfl (by decide) (by omega) (by simp)
    (fun _ _ => by simp [f70_l1])
    (by
      intro i v s hx hI
      have hi := (List.getElem?_eq_some_iff.1 hx).1
      have hv : v < g.length := bit_lt hS ((mem_elts hS').1 (List.mem_of_getElem? hx))
      have hv' : 2 ^ v < 2 ^ 10 := Nat.pow_lt_pow_right (by omega) (by omega)
      refine ⟨fun s' hs' => by cases hs'; split; exact Nat.or_lt_two_pow (n := 10) hI hv'; exact hI, ?_⟩
      have e1 : ∀ (K : Value → Option (Ex × List Value × H)), (six nv (i : Int) 1 fun b o => (h1.cell b o).bind K) = K (iv v) := fun K => hn.c0 (by omega) (x := [iv v]) (by simp [hx]) rfl K
      have c78 := fun (K : Value → H → Option (Ex × List Value × H)) => calls_eq (K := K) (xs := [tv, iv v, iv S]) (s78 hg (hs.ext x1) hv hS)
      have c64 := fun (K : Value → H → Option (Ex × List Value × H)) => calls_eq (K := K) (xs := [tv, iv (without (rch g S v) (2 ^ v) : Nat)]) (s64 hg (hs.ext x1) (without_le _ _ (rch_ltn hg hv hS)))
      have hadd : add .i64 (i : Int) 1 = (i : Int) + 1 := add64 (by omega) (by omega)
      have hor : AM.or .i64 (s : Int) (AM.shl .i64 1 (v : Int)) = ((s ||| 2 ^ v : Nat) : Int) := by rw [shl1_nat (by omega), or_nat (by omega) (by omega)]
      have hcalc := cut_calc hg hv hS
      unfold cutQ
      cases hq : connS g (without (rch g S v) (2 ^ v)) with
      | true => simp [f70_l1, hi, e1, c78, nn_ge (show (0 : Int) ≤ (v : Int) by omega), hcalc, c64, hq, hadd, rnd]
      | false => simp [f70_l1, hi, e1, c78, nn_ge (show (0 : Int) ≤ (v : Int) by omega), hcalc, c64, hq, hadd, hor, rnd])
  rw [itL_inl (fun _ v s => if cutQ g S v = true then s ||| 2 ^ v else s)] at hl
  have he : foldI (fun _ v s => if cutQ g S v = true then s ||| 2 ^ v else s) (elts S) 0 0 = cutsP g S := by
    refine set_ext (n := 10) (orIf_lt (n := 10) _ _ _ (by decide) fun v hv => by have := bit_lt hS ((mem_elts hS').1 hv); omega) (cutsP_lt g S) fun i _ => ?_
    rw [Bool.eq_iff_iff, orIf_bit, cutsP_bit hS', mem_elts hS']
    simp
  rw [he] at hl
  refine p70 (k := 200) (h1 := h1) ?_ rfl x1
  unfold f70
  rw [c76, hnn]
  refine (lp_eq hl.1).trans ?_
  rfl
end Go.AM
end

section
namespace Go.AM
open Go.Proofs
variable {R : Type}
attribute [local simp] nx_eq nx_new nx_set blk_new blk_set asI_int asK_int asB_bool asP_ptr al_eq bx_eq len_slice onE_exit onE_ret onR_ret Value.cells d3 d22 d78 w3 cell_new cell_set rd_new rd_set off eq lt le ifB gv out ext20 ext21
/-- A graph without an edge. -/
def delE (g : List Nat) (a b : Nat) : List Nat := (g.set a (without (nb g a) (2 ^ b))).set b (without (nb g b) (2 ^ a))
theorem delE_len (g : List Nat) (a b : Nat) : (delE g a b).length = g.length := by simp [delE]
theorem nb_set {g : List Nat} {a x i : Nat} (ha : a < g.length) : nb (g.set a x) i = if i = a then x else nb g i := by
  unfold nb
  rw [List.getD_eq_getElem?_getD, List.getD_eq_getElem?_getD, List.getElem?_set]
  by_cases h : a = i
  · subst h; simp [ha]
  · rw [if_neg h, if_neg (fun e => h e.symm)]
theorem adj_delE {g : List Nat} {a b u v : Nat} (ha : a < g.length) (hb : b < g.length) (hab : a ≠ b) : adj (delE g a b) u v = (adj g u v && !(decide (u = a ∧ v = b) || decide (u = b ∧ v = a))) := by
  unfold adj delE
  rw [nb_set (by simpa using hb), nb_set ha]
  by_cases h1 : u = b
  · subst h1
    rw [if_pos rfl, testBit_without, Nat.testBit_two_pow]
    have : ¬ u = a := fun e => hab e.symm
    simp [this, eq_comm]
  · rw [if_neg h1]
    by_cases h2 : u = a
    · subst h2
      rw [if_pos rfl, testBit_without, Nat.testBit_two_pow]
      simp [h1, eq_comm]
    · rw [if_neg h2]
      simp [h1, h2]
theorem GrB.delE {g : List Nat} (hg : GrB g) (a b : Nat) : GrB (delE g a b) := by
  refine ⟨by rw [delE_len]; exact hg.len, fun x hx => ?_⟩
  rw [delE_len]
  unfold AM.delE at hx
  rcases List.mem_or_eq_of_mem_set hx with h | rfl
  · rcases List.mem_or_eq_of_mem_set h with h | rfl
    · exact hg.lt x h
    · exact without_le _ _ (hg.nb_lt a)
  · exact without_le _ _ (hg.nb_lt b)
end Go.AM
end

section
namespace Go.AM
open Go.Proofs
variable {R : Type}
attribute [local simp] nx_eq nx_new nx_set blk_new blk_set asI_int asK_int asB_bool asP_ptr al_eq bx_eq len_slice onE_exit onE_ret onR_ret Value.cells d3 d22 d78 w3 cell_new cell_set rd_new rd_set off eq lt le ifB gv out ext20 ext21
theorem s24 {v : Value} {g : List Nat} {h : H} (hg : GrN g) (hval : validG (g.map Int.ofNat) = true) (hs : SlR h 3 1 v (cellsN g)) : rn 24 #[v] h = some (.tuple #[iv (cutsP g (allN g) : Nat), iv 0], h) := by
  have c63 := fun (K : Value → H → Option (Value × H)) => calls_eq (K := K) (xs := [v]) (s63 (l := g.map Int.ofNat) (h := h) (by rw [cellsN_eq]; exact hs))
  rw [if_pos hval] at c63
  have c65 := fun (K : Value → H → Option (Value × H)) => calls_eq (K := K) (xs := [v]) (s65 hg.toGrB hs)
  have c70 := fun (K : Value → H → Option (Value × H)) => calls_eq (K := K) (xs := [v, iv (allN g : Nat)]) (s70 hg.toGrB hs (allN_lt g))
  refine p24 (k := 0) (h1 := h) ?_ rfl (.refl _)
  simp [f24, c63, c65, c70]
end Go.AM
end

section
namespace Go.AM
open Go.Proofs
noncomputable def f43_l1 (_rec : Rec) (_k : Nat)  (ws0 : List Value) (h1 : H) : Option (Ex × List Value × H) :=
 asI .i64 (gv ws0 1) fun n1 =>
 ifB (lt 0 n1) (
 asI .i64 (gv ws0 0) fun n2 =>
 asI .i64 (gv ws0 1) fun n3 =>
 asI .i64 (gv ws0 1) fun n4 =>
 out .normal [(.int .i64 (add .i64 n2 1)), (.int .i64 (and .i64 n4 (sub .i64 n3 1)))] h1) (
 out (.exit 0) [gv ws0 0, gv ws0 1] h1)
noncomputable def f43 (rec : Rec) (k : Nat) (n0 : Int) (h0 : H) : Option (Value × H) :=
 lp k (f43_l1 rec k) [(.int .i64 0), (.int .i64 n0)] h0 fun e0 ws1 h2 =>
 onE e0 0 (
 some (gv ws1 0, h2)) (
 none)
theorem e43 (rec : Rec) (k : Nat) (n0 : Int) (h : H) : bodyT Tryd.prog E0 SC (XC Tryd.prog rec k) 43 (Value × H) [.int .i64 n0] h (fun v h => some (v, h)) = f43 rec k n0 h := by kernel_rfl
theorem t43 {k : Nat} {n0 : Int} {h h1 : H} {v : Value} (hh : f43 rn k n0 h = some (v, h1)) : rn 43 #[.int .i64 n0] h = some (v, trunc Tryd.prog h h1 v) :=
  run_of_bodyT (args := [.int .i64 n0]) rfl ((e43 _ _ _ _).trans hh)
theorem p43 {k : Nat} {n0 : Int} {h h1 : H} {v : Value} (hh : f43 rn k n0 h = some (v, h1)) (hp : plainO v = true) (x : Ext h h1) : rn 43 #[.int .i64 n0] h = some (v, h) := by rw [t43 hh, trunc_pure hp x]
end Go.AM
end

section
namespace Go.AM
open Go.Proofs
variable {R : Type}
attribute [local simp] nx_eq nx_new nx_set blk_new blk_set asI_int asK_int asB_bool asP_ptr al_eq bx_eq len_slice onE_exit onE_ret onR_ret Value.cells d3 d22 d78 w3 cell_new cell_set rd_new rd_set off eq lt le ifB gv out ext20 ext21
theorem s93 {S : Nat} (hS : S < 1024) (h : H) : rn 93 #[iv S] h = some (iv (pop S : Nat), h) := by
  refine p93 (k := 0) (h1 := h) ?_ rfl (.refl _)
  unfold f93
  rw [wr64u hS, calls_eq (xs := [.int .u64 S]) (s109 hS h), asI_int]
/-- The document's count. -/
theorem s43 {S : Nat} (hS : S < 1024) (h : H) : rn 43 #[iv S] h = some (iv (pop S : Nat), h) := by
  obtain ⟨e, ws', h', hl, rfl, rfl, w, rfl⟩ := lpGo_inv (F := f43_l1 rn 2000)
    (fun d ws g => g = h ∧ ∃ (x c : Nat), ws = [iv c, iv x] ∧ d = x ∧ x < 1024 ∧ c + pop x = pop S)
    (fun e ws g => e = .exit 0 ∧ g = h ∧ ∃ w, ws = [iv (pop S : Nat), w])
    (by
      rintro d ws g ⟨rfl, x, c, rfl, rfl, hx, hc⟩
      have hcp : c ≤ 10 := by
        have := pop_le_n (Nat.le_refl 10) hS
        omega
      by_cases hx0 : d = 0
      · subst hx0
        have : pop 0 = 0 := by decide
        refine ⟨.exit 0, [iv c, iv 0], g, by simp [f43_l1], .inr ⟨by simp, rfl, rfl, iv 0, ?_⟩⟩
        rw [show c = pop S by omega]
      · have h0 : 0 < d := Nat.pos_of_ne_zero hx0
        obtain ⟨h1, h2⟩ := elts_next h0 hx
        have hsub : sub .i64 (d : Int) 1 = ((d - 1 : Nat) : Int) := by rw [sub64 (by omega) (by omega)]; omega
        have hand : AM.and .i64 (d : Int) ((d - 1 : Nat) : Int) = ((d &&& (d - 1) : Nat) : Int) := and_nat (by omega) (by omega)
        have hadd : add .i64 (c : Int) 1 = ((c + 1 : Nat) : Int) := by rw [add64 (by omega) (by omega)]; omega
        have hpop : pop d = pop (d &&& (d - 1)) + 1 := by rw [← elts_len, ← elts_len, h1]; rfl
        refine ⟨.normal, [iv ((c + 1 : Nat) : Int), iv (d &&& (d - 1) : Nat)], g, ?_, .inl ⟨rfl, d &&& (d - 1), h2, rfl, _, _, rfl, rfl, by omega, by omega⟩⟩
        unfold f43_l1
        simp only [gv, List.getD_cons_succ, List.getD_cons_zero, asI_int, hsub, hand, hadd]
        rw [show AM.lt (0 : Int) (d : Int) = true by simp; omega, ifB_true]
        rfl)
    S 2000 (by omega) ⟨rfl, S, 0, rfl, rfl, hS, by omega⟩
  refine p43 (k := 2000) (h1 := h') ?_ rfl (.refl _)
  unfold f43
  exact (lp_eq hl).trans rfl
/-- A lone node, or a set of more that is connected without a cut node. -/
noncomputable def cand2 (g : List Nat) (S : Nat) : Bool := decide (1 < pop S) && connS g S && decide (cutsP g S = 0)
end Go.AM
end

section
namespace Go.AM
open Go.Proofs
variable {R : Type}
theorem pop_zero' {S : Nat} (hS : S < 1024) (h : pop S = 0) : S = 0 := by
  refine Classical.byContradiction fun hc => ?_
  have := (elts_next (Nat.pos_of_ne_zero hc) hS).1
  have h1 := elts_len S
  rw [this, h] at h1
  simp at h1
theorem pop_one {S : Nat} (hS : S < 1024) (h : pop S = 1) : S = 2 ^ low S := by
  have h0 : 0 < S := by
    refine Nat.pos_of_ne_zero fun e => ?_
    subst e
    revert h; decide
  have h1 := elts_len S
  have h2 := (elts_next h0 hS).1
  have h3 : elts (S &&& (S - 1)) = [] := by
    rw [h2, h] at h1
    simpa using h1
  refine Nat.eq_of_testBit_eq fun i => ?_
  rw [Bool.eq_iff_iff, ← mem_elts hS, h2, h3, Nat.testBit_two_pow]
  simp [eq_comm]
end Go.AM
end

section
namespace Go.AM
open Go.Proofs
theorem Rch.trans {g : List Nat} {W a b c : Nat} (h1 : Rch g W a b) (h2 : Rch g W b c) : Rch g W a c := by
  induction h2 with
  | base => exact h1
  | step _ hab hb ih => exact .step ih hab hb
theorem Rch.mem {g : List Nat} {W a b : Nat} (h : Rch g W a b) (ha : W.testBit a = true) : W.testBit b = true := by
  cases h with
  | base => exact ha
  | step _ _ hb => exact hb
theorem Rch.one {g : List Nat} {W a b : Nat} (h : adj g a b = true) (hb : W.testBit b = true) : Rch g W a b := .step .base h hb
theorem Rch.sym {g : List Nat} (hs : ∀ a b, adj g a b = adj g b a) {W a b : Nat} (h : Rch g W a b) (ha : W.testBit a = true) : Rch g W b a := by
  induction h with
  | base => exact .base
  | @step x y hx hxy hy ih => exact (Rch.one (by rw [hs]; exact hxy) (hx.mem ha)).trans ih
/-- A set all of whose nodes reach each other within it. -/
def Conn (g : List Nat) (S : Nat) : Prop := ∀ a b, S.testBit a = true → S.testBit b = true → Rch g S a b
theorem conn_iff {g : List Nat} (hg : GrN g) {S : Nat} (hS : S < 2 ^ g.length) : connS g S = true ↔ Conn g S := by
  have hpow := hg.pow
  have hlen := hg.len
  have hS' : S < 1024 := by omega
  unfold connS
  by_cases h0 : S = 0
  · subst h0
    simp only [decide_true, Bool.true_or, true_iff]
    intro a b ha
    simp at ha
  · have hl := low_lt hg.toGrB hS h0
    have hlb := low_bit (Nat.pos_of_ne_zero h0) hS'
    rw [decide_eq_false h0, Bool.false_or, decide_eq_true_iff]
    constructor
    · intro h a b ha hb
      have h1 : ∀ i, S.testBit i = true → Rch g S (low S) i := fun i hi => (rch_bit (by omega) hS').1 (by rw [h]; exact hi)
      exact ((h1 a ha).sym hg.sym hlb).trans (h1 b hb)
    · intro h
      refine (rch_eq (by omega) hS' hS' hlb (fun u hu => h _ _ hlb hu) fun a b _ _ hb => hb).symm
/-- A set of which any node may be taken away. -/
def Bi (g : List Nat) (S : Nat) : Prop := ∀ w, Conn g (without S (2 ^ w))
theorem bit_del {S w i : Nat} : (without S (2 ^ w)).testBit i = true ↔ S.testBit i = true ∧ i ≠ w := by
  rw [testBit_without, Nat.testBit_two_pow, Bool.and_eq_true, Bool.not_eq_true', decide_eq_false_iff_not]
  exact ⟨fun h => ⟨h.1, fun e => h.2 e.symm⟩, fun h => ⟨h.1, fun e => h.2 e.symm⟩⟩
theorem del_none {S w : Nat} (h : S.testBit w = false) : without S (2 ^ w) = S := by
  refine Nat.eq_of_testBit_eq fun i => ?_
  rw [Bool.eq_iff_iff, bit_del]
  exact ⟨And.left, fun hi => ⟨hi, fun e => by subst e; rw [h] at hi; cases hi⟩⟩
theorem Bi.conn {g : List Nat} {S : Nat} (hS : S < 1024) (h : Bi g S) : Conn g S := by
  have := h 10
  rwa [del_none (big_bit (n := 10) hS (Nat.le_refl _))] at this
theorem cand2_iff {g : List Nat} (hg : GrN g) {S : Nat} (hS : S < 2 ^ g.length) : cand2 g S = true ↔ 1 < pop S ∧ Bi g S := by
  have hpow := hg.pow
  have hlen := hg.len
  have hS' : S < 1024 := by omega
  unfold cand2
  simp only [Bool.and_eq_true, decide_eq_true_iff]
  have hrch : Conn g S → ∀ v, S.testBit v = true → rch g S v = S := fun hc v hv =>
    (rch_eq (by have := bit_lt hS hv; omega) hS' hS' hv (fun u hu => hc _ _ hv hu) fun a b _ _ hb => hb).symm
  have hcut : Conn g S → (cutsP g S = 0 ↔ ∀ v, S.testBit v = true → Conn g (without S (2 ^ v))) := by
    intro hc
    constructor
    · intro h v hv
      have h1 : ¬ (cutsP g S).testBit v = true := by rw [h]; simp
      rw [cutsP_bit hS'] at h1
      have h2 : cutQ g S v = false := by
        cases hq : cutQ g S v with
        | false => rfl
        | true => exact absurd ⟨hv, hq⟩ h1
      unfold cutQ at h2
      rw [hrch hc v hv, Bool.not_eq_false'] at h2
      exact (conn_iff hg (without_le _ _ hS)).1 h2
    · intro h
      refine Nat.eq_of_testBit_eq fun v => ?_
      rw [Nat.zero_testBit, Bool.eq_false_iff]
      intro hb
      obtain ⟨hv, hq⟩ := (cutsP_bit hS').1 hb
      unfold cutQ at hq
      rw [hrch hc v hv, (conn_iff hg (without_le _ _ hS)).2 (h v hv)] at hq
      cases hq
  constructor
  · rintro ⟨⟨h1, h2⟩, h3⟩
    have hc := (conn_iff hg hS).1 h2
    refine ⟨h1, fun w => ?_⟩
    cases hw : S.testBit w with
    | false => rw [del_none hw]; exact hc
    | true => exact (hcut hc).1 h3 w hw
  · rintro ⟨h1, h2⟩
    have hc := h2.conn hS'
    exact ⟨⟨h1, (conn_iff hg hS).2 hc⟩, (hcut hc).2 fun v _ => h2 v⟩
theorem elts_n {b n : Nat} (hn : n ≤ 10) (hb : b < 2 ^ n) : elts b = (List.range n).filter fun i => b.testBit i := by
  unfold elts
  rw [show 10 = n + (10 - n) by omega, List.range_add, List.filter_append]
  have : (((List.range (10 - n)).map (n + ·)).filter fun i => b.testBit i) = [] := by
    rw [List.filter_eq_nil_iff]
    intro x hx
    obtain ⟨y, _, rfl⟩ := List.mem_map.1 hx
    rw [big_bit hb (by omega)]
    simp
  rw [this, List.append_nil]
theorem sum_ge {α : Type} {f : α → Nat} {m : Nat} : ∀ (l : List α), (∀ x ∈ l, m ≤ f x) → m * l.length ≤ (l.map f).sum := by
  intro l
  induction l with
  | nil => intro _; simp
  | cons x l ih =>
    intro h
    have h1 := h x List.mem_cons_self
    have h2 := ih fun y hy => h y (List.mem_cons_of_mem _ hy)
    rw [List.map_cons, List.sum_cons, List.length_cons, Nat.mul_add]
    omega
/-- A node more than some few. -/
theorem exists_other {S a b : Nat} (hS : S < 1024) (h : 2 < pop S) : ∃ c, S.testBit c = true ∧ c ≠ a ∧ c ≠ b := by
  refine Classical.byContradiction fun hc => ?_
  have hall : ∀ c, S.testBit c = true → c = a ∨ c = b := fun c hcb => Classical.byContradiction fun hh => hc ⟨c, hcb, fun e => hh (.inl e), fun e => hh (.inr e)⟩
  have hlen := elts_len S
  have hnd := elts_nodup S
  have hm : ∀ c ∈ elts S, c = a ∨ c = b := fun c h => hall c ((mem_elts hS).1 h)
  rw [← hlen] at h
  match hE : elts S with
  | [] => rw [hE] at h; simp at h
  | [x] => rw [hE] at h; simp at h
  | [x, y] => rw [hE] at h; simp at h
  | x :: y :: z :: l =>
    rw [hE] at hm hnd
    have h1 := hm x (by simp)
    have h2 := hm y (by simp)
    have h3 := hm z (by simp)
    simp only [List.nodup_cons, List.mem_cons, not_or] at hnd
    omega
end Go.AM
end

section
namespace Go.AM
open Go.Proofs
/-- A way within a set without one end of an edge does not use the edge. -/
theorem Rch.del {g : List Nat} (hg : GrN g) {a b W s t : Nat} (hab : adj g a b = true) (hz : W.testBit a = false ∨ W.testBit b = false) (hs : W.testBit s = true) (hW : W < 2 ^ g.length) (h : Rch g W s t) : Rch (delE g a b) (allN g) s t := by
  obtain ⟨ha, hb⟩ := hg.adj_lt hab
  have hne : a ≠ b := by rintro rfl; rw [hg.irr] at hab; cases hab
  induction h with
  | base => exact .base
  | @step x y hx hxy hy ih =>
    refine .step ih ?_ (by rw [allN_bit, decide_eq_true (bit_lt hW hy)])
    have hxW := hx.mem hs
    rw [adj_delE ha hb hne, hxy, Bool.true_and, Bool.not_eq_true', Bool.or_eq_false_iff, decide_eq_false_iff_not, decide_eq_false_iff_not]
    constructor
    · rintro ⟨rfl, rfl⟩
      rcases hz with h | h
      · rw [hxW] at h; cases h
      · rw [hy] at h; cases h
    · rintro ⟨rfl, rfl⟩
      rcases hz with h | h
      · rw [hy] at h; cases h
      · rw [hxW] at h; cases h
end Go.AM
end

section
namespace Go.AM
open Go.Proofs
/-- The arcs without the edge from s to t. -/
def lessF (F : Nat → Nat → Prop) (s t v u : Nat) : Prop := F v u ∧ ¬ (v = s ∧ u = t)
section
variable {A A' : Nat → Nat → Prop} {s t : Nat} {F : Nat → Nat → Prop} {R : Nat × Bool → Prop}
theorem EndW.edge (e : EndW A s t F R) (hst : s ≠ t) (ha : A s t) : F s t :=
  Classical.byContradiction fun hf => e.no (e.go _ _ e.start (.fwd (fun h => absurd rfl h) ha (Ne.symm hst) hf) (Ne.symm hst))
theorem FlW.less (f : FlW A s t F) (hA : ∀ v u, A' v u ↔ A v u ∧ ¬ (v = s ∧ u = t) ∧ ¬ (v = t ∧ u = s)) : FlW A' s t (lessF F s t) where
  sub := fun v u h => (hA v u).2 ⟨f.sub _ _ h.1, h.2, fun e => f.ns v (e.2 ▸ h.1)⟩
  ns := fun v h => f.ns v h.1
  nt := fun u h => f.nt u h.1
  out1 := fun v u u' hv h h' => f.out1 v u u' hv h.1 h'.1
  in1 := fun v v' u hu h h' => f.in1 v v' u hu h.1 h'.1
  io := fun v hv ht => by
    have h1 : (∃ u, lessF F s t v u) ↔ ∃ u, F v u := ⟨fun ⟨u, h⟩ => ⟨u, h.1⟩, fun ⟨u, h⟩ => ⟨u, h, fun e => hv e.1⟩⟩
    have h2 : (∃ u, lessF F s t u v) ↔ ∃ u, F u v := ⟨fun ⟨u, h⟩ => ⟨u, h.1⟩, fun ⟨u, h⟩ => ⟨u, h, fun e => ht e.2⟩⟩
    rw [h1, h2]
    exact f.io v hv ht
theorem less_out {v : Nat} (hv : v ≠ s) : (∃ u, lessF F s t v u) ↔ ∃ u, F v u := ⟨fun ⟨u, h⟩ => ⟨u, h.1⟩, fun ⟨u, h⟩ => ⟨u, h, fun e => hv e.1⟩⟩
theorem EndW.less (e : EndW A s t F R) (f : FlW A s t F) (hst : s ≠ t) (hA : ∀ v u, A' v u ↔ A v u ∧ ¬ (v = s ∧ u = t) ∧ ¬ (v = t ∧ u = s)) : EndW A' s t (lessF F s t) R where
  start := e.start
  no := e.no
  go := fun x y hx ha hy => by
    refine e.go x y hx ?_ hy
    cases ha with
    | back hv ho hp => exact .back hv ((less_out hv).1 ho) hp.1
    | fwd hw ha hu hf =>
      obtain ⟨h1, h2, h3⟩ := (hA _ _).1 ha
      exact .fwd (fun hv ho => hw hv ((less_out hv).2 ho)) h1 hu fun h => hf ⟨h, h2⟩
  by_ := fun x hx => by
    rcases e.by_ x hx with h | ⟨y, hy, ha⟩
    · exact .inl h
    · refine .inr ⟨y, hy, ?_⟩
      cases ha with
      | @back v p w hv ho hp => exact .back hv ((less_out hv).2 ho) ⟨hp, fun e' => e.not_t f hst w (e'.2 ▸ hy)⟩
      | @fwd v u w hw ha hu hf =>
        refine .fwd (fun hv ho => hw hv ((less_out hv).1 ho)) ((hA _ _).2 ⟨ha, fun e' => ?_, fun e' => hu e'.2⟩) hu fun h => hf h.1
        exact e.no (e'.2 ▸ hx)
theorem chain_snoc : ∀ (w : List Nat) {v a b : Nat}, chainA A v w a → A a b → chainA A v (w ++ [b]) b := by
  intro w
  induction w with
  | nil => intro v a b h hab; cases h; exact ⟨hab, rfl⟩
  | cons u w ih => intro v a b h hab; exact ⟨h.1, ih h.2 hab⟩
theorem chain_tail : ∀ (w : List Nat) {v z t : Nat} {w' : List Nat}, chainA A v (w ++ z :: w') t → chainA A z w' t := by
  intro w
  induction w with
  | nil => intro v z t w' h; exact h.2
  | cons u w ih => intro v z t w' h; exact ih h.2
/-- A walk from s that does not come back to s. -/
theorem chain_away (s : Nat) : ∀ (n : Nat) (w : List Nat), w.length ≤ n → chainA A s w t → ∃ w', chainA A s w' t ∧ (∀ x ∈ w', x ∈ w) ∧ ∀ x ∈ w', x ≠ s := by
  intro n
  induction n with
  | zero =>
    intro w hw h
    have : w = [] := List.length_eq_zero_iff.1 (by omega)
    subst this
    exact ⟨[], h, fun _ h => h, fun _ h => by cases h⟩
  | succ n ih =>
    intro w hw h
    by_cases hs : s ∈ w
    · obtain ⟨a, b, rfl⟩ := List.append_of_mem hs
      simp only [List.length_append, List.length_cons] at hw
      obtain ⟨w', h1, h2, h3⟩ := ih b (by omega) (chain_tail a h)
      exact ⟨w', h1, fun x hx => List.mem_append.2 (.inr (List.mem_cons_of_mem _ (h2 x hx))), h3⟩
    · exact ⟨w, h, fun _ h => h, fun x hx e => hs (e ▸ hx)⟩
end
section
variable {g : List Nat} {s t : Nat}
/-- Arrows of a graph. -/
def adjP (g : List Nat) (a b : Nat) : Prop := adj g a b = true
theorem rch_chain {W : Nat} (h : Rch g W s t) : ∃ w, chainA (adjP g) s w t ∧ ∀ x ∈ w, W.testBit x = true := by
  induction h with
  | base => exact ⟨[], rfl, fun _ h => by cases h⟩
  | step _ hab hb ih =>
    obtain ⟨w, h1, h2⟩ := ih
    refine ⟨w ++ [_], chain_snoc w h1 hab, fun x hx => ?_⟩
    rcases List.mem_append.1 hx with h | h
    · exact h2 x h
    · rw [List.mem_singleton.1 h]; exact hb
theorem chain_rch {W : Nat} : ∀ (w : List Nat) (s : Nat), chainA (adjP g) s w t → (∀ x ∈ w, W.testBit x = true) → Rch g W s t := by
  intro w
  induction w with
  | nil => intro s h _; cases h; exact .base
  | cons u w ih => intro s h hw; exact (Rch.one h.1 (hw u List.mem_cons_self)).trans (ih u h.2 fun x hx => hw x (List.mem_cons_of_mem _ hx))
theorem chain_in (hg : GrB g) : ∀ (w : List Nat) (s : Nat), chainA (adjP g) s w t → ∀ x ∈ w, x < g.length := by
  intro w
  induction w with
  | nil => intro s _ x hx; cases hx
  | cons u w ih =>
    intro s h x hx
    rcases List.mem_cons.1 hx with rfl | hx
    · exact (hg.adj_lt h.1).2
    · exact ih u h.2 x hx
/-- A set without s and t that parts them. -/
structure Sep (g : List Nat) (s t X : Nat) : Prop where
  ms : X.testBit s = false
  mt : X.testBit t = false
  part : ¬ Rch g (without (allN g) X) s t
def MinSep (g : List Nat) (s t k : Nat) : Prop := (∃ C, C < 2 ^ g.length ∧ Sep g s t C ∧ pop C = k) ∧ ∀ X, X < 2 ^ g.length → Sep g s t X → k ≤ pop X
theorem cnt_pop (hg : GrB g) {X : Nat} (hX : X < 2 ^ g.length) : cntN g.length (fun i => X.testBit i = true) = pop X := by
  rw [← elts_len, elts_n hg.len hX, ← List.countP_eq_length_filter]
  unfold cntN
  refine List.countP_congr fun i _ => ?_
  simp
theorem FlW.le_sep {F : Nat → Nat → Prop} (f : FlW (adjP g) s t F) (hg : GrB g) {X : Nat} (hX : X < 2 ^ g.length) (h : Sep g s t X) : cntN g.length (F s) ≤ pop X := by
  rw [← cnt_pop hg hX]
  refine f.le_cut (fun v u h => hg.adj_lt h) (fun w hw => Classical.byContradiction fun hc => ?_) (by rw [h.mt]; simp)
  refine h.part (chain_rch w s hw fun x hx => ?_)
  rw [testBit_without, allN_bit, decide_eq_true (chain_in hg w s hw x hx)]
  cases hb : X.testBit x with
  | true => exact absurd ⟨x, hx, hb⟩ hc
  | false => rfl
open Classical in
theorem EndW.sep {F : Nat → Nat → Prop} {R : Nat × Bool → Prop} (e : EndW (adjP g) s t F R) (f : FlW (adjP g) s t F) (hg : GrB g) (hst : s ≠ t) (hno : ¬ F s t) : ∃ C, C < 2 ^ g.length ∧ Sep g s t C ∧ pop C = cntN g.length (F s) := by
  refine ⟨mkS (fun v => decide (CutN s t F R v)) g.length, mkS_lt _ _, ⟨?_, ?_, fun h => ?_⟩, ?_⟩
  · rw [mkS_bit, Bool.and_eq_false_iff]; right
    exact decide_eq_false fun h => h.1 rfl
  · rw [mkS_bit, Bool.and_eq_false_iff]; right
    exact decide_eq_false fun h => h.2.1 rfl
  · obtain ⟨w, h1, h2⟩ := rch_chain h
    obtain ⟨w', q1, q2, q3⟩ := chain_away s w.length w (Nat.le_refl _) h1
    rcases e.meets f hst w' s (.inl rfl) hst q1 q3 with ⟨x, hx, hc⟩ | ⟨_, h, _⟩
    · have := h2 x (q2 x hx)
      rw [testBit_without, mkS_bit, decide_eq_true hc, decide_eq_true (chain_in hg w' s q1 x hx)] at this
      simp at this
    · exact hno h
  · rw [← cnt_pop hg (mkS_lt _ _), ← (show cntN g.length (fun u => F s u ∧ u ≠ t) = cntN g.length (F s) from cnt_congr fun u _ => ⟨fun h => h.1, fun h => ⟨h, fun e => hno (e ▸ h)⟩⟩), ← e.count f hst (fun v u h => hg.adj_lt h)]
    refine cnt_congr fun i hi => ?_
    rw [mkS_bit, decide_eq_true hi, Bool.true_and, decide_eq_true_iff]
theorem adjP_delE {a b : Nat} (ha : a < g.length) (hb : b < g.length) (hab : a ≠ b) (v u : Nat) : adjP (delE g a b) v u ↔ adjP g v u ∧ ¬ (v = a ∧ u = b) ∧ ¬ (v = b ∧ u = a) := by
  unfold adjP
  rw [adj_delE ha hb hab, Bool.and_eq_true, Bool.not_eq_true', Bool.or_eq_false_iff, decide_eq_false_iff_not, decide_eq_false_iff_not]
theorem cnt_one {n : Nat} {p : Nat → Prop} {t : Nat} (ht : t < n) (hp : p t) : cntN n (fun u => p u ∧ u = t) = 1 := by
  unfold cntN
  refine (List.countP_congr (q := (· == t)) fun i _ => ?_).trans ?_
  · simp only [decide_eq_true_eq, beq_iff_eq]
    exact ⟨fun h => h.2, fun h => ⟨h ▸ hp, h⟩⟩
  · show (List.range n).count t = 1
    have h1 := List.nodup_range (n := n)
    rw [List.nodup_iff_count] at h1
    have h2 := h1 t
    have h3 := List.count_pos_iff.2 (List.mem_range.2 ht)
    omega
/-- A search that ends without t: the least sets that part s and t, without the edge between them, are as_ great as_ there are ways, without the edge. -/
theorem flow_min {F : Nat → Nat → Prop} {R : Nat × Bool → Prop} (hg : GrB g) (e : EndW (adjP g) s t F R) (f : FlW (adjP g) s t F) (hs : s < g.length) (ht : t < g.length) (hst : s ≠ t) :
    (adj g s t = false → MinSep g s t (cntN g.length (F s))) ∧ (adj g s t = true → ∃ k, cntN g.length (F s) = k + 1 ∧ MinSep (delE g s t) s t k) := by
  constructor
  · intro h
    exact ⟨e.sep f hg hst (fun hF => by have := f.sub _ _ hF; unfold adjP at this; rw [h] at this; cases this), fun X hX hS => f.le_sep hg hX hS⟩
  · intro h
    have hF := e.edge hst h
    have hA := adjP_delE hs ht hst
    have e' := e.less f hst hA
    have f' := f.less hA
    have hg' := hg.delE s t
    have hl := delE_len g s t
    refine ⟨cntN g.length (lessF F s t s), ?_, ?_⟩
    · rw [cnt_split g.length (F s) (fun u => u = t), cnt_one ht hF]
      have : cntN g.length (fun i => F s i ∧ ¬ i = t) = cntN g.length (lessF F s t s) := cnt_congr fun i _ => ⟨fun h => ⟨h.1, fun e => h.2 e.2⟩, fun h => ⟨h.1, fun e => h.2 ⟨rfl, e⟩⟩⟩
      rw [this]; omega
    · rw [← hl]
      exact ⟨e'.sep f' hg' hst fun h => h.2 ⟨rfl, rfl⟩, fun X hX hS => f'.le_sep hg' hX hS⟩
noncomputable def sepQ (g : List Nat) (s t X : Nat) : Bool := !X.testBit s && !X.testBit t && !(rch g (without (allN g) X) s).testBit t
theorem sepQ_iff (hg : GrB g) (hs : s < g.length) {X : Nat} : sepQ g s t X = true ↔ Sep g s t X := by
  have hlen := hg.len
  have hW : without (allN g) X < 1024 := Nat.lt_of_lt_of_le (without_le _ _ (allN_lt g)) hg.pow
  unfold sepQ
  rw [Bool.and_eq_true, Bool.and_eq_true, Bool.not_eq_true', Bool.not_eq_true', Bool.not_eq_true', Bool.eq_false_iff (b := (rch _ _ _).testBit t), ne_eq, rch_bit (by omega) hW]
  exact ⟨fun h => ⟨h.1.1, h.1.2, h.2⟩, fun h => ⟨⟨h.ms, h.mt⟩, h.part⟩⟩
noncomputable def stepC (g : List Nat) (s t S b : Nat) : Nat := if sepQ g s t S = true ∧ pop S < pop b then S else b
noncomputable def cutP (g : List Nat) (s t : Nat) : Nat := (List.range (2 ^ g.length)).foldl (fun b S => stepC g s t S b) (allN g)
theorem foldC : ∀ (l : List Nat) (b : Nat), (l.foldl (fun b S => stepC g s t S b) b = b ∨ (l.foldl (fun b S => stepC g s t S b) b ∈ l ∧ sepQ g s t (l.foldl (fun b S => stepC g s t S b) b) = true)) ∧ pop (l.foldl (fun b S => stepC g s t S b) b) ≤ pop b ∧ ∀ S ∈ l, sepQ g s t S = true → pop (l.foldl (fun b S => stepC g s t S b) b) ≤ pop S := by
  intro l
  induction l with
  | nil => intro b; exact ⟨.inl rfl, Nat.le_refl _, fun _ h => by cases h⟩
  | cons S l ih =>
    intro b
    obtain ⟨h1, h2, h3⟩ := ih (stepC g s t S b)
    rw [List.foldl_cons]
    have hle : pop (stepC g s t S b) ≤ pop b := by unfold stepC; split <;> omega
    refine ⟨?_, Nat.le_trans h2 hle, fun T hT hq => ?_⟩
    · rcases h1 with h | h
      · rw [h]
        by_cases hc : sepQ g s t S = true ∧ pop S < pop b
        · right
          have : stepC g s t S b = S := if_pos hc
          rw [this]; exact ⟨List.mem_cons_self, hc.1⟩
        · left; exact if_neg hc
      · exact .inr ⟨List.mem_cons_of_mem _ h.1, h.2⟩
    · rcases List.mem_cons.1 hT with rfl | hT
      · refine Nat.le_trans h2 ?_
        by_cases hc : pop T < pop b
        · have : stepC g s t T b = T := if_pos ⟨hq, hc⟩
          rw [this]; exact Nat.le_refl _
        · have : stepC g s t T b = b := if_neg fun h => hc h.2
          rw [this]; omega
      · exact h3 T hT hq
theorem pop_allN (hg : GrB g) : pop (allN g) = g.length := by
  rw [← elts_len, elts_n hg.len (allN_lt g)]
  rw [List.filter_eq_self.2 (fun i hi => by rw [allN_bit, decide_eq_true (List.mem_range.1 hi)])]
  exact List.length_range
/-- All but the two part them where they are no neighbours. -/
theorem sep_rest (hg : GrB g) (hst : s ≠ t) (ha : adj g s t = false) : Sep g s t (del2 (allN g) s t) where
  ms := by unfold del2; rw [testBit_without, testBit_without, Nat.testBit_two_pow]; simp
  mt := by unfold del2; rw [testBit_without, testBit_without, Nat.testBit_two_pow]; simp
  part := fun h => by
    have key : ∀ {x : Nat}, Rch g (without (allN g) (del2 (allN g) s t)) s x → x = s := by
      intro x h
      induction h with
      | base => rfl
      | @step a b _ hab hb ih =>
        subst ih
        unfold del2 at hb
        rw [testBit_without, testBit_without, testBit_without, Nat.testBit_two_pow, Nat.testBit_two_pow] at hb
        by_cases h1 : a = b
        · exact h1.symm
        · by_cases h2 : t = b
          · subst h2; rw [ha] at hab; cases hab
          · rw [decide_eq_false h1, decide_eq_false h2] at hb
            cases hx : (allN g).testBit b <;> rw [hx] at hb <;> cases hb
    exact hst (key h).symm
theorem sep_less (hg : GrB g) (hs : s < g.length) {X : Nat} (hX : X < 2 ^ g.length) (h : Sep g s t X) : pop X < g.length := by
  have h1 := pop_lt (a := X) (b := allN g) (i := s) (Nat.lt_of_lt_of_le (allN_lt g) hg.pow) (fun j hj => by rw [allN_bit, decide_eq_true (bit_lt hX hj)]) (by rw [allN_bit, decide_eq_true hs]) h.ms
  rw [pop_allN hg] at h1
  exact h1
theorem cutP_is (hg : GrB g) (hs : s < g.length) (hst : s ≠ t) (ha : adj g s t = false) : cutP g s t < 2 ^ g.length ∧ Sep g s t (cutP g s t) ∧ ∀ X, X < 2 ^ g.length → Sep g s t X → pop (cutP g s t) ≤ pop X := by
  obtain ⟨h1, h2, h3⟩ := foldC (g := g) (s := s) (t := t) (List.range (2 ^ g.length)) (allN g)
  have hr := sep_rest hg hst ha
  have hlt : del2 (allN g) s t < 2 ^ g.length := del2_lt (allN_lt g)
  have hp := h3 _ (List.mem_range.2 hlt) ((sepQ_iff hg hs).2 hr)
  have hq := sep_less hg hs hlt hr
  have h4 : cutP g s t ∈ List.range (2 ^ g.length) ∧ sepQ g s t (cutP g s t) = true := by
    rcases h1 with h | h
    · exfalso
      rw [h, pop_allN hg] at hp
      omega
    · exact h
  exact ⟨List.mem_range.1 h4.1, (sepQ_iff hg hs).1 h4.2, fun X hX hS => h3 X (List.mem_range.2 hX) ((sepQ_iff hg hs).2 hS)⟩
theorem MinSep.pop {k : Nat} (m : MinSep g s t k) (hg : GrB g) (hs : s < g.length) (hst : s ≠ t) (ha : adj g s t = false) : AM.pop (cutP g s t) = k := by
  obtain ⟨h1, h2, h3⟩ := cutP_is hg hs hst ha
  obtain ⟨⟨C, c1, c2, c3⟩, m2⟩ := m
  have := h3 C c1 c2
  have := m2 _ h1 h2
  omega
end
end Go.AM
end

section
namespace Go.AM
abbrev Spot := Nat × Bool
/-- Each spot is reached by one that was reached ahead of it. -/
structure SrI (A : Nat → Nat → Prop) (s : Nat) (F : Nat → Nat → Prop) (kv : List (Spot × Spot)) : Prop where
  nd : (kv.map (·.1)).Nodup
  step : ∀ (i : Nat) (y x : Spot), kv[i]? = some (y, x) → Ahead A s F x y ∧ y.1 ≠ s ∧ (x = (s, true) ∨ ∃ j z, j < i ∧ kv[j]? = some (x, z))
/-- What is reached. -/
def Rk (s : Nat) (kv : List (Spot × Spot)) (x : Spot) : Prop := x = (s, true) ∨ x ∈ kv.map (·.1)
/-- The spots from one back to the start. -/
inductive PK (s : Nat) (kv : List (Spot × Spot)) : Spot → List Spot → Prop
  | start : PK s kv (s, true) []
  | step {y x : Spot} {L : List Spot} : (y, x) ∈ kv → PK s kv x L → PK s kv y (x :: L)
def addL : Spot → List Spot → List (Nat × Nat)
  | _, [] => []
  | y, x :: L => if y.2 = true then addL x L else (x.1, y.1) :: addL x L
def cutL : Spot → List Spot → List (Nat × Nat)
  | _, [] => []
  | y, x :: L => if y.2 = true then (y.1, x.1) :: cutL x L else cutL x L
def turnL (F : Nat → Nat → Prop) (y : Spot) (L : List Spot) (v u : Nat) : Prop := (F v u ∧ (v, u) ∉ cutL y L) ∨ (v, u) ∈ addL y L
section
variable {A : Nat → Nat → Prop} {s t : Nat} {F : Nat → Nat → Prop} {kv : List (Spot × Spot)}
theorem SrI.nil : SrI A s F [] := ⟨List.nodup_nil, fun i y x h => by simp at h⟩
theorem SrI.push (r : SrI A s F kv) {x y : Spot} (ha : Ahead A s F x y) (hy : y.1 ≠ s) (hx : Rk s kv x) (hn : y ∉ kv.map (·.1)) : SrI A s F (kv ++ [(y, x)]) where
  nd := by
    rw [List.map_append, List.nodup_append]
    exact ⟨r.nd, by simp, fun a ha b hb e => hn (by simp at hb; rw [← hb, ← e]; exact ha)⟩
  step := fun i y' x' h => by
    rcases Nat.lt_or_ge i kv.length with hi | hi
    · rw [List.getElem?_append_left hi] at h
      obtain ⟨h1, h2, h3⟩ := r.step i y' x' h
      refine ⟨h1, h2, h3.imp id fun ⟨j, z, hj, hz⟩ => ⟨j, z, hj, ?_⟩⟩
      rw [List.getElem?_append_left (by omega)]; exact hz
    · have hi' : i = kv.length := by
        have := (List.getElem?_eq_some_iff.1 h).1
        simp at this; omega
      subst hi'
      rw [List.getElem?_append_right (Nat.le_refl _), Nat.sub_self] at h
      simp at h
      obtain ⟨rfl, rfl⟩ := h
      refine ⟨ha, hy, hx.imp id fun h => ?_⟩
      obtain ⟨p, hp, rfl⟩ := List.mem_map.1 h
      obtain ⟨j, hj⟩ := List.mem_iff_getElem?.1 hp
      have hlt := (List.getElem?_eq_some_iff.1 hj).1
      exact ⟨j, p.2, hlt, by rw [List.getElem?_append_left hlt]; exact hj⟩
theorem SrI.mem (r : SrI A s F kv) {y x : Spot} (h : (y, x) ∈ kv) : Ahead A s F x y ∧ y.1 ≠ s := by
  obtain ⟨i, hi⟩ := List.mem_iff_getElem?.1 h
  exact ⟨(r.step i y x hi).1, (r.step i y x hi).2.1⟩
theorem SrI.endW (r : SrI A s F kv) (hc : ∀ x, Rk s kv x → ∀ y, Ahead A s F x y → y.1 ≠ s → Rk s kv y) (hst : s ≠ t) (hn : ∀ p ∈ kv, p.1.1 ≠ t) : EndW A s t F (Rk s kv) where
  start := .inl rfl
  go := fun x y hx ha hy => hc x hx y ha hy
  by_ := fun x hx => by
    rcases hx with h | h
    · exact .inl h
    · obtain ⟨p, hp, rfl⟩ := List.mem_map.1 h
      obtain ⟨i, hi⟩ := List.mem_iff_getElem?.1 hp
      obtain ⟨h1, _, h3⟩ := r.step i p.1 p.2 hi
      refine .inr ⟨p.2, ?_, h1⟩
      rcases h3 with h | ⟨j, z, _, hj⟩
      · exact .inl h
      · exact .inr (List.mem_map.2 ⟨_, List.mem_of_getElem? hj, rfl⟩)
  no := fun h => by
    rcases h with h | h
    · cases h
    · obtain ⟨p, hp, h⟩ := List.mem_map.1 h
      exact hn p hp (by rw [h])
/-- From each spot that is reached there is a path back. -/
theorem SrI.path (r : SrI A s F kv) : ∀ (i : Nat) (y x : Spot), kv[i]? = some (y, x) → ∃ L, PK s kv y L ∧ (y :: L).Nodup ∧ ∀ z ∈ y :: L, z = (s, true) ∨ ∃ j z', j ≤ i ∧ kv[j]? = some (z, z') := by
  intro i
  induction i using Nat.strongRecOn with
  | ind i ih =>
    intro y x h
    obtain ⟨_, h2, h3⟩ := r.step i y x h
    have hys : y ≠ (s, true) := fun e => h2 (by rw [e])
    rcases h3 with rfl | ⟨j, z, hj, hz⟩
    · refine ⟨[(s, true)], .step (List.mem_of_getElem? h) .start, ?_, fun z hz => ?_⟩
      · rw [List.nodup_cons]
        exact ⟨by simpa using hys, by simp⟩
      · rcases List.mem_cons.1 hz with rfl | hz
        · exact .inr ⟨i, _, Nat.le_refl _, h⟩
        · exact .inl (List.mem_singleton.1 hz)
    · obtain ⟨L, l1, l2, l3⟩ := ih j hj x z hz
      refine ⟨x :: L, .step (List.mem_of_getElem? h) l1, ?_, fun w hw => ?_⟩
      · rw [List.nodup_cons]
        refine ⟨fun hm => ?_, l2⟩
        rcases l3 y hm with e | ⟨k, z', hk, hkz⟩
        · exact hys e
        · have h1 := (List.getElem?_eq_some_iff.1 h)
          have h2 := (List.getElem?_eq_some_iff.1 hkz)
          obtain ⟨a1, a2⟩ := h1
          obtain ⟨b1, b2⟩ := h2
          have := (List.getElem_inj (xs := kv.map (·.1)) (i := i) (j := k) (h₀ := by simpa using a1) (h₁ := by simpa using b1) r.nd).1 (by rw [List.getElem_map, List.getElem_map, a2, b2])
          omega
      · rcases List.mem_cons.1 hw with rfl | hw
        · exact .inr ⟨i, _, Nat.le_refl _, h⟩
        · rcases l3 w hw with e | ⟨k, z', hk, hkz⟩
          · exact .inl e
          · exact .inr ⟨k, z', by omega, hkz⟩
theorem PK.get {y : Spot} {L : List Spot} (h : PK s kv y L) : ∀ (k : Nat) (a b : Spot), (y :: L)[k]? = some a → (y :: L)[k + 1]? = some b → (a, b) ∈ kv := by
  induction h with
  | start => intro k a b _ hb; simp at hb
  | step h1 _ ih =>
    intro k a b ha hb
    cases k with
    | zero => simp at ha hb; subst ha; subst hb; exact h1
    | succ k =>
      rw [List.getElem?_cons_succ] at ha hb
      exact ih k a b ha hb
theorem PK.last {y : Spot} {L : List Spot} (h : PK s kv y L) : (y :: L)[L.length]? = some (s, true) := by
  induction h with
  | start => rfl
  | step _ _ ih => rw [List.length_cons, List.getElem?_cons_succ]; exact ih
theorem addL_cons (y x : Spot) (L : List Spot) : addL y (x :: L) = if y.2 = true then addL x L else (x.1, y.1) :: addL x L := rfl
theorem cutL_cons (y x : Spot) (L : List Spot) : cutL y (x :: L) = if y.2 = true then (y.1, x.1) :: cutL x L else cutL x L := rfl
theorem mem_addL : ∀ (L : List Spot) (y : Spot) (v u : Nat), (v, u) ∈ addL y L ↔ ∃ k x, (y :: L)[k]? = some (u, false) ∧ (y :: L)[k + 1]? = some x ∧ x.1 = v := by
  intro L
  induction L with
  | nil => intro y v u; simp [addL]
  | cons x L ih =>
    intro y v u
    have hsplit : (∃ k z, (y :: x :: L)[k]? = some (u, false) ∧ (y :: x :: L)[k + 1]? = some z ∧ z.1 = v) ↔ ((y = (u, false) ∧ x.1 = v) ∨ ∃ k z, (x :: L)[k]? = some (u, false) ∧ (x :: L)[k + 1]? = some z ∧ z.1 = v) := by
      constructor
      · rintro ⟨k, z, h1, h2, h3⟩
        cases k with
        | zero => simp at h1 h2; subst h2; exact .inl ⟨h1, h3⟩
        | succ k => exact .inr ⟨k, z, by simpa using h1, by simpa using h2, h3⟩
      · rintro (⟨h1, h3⟩ | ⟨k, z, h1, h2, h3⟩)
        · exact ⟨0, x, by simpa using h1, by simp, h3⟩
        · exact ⟨k + 1, z, by simpa using h1, by simpa using h2, h3⟩
    rw [hsplit, ← ih, addL_cons]
    obtain ⟨a, b⟩ := y
    cases b with
    | true => simp
    | false =>
      simp only [Bool.false_eq_true, if_false, List.mem_cons, Prod.mk.injEq, and_true]
      exact ⟨fun h => h.imp (fun h => ⟨h.2.symm, h.1.symm⟩) id, fun h => h.imp (fun h => ⟨h.2.symm, h.1.symm⟩) id⟩
theorem mem_cutL : ∀ (L : List Spot) (y : Spot) (v u : Nat), (v, u) ∈ cutL y L ↔ ∃ k x, (y :: L)[k]? = some (v, true) ∧ (y :: L)[k + 1]? = some x ∧ x.1 = u := by
  intro L
  induction L with
  | nil => intro y v u; simp [cutL]
  | cons x L ih =>
    intro y v u
    have hsplit : (∃ k z, (y :: x :: L)[k]? = some (v, true) ∧ (y :: x :: L)[k + 1]? = some z ∧ z.1 = u) ↔ ((y = (v, true) ∧ x.1 = u) ∨ ∃ k z, (x :: L)[k]? = some (v, true) ∧ (x :: L)[k + 1]? = some z ∧ z.1 = u) := by
      constructor
      · rintro ⟨k, z, h1, h2, h3⟩
        cases k with
        | zero => simp at h1 h2; subst h2; exact .inl ⟨h1, h3⟩
        | succ k => exact .inr ⟨k, z, by simpa using h1, by simpa using h2, h3⟩
      · rintro (⟨h1, h3⟩ | ⟨k, z, h1, h2, h3⟩)
        · exact ⟨0, x, by simpa using h1, by simp, h3⟩
        · exact ⟨k + 1, z, by simpa using h1, by simpa using h2, h3⟩
    rw [hsplit, ← ih, cutL_cons]
    obtain ⟨a, b⟩ := y
    cases b with
    | false => simp
    | true =>
      simp only [if_true, List.mem_cons, Prod.mk.injEq, and_true]
      exact ⟨fun h => h.imp (fun h => ⟨h.1.symm, h.2.symm⟩) id, fun h => h.imp (fun h => ⟨h.1.symm, h.2.symm⟩) id⟩
/-- The path of a search that reached t. -/
theorem SrI.turn (r : SrI A s F kv) (f : FlW A s t F) (hst : s ≠ t) (ht : ∀ p ∈ kv, p.1.1 = t → p.1 = (t, false)) {x : Spot} (hx : ((t, false), x) ∈ kv) :
    ∃ L, PK s kv (t, false) L ∧ L.length ≤ kv.length ∧ FlW A s t (turnL F (t, false) L) ∧ ∃ u0, ¬ F s u0 ∧ A s u0 ∧ u0 ≠ s ∧ ∀ u, turnL F (t, false) L s u ↔ F s u ∨ u = u0 := by
  obtain ⟨i, hi⟩ := List.mem_iff_getElem?.1 hx
  obtain ⟨L, l1, l2, l3⟩ := r.path i _ _ hi
  let m := L.length
  let P : Nat → Spot := fun i => ((t, false) :: L).getD (m - i) (s, true)
  have hget : ∀ i, i ≤ m → ((t, false) :: L)[m - i]? = some (P i) := by
    intro i hi
    show _ = some (((t, false) :: L).getD (m - i) (s, true))
    rw [List.getD_eq_getElem?_getD, List.getElem?_eq_getElem (by simp only [List.length_cons]; omega)]
    rfl
  have hmem : ∀ i, i < m → (P (i + 1), P i) ∈ kv := by
    intro i hi
    have h1 := hget (i + 1) (by omega)
    have h2 := hget i (by omega)
    rw [show m - i = m - (i + 1) + 1 by omega] at h2
    exact l1.get _ _ _ h1 h2
  have hpos : ∀ (k : Nat) (a : Spot), ((t, false) :: L)[k]? = some a → k ≤ m ∧ P (m - k) = a := by
    intro k a h
    have hk : k ≤ m := by have := (List.getElem?_eq_some_iff.1 h).1; simp only [List.length_cons] at this; omega
    refine ⟨hk, ?_⟩
    have := hget (m - k) (by omega)
    rw [show m - (m - k) = k by omega, h] at this
    cases this; rfl
  have hinj : ∀ i j, i ≤ m → j ≤ m → P i = P j → i = j := by
    intro i j hi hj e
    have h1 := List.getElem?_eq_some_iff.1 (hget i hi)
    have h2 := List.getElem?_eq_some_iff.1 (hget j hj)
    obtain ⟨a1, a2⟩ := h1
    obtain ⟨b1, b2⟩ := h2
    have := (List.getElem_inj (xs := (t, false) :: L) (i := m - i) (j := m - j) (h₀ := a1) (h₁ := b1) l2).1 (by rw [a2, b2, e])
    omega
  have hlast : P m = (t, false) := by
    have := hget m (Nat.le_refl _)
    rw [Nat.sub_self] at this
    simp at this
    exact this.symm
  have p : PathW A s t F P m := by
    refine ⟨fun i hi => (r.mem (hmem i hi)).1, ?_, hlast, hinj, fun i h0 hi => ?_, fun i hi e => ?_⟩
    · have := hget 0 (Nat.zero_le _)
      rw [Nat.sub_zero] at this
      rw [l1.last] at this
      exact (Option.some.inj this).symm
    · obtain ⟨j, rfl⟩ : ∃ j, i = j + 1 := ⟨i - 1, by omega⟩
      exact (r.mem (hmem j (by omega))).2
    · rcases Nat.eq_zero_or_pos i with h0 | h0
      · subst h0
        have := hget 0 (Nat.zero_le _)
        rw [Nat.sub_zero] at this
        rw [l1.last] at this
        have h0 := Option.some.inj this
        rw [← h0] at e
        exact hst e
      · obtain ⟨j, rfl⟩ : ∃ j, i = j + 1 := ⟨i - 1, by omega⟩
        have h1 := ht _ (hmem j (by omega)) e
        have := hinj (j + 1) m (by omega) (Nat.le_refl _) (by rw [hlast]; exact h1)
        omega
  have hadd : ∀ v u, addW P m v u ↔ (v, u) ∈ addL (t, false) L := by
    intro v u
    rw [mem_addL]
    constructor
    · rintro ⟨i, hi, h1, h2⟩
      refine ⟨m - (i + 1), P i, ?_, ?_, h1⟩
      · rw [hget (i + 1) (by omega), h2]
      · rw [show m - (i + 1) + 1 = m - i by omega]; exact hget i (by omega)
    · rintro ⟨k, z, h1, h2, h3⟩
      obtain ⟨hk, e1⟩ := hpos k _ h1
      obtain ⟨hk2, e2⟩ := hpos (k + 1) _ h2
      refine ⟨m - (k + 1), by omega, by rw [e2]; exact h3, ?_⟩
      rw [show m - (k + 1) + 1 = m - k by omega]; exact e1
  have hcut : ∀ v u, cutW P m v u ↔ (v, u) ∈ cutL (t, false) L := by
    intro v u
    rw [mem_cutL]
    constructor
    · rintro ⟨i, hi, h1, h2⟩
      refine ⟨m - (i + 1), P i, ?_, ?_, h2⟩
      · rw [hget (i + 1) (by omega), h1]
      · rw [show m - (i + 1) + 1 = m - i by omega]; exact hget i (by omega)
    · rintro ⟨k, z, h1, h2, h3⟩
      obtain ⟨hk, e1⟩ := hpos k _ h1
      obtain ⟨hk2, e2⟩ := hpos (k + 1) _ h2
      refine ⟨m - (k + 1), by omega, ?_, by rw [e2]; exact h3⟩
      rw [show m - (k + 1) + 1 = m - k by omega]; exact e1
  have htu : turnW F P m = turnL F (t, false) L := by
    funext v u
    unfold turnW turnL
    rw [hadd, hcut]
  have hlen : L.length ≤ kv.length := by
    have h1 : ((t, false) :: L).length ≤ ((s, true) :: kv.map (·.1)).length := by
      refine List.Nodup.length_le_of_subset l2 fun z hz => ?_
      rcases l3 z hz with e | ⟨j, z', _, h⟩
      · rw [e]; exact List.mem_cons_self
      · exact List.mem_cons_of_mem _ (List.mem_map.2 ⟨_, List.mem_of_getElem? h, rfl⟩)
    simp only [List.length_cons, List.length_map] at h1
    omega
  refine ⟨L, l1, hlen, ?_, ?_⟩
  · rw [← htu]; exact turn_ok f p
  · rw [← htu]; exact turn_first p
end
end Go.AM
end

section
namespace Go.AM
open Go.Proofs
/-- The arcs of a state. -/
def flS (s first : Nat) (nx : List Int) (v u : Nat) : Prop := (v = s ∧ first.testBit u = true) ∨ (v ≠ s ∧ nx[v]? = some (u : Int))
structure StW (g : List Nat) (s t first : Nat) (nx : List Int) (bf : List Value) : Prop where
  fl : FlW (adjP g) s t (flS s first nx)
  fb : first < 2 ^ g.length
  nxl : nx.length = g.length
  nxv : ∀ x ∈ nx, x = -1 ∨ 0 ≤ x
  nxs : nx[s]? = some (-1)
  bfl : bf.length = g.length
  bfv : ∀ v u, flS s first nx v u → u ≠ t → bf[u]? = some (iv v)
section
variable {g : List Nat} {s t first : Nat} {nx : List Int} {bf : List Value}
theorem flS_zero (s : Nat) (n : Nat) (v u : Nat) : ¬ flS s 0 (List.replicate n (-1)) v u := by
  rintro (⟨_, h⟩ | ⟨_, h⟩)
  · simp at h
  · rw [List.getElem?_replicate] at h
    split at h
    · simp only [Option.some.injEq] at h; omega
    · cases h
theorem StW.zero (g : List Nat) {s t : Nat} (hs : s < g.length) : StW g s t 0 (List.replicate g.length (-1)) (List.replicate g.length (iv (-1))) where
  fl := ⟨fun v u h => (flS_zero _ _ _ _ h).elim, fun v h => flS_zero _ _ _ _ h, fun u h => flS_zero _ _ _ _ h, fun v u u' _ h => (flS_zero _ _ _ _ h).elim, fun v v' u _ h => (flS_zero _ _ _ _ h).elim, fun v _ _ => ⟨fun ⟨u, h⟩ => (flS_zero _ _ _ _ h).elim, fun ⟨u, h⟩ => (flS_zero _ _ _ _ h).elim⟩⟩
  fb := Nat.two_pow_pos _
  nxl := List.length_replicate
  nxv := fun x hx => .inl (List.eq_of_mem_replicate hx)
  nxs := by rw [List.getElem?_replicate, if_pos hs]
  bfl := List.length_replicate
  bfv := fun v u h => (flS_zero _ _ _ _ h).elim
/-- Is a way through it? -/
def onW (s : Nat) (nx : List Int) (v : Nat) : Bool := decide (v ≠ s) && decide (0 ≤ nx.getD v (-1))
theorem StW.on (w : StW g s t first nx bf) {v : Nat} : onW s nx v = true ↔ v ≠ s ∧ ∃ u, flS s first nx v u := by
  unfold onW
  rw [Bool.and_eq_true, decide_eq_true_iff, decide_eq_true_iff, List.getD_eq_getElem?_getD]
  constructor
  · rintro ⟨h1, h2⟩
    refine ⟨h1, ?_⟩
    cases h : nx[v]? with
    | none => rw [h] at h2; simp at h2
    | some x =>
      rw [h] at h2
      simp only [Option.getD_some] at h2
      exact ⟨x.toNat, .inr ⟨h1, by rw [h, Int.toNat_of_nonneg h2]⟩⟩
  · rintro ⟨h1, u, ⟨h, _⟩ | ⟨_, h⟩⟩
    · exact absurd h h1
    · rw [h]; exact ⟨h1, by simp⟩
open Classical in
/-- The node ahead of it. -/
noncomputable def predW (s first : Nat) (nx : List Int) (v : Nat) : Nat := if h : ∃ p, flS s first nx p v then h.choose else 0
theorem predW_is {v : Nat} (h : ∃ p, flS s first nx p v) : flS s first nx (predW s first nx v) v := by
  unfold predW
  rw [dif_pos h]
  exact h.choose_spec
theorem StW.back (w : StW g s t first nx bf) {v : Nat} (h : onW s nx v = true) : v ≠ t ∧ flS s first nx (predW s first nx v) v ∧ bf[v]? = some (iv (predW s first nx v : Nat)) ∧ ∀ p, flS s first nx p v → p = predW s first nx v := by
  obtain ⟨h1, u, h2⟩ := w.on.1 h
  have hvt : v ≠ t := fun e => w.fl.nt u (e ▸ h2)
  have h3 := predW_is ((w.fl.io v h1 hvt).1 ⟨u, h2⟩)
  exact ⟨hvt, h3, w.bfv _ _ h3 hvt, fun p hp => w.fl.in1 _ _ _ hvt hp h3⟩
/-- Is it the next node already? -/
def usedW (s first : Nat) (nx : List Int) (v u : Nat) : Bool := (decide (v = s) && first.testBit u) || (onW s nx v && decide (nx.getD v (-1) = (u : Int)))
theorem StW.used (w : StW g s t first nx bf) {v u : Nat} : usedW s first nx v u = true ↔ flS s first nx v u := by
  unfold usedW
  rw [Bool.or_eq_true, Bool.and_eq_true, Bool.and_eq_true, decide_eq_true_iff, decide_eq_true_iff, w.on, List.getD_eq_getElem?_getD]
  constructor
  · rintro (h | ⟨⟨h1, _⟩, h2⟩)
    · exact .inl h
    · right
      refine ⟨h1, ?_⟩
      cases h : nx[v]? with
      | none => rw [h] at h2; simp only [Option.getD_none] at h2; omega
      | some x => rw [h] at h2; simp only [Option.getD_some] at h2; rw [h2]
  · intro hh
    rcases hh with h | ⟨h1, h2⟩
    · exact .inl h
    · exact .inr ⟨⟨h1, u, .inr ⟨h1, h2⟩⟩, by rw [h2]; rfl⟩
theorem StW.unused (w : StW g s t first nx bf) {v u : Nat} : usedW s first nx v u = false ↔ ¬ flS s first nx v u := by rw [← w.used, Bool.not_eq_true]
/-- The spots that a search reaches along new edges. -/
def fwdL (g : List Nat) (s first : Nat) (nx : List Int) (v : Nat) : List Spot := ((elts (nb g v)).filter fun u => decide (u ≠ s) && !usedW s first nx v u).map fun u => (u, false)
noncomputable def aheadL (g : List Nat) (s first : Nat) (nx : List Int) (x : Spot) : List Spot :=
  if onW s nx x.1 = true then (if x.2 = true then (predW s first nx x.1, true) :: fwdL g s first nx x.1 else [(predW s first nx x.1, true)]) else fwdL g s first nx x.1
theorem StW.mem_fwd (w : StW g s t first nx bf) (hg : GrB g) {v : Nat} {y : Spot} : y ∈ fwdL g s first nx v ↔ ∃ u, y = (u, false) ∧ adjP g v u ∧ u ≠ s ∧ ¬ flS s first nx v u := by
  have hb : nb g v < 1024 := Nat.lt_of_lt_of_le (hg.nb_lt v) hg.pow
  unfold fwdL
  rw [List.mem_map]
  constructor
  · rintro ⟨u, h, rfl⟩
    obtain ⟨h1, h2⟩ := List.mem_filter.1 h
    rw [Bool.and_eq_true, decide_eq_true_iff, Bool.not_eq_true', w.unused] at h2
    exact ⟨u, rfl, (mem_elts hb).1 h1, h2⟩
  · rintro ⟨u, rfl, h1, h2, h3⟩
    refine ⟨u, List.mem_filter.2 ⟨(mem_elts hb).2 h1, ?_⟩, rfl⟩
    rw [Bool.and_eq_true, decide_eq_true_iff, Bool.not_eq_true', w.unused]
    exact ⟨h2, h3⟩
theorem StW.ahead (w : StW g s t first nx bf) (hg : GrB g) {x y : Spot} : y ∈ aheadL g s first nx x ↔ Ahead (adjP g) s (flS s first nx) x y := by
  obtain ⟨v, b⟩ := x
  have hmk : ∀ (hw : v ≠ s → (∃ u, flS s first nx v u) → b = true), y ∈ fwdL g s first nx v → Ahead (adjP g) s (flS s first nx) (v, b) y := by
    intro hw h
    obtain ⟨u, rfl, h1, h2, h3⟩ := (w.mem_fwd hg).1 h
    exact .fwd hw h1 h2 h3
  unfold aheadL
  simp only
  by_cases ho : onW s nx v = true
  · obtain ⟨h1, h2⟩ := w.on.1 ho
    obtain ⟨_, h3, _, h5⟩ := w.back ho
    rw [if_pos ho]
    cases b with
    | true =>
      simp only [if_true, List.mem_cons]
      constructor
      · rintro (rfl | h)
        · exact .back h1 h2 h3
        · exact hmk (fun _ _ => rfl) h
      · intro h
        cases h with
        | back _ _ hp => rw [h5 _ hp]; exact .inl rfl
        | fwd hw ha hu hf => exact .inr ((w.mem_fwd hg).2 ⟨_, rfl, ha, hu, hf⟩)
    | false =>
      simp only [Bool.false_eq_true, if_false, List.mem_singleton]
      constructor
      · rintro rfl
        exact .back h1 h2 h3
      · intro h
        cases h with
        | back _ _ hp => rw [h5 _ hp]
        | fwd hw ha hu hf => cases hw h1 h2
  · rw [if_neg ho]
    constructor
    · exact hmk fun h1 h2 => absurd (w.on.2 ⟨h1, h2⟩) ho
    · intro h
      cases h with
      | back h1 h2 _ => exact absurd (w.on.2 ⟨h1, h2⟩) ho
      | fwd hw ha hu hf => exact (w.mem_fwd hg).2 ⟨_, rfl, ha, hu, hf⟩
open Classical in
noncomputable def firstOf (n s : Nat) (p : Nat → Nat → Prop) : Nat := mkS (fun u => decide (p s u)) n
open Classical in
noncomputable def nxAt (s : Nat) (p : Nat → Nat → Prop) (v : Nat) : Int := if h : v ≠ s ∧ ∃ u, p v u then (h.2.choose : Int) else -1
open Classical in
noncomputable def bfAt (t : Nat) (p : Nat → Nat → Prop) (x : Value) (u : Nat) : Value := if u = t then x else if h : ∃ v, p v u then iv (h.choose : Nat) else iv (-1)
noncomputable def nxOf (n s : Nat) (p : Nat → Nat → Prop) : List Int := (List.range n).map (nxAt s p)
noncomputable def bfOf (n t : Nat) (p : Nat → Nat → Prop) (x : Value) : List Value := (List.range n).map (bfAt t p x)
/-- Arcs of which each node has at most one out and one in. -/
structure OneW (s t : Nat) (p : Nat → Nat → Prop) : Prop where
  out1 : ∀ v u u', v ≠ s → p v u → p v u' → u = u'
  in1 : ∀ v v' u, u ≠ t → p v u → p v' u → v = v'
/-- One arc more. -/
def orArc (p : Nat → Nat → Prop) (a b v u : Nat) : Prop := p v u ∨ (v = a ∧ u = b)
variable {p : Nat → Nat → Prop} {n : Nat}
theorem nxAt_is {v u : Nat} (hv : v ≠ s) (h : p v u) (h1 : ∀ u', p v u' → u' = u) : nxAt s p v = (u : Int) := by
  unfold nxAt
  have hx : v ≠ s ∧ ∃ u, p v u := ⟨hv, u, h⟩
  rw [dif_pos hx, h1 _ hx.2.choose_spec]
theorem nxAt_none {v : Nat} (h : v = s ∨ ∀ u, ¬ p v u) : nxAt s p v = -1 := by
  unfold nxAt
  rw [dif_neg]
  rintro ⟨h1, u, h2⟩
  rcases h with h | h
  · exact h1 h
  · exact h u h2
theorem bfAt_is {v u : Nat} {x : Value} (hu : u ≠ t) (h : p v u) (h1 : ∀ v', p v' u → v' = v) : bfAt t p x u = iv (v : Nat) := by
  unfold bfAt
  have hx : ∃ v, p v u := ⟨v, h⟩
  rw [if_neg hu, dif_pos hx, h1 _ hx.choose_spec]
theorem bfAt_none {u : Nat} {x : Value} (hu : u ≠ t) (h : ∀ v, ¬ p v u) : bfAt t p x u = iv (-1) := by
  unfold bfAt
  rw [if_neg hu, dif_neg]
  rintro ⟨v, h2⟩
  exact h v h2
theorem bfAt_t {x : Value} : bfAt t p x t = x := by unfold bfAt; rw [if_pos rfl]
theorem firstOf_bit {u : Nat} : (firstOf n s p).testBit u = true ↔ u < n ∧ p s u := by
  unfold firstOf
  rw [mkS_bit, Bool.and_eq_true]
  simp only [decide_eq_true_eq]
theorem first_or {b : Nat} (hb : b < n) : firstOf n s (orArc p s b) = firstOf n s p ||| 2 ^ b := by
  refine set_ext (n := n) (mkS_lt _ _) (Nat.or_lt_two_pow (mkS_lt _ _) (Nat.pow_lt_pow_right (by omega) hb)) fun i hi => ?_
  rw [Bool.eq_iff_iff, Nat.testBit_or, Bool.or_eq_true, firstOf_bit, firstOf_bit, Nat.testBit_two_pow, decide_eq_true_iff]
  unfold orArc
  constructor
  · rintro ⟨_, h | ⟨_, h⟩⟩
    · exact .inl ⟨hi, h⟩
    · exact .inr h.symm
  · rintro (⟨_, h⟩ | h)
    · exact ⟨hi, .inl h⟩
    · exact ⟨hi, .inr ⟨rfl, h.symm⟩⟩
theorem first_same {a b : Nat} (ha : a ≠ s) : firstOf n s (orArc p a b) = firstOf n s p := by
  refine set_ext (n := n) (mkS_lt _ _) (mkS_lt _ _) fun i hi => ?_
  rw [Bool.eq_iff_iff, firstOf_bit, firstOf_bit]
  unfold orArc
  exact ⟨fun h => ⟨hi, h.2.elim id fun e => absurd e.1.symm ha⟩, fun h => ⟨hi, .inl h.2⟩⟩
theorem nxAt_congr {p' : Nat → Nat → Prop} {v : Nat} (h1 : ∀ u u', v ≠ s → p v u → p v u' → u = u') (h : ∀ u, v ≠ s → (p' v u ↔ p v u)) : nxAt s p' v = nxAt s p v := by
  by_cases hv : v = s
  · rw [nxAt_none (.inl hv), nxAt_none (.inl hv)]
  · by_cases hx : ∃ u, p v u
    · obtain ⟨u, hu⟩ := hx
      rw [nxAt_is hv hu fun u' h' => h1 _ _ hv h' hu, nxAt_is hv ((h u hv).2 hu) fun u' h' => h1 _ _ hv ((h u' hv).1 h') hu]
    · rw [nxAt_none (.inr fun u hu => hx ⟨u, hu⟩), nxAt_none (.inr fun u hu => hx ⟨u, (h u hv).1 hu⟩)]
theorem bfAt_congr {p' : Nat → Nat → Prop} {u : Nat} {x x' : Value} (hu : u ≠ t) (h1 : ∀ v v', p v u → p v' u → v = v') (h : ∀ v, p' v u ↔ p v u) : bfAt t p' x' u = bfAt t p x u := by
  by_cases hx : ∃ v, p v u
  · obtain ⟨v, hv⟩ := hx
    rw [bfAt_is hu hv fun v' h' => h1 _ _ h' hv, bfAt_is hu ((h v).2 hv) fun v' h' => h1 _ _ ((h v').1 h') hv]
  · rw [bfAt_none hu fun v hv => hx ⟨v, hv⟩, bfAt_none hu fun v hv => hx ⟨v, (h v).1 hv⟩]
theorem nxOf_get {v : Nat} (hv : v < n) : (nxOf n s p)[v]? = some (nxAt s p v) := by
  unfold nxOf
  rw [List.getElem?_map, List.getElem?_range hv]; rfl
theorem bfOf_get {u : Nat} {x : Value} (hu : u < n) : (bfOf n t p x)[u]? = some (bfAt t p x u) := by
  unfold bfOf
  rw [List.getElem?_map, List.getElem?_range hu]; rfl
theorem nxOf_len : (nxOf n s p).length = n := by simp [nxOf]
theorem bfOf_len {x : Value} : (bfOf n t p x).length = n := by simp [bfOf]
theorem nx_same {b : Nat} (o : OneW s t p) : nxOf n s (orArc p s b) = nxOf n s p := by
  unfold nxOf
  refine List.map_congr_left fun v _ => nxAt_congr (fun u u' hv => o.out1 v u u' hv) fun u hv => ?_
  unfold orArc
  exact ⟨fun h => h.elim id fun e => absurd e.1 hv, .inl⟩
theorem nxOf_set {a b : Nat} (ha : a ≠ s) (o : OneW s t (orArc p a b)) : nxOf n s (orArc p a b) = (nxOf n s p).set a (b : Int) := by
  refine List.ext_getElem? fun i => ?_
  rw [List.getElem?_set]
  by_cases hi : i < n
  · rw [nxOf_get hi]
    by_cases e : a = i
    · subst e
      rw [if_pos rfl, if_pos (by rw [nxOf_len]; exact hi)]
      have h : orArc p a b a b := .inr ⟨rfl, rfl⟩
      rw [nxAt_is ha h fun u' h' => o.out1 _ _ _ ha h' h]
    · rw [if_neg e, nxOf_get hi]
      refine congrArg some (nxAt_congr (fun u u' hv h h' => o.out1 _ _ _ hv (.inl h) (.inl h')) fun u _ => ?_)
      unfold orArc
      exact ⟨fun h => h.elim id fun e' => absurd e'.1.symm e, .inl⟩
  · have h1 : ∀ q : Nat → Nat → Prop, (nxOf n s q)[i]? = none := fun q => List.getElem?_eq_none (by rw [nxOf_len]; omega)
    rw [h1, h1]
    split
    · rw [if_neg (by rw [nxOf_len]; omega)]
    · rfl
theorem bfOf_set {a b : Nat} {x : Value} (o : OneW s t (orArc p a b)) : bfOf n t (orArc p a b) (if b = t then iv (a : Nat) else x) = (bfOf n t p x).set b (iv (a : Nat)) := by
  obtain ⟨y, hy⟩ : ∃ y, y = (if b = t then iv (a : Nat) else x) := ⟨_, rfl⟩
  rw [← hy]
  refine List.ext_getElem? fun i => ?_
  rw [List.getElem?_set]
  by_cases hi : i < n
  · rw [bfOf_get hi]
    by_cases e : b = i
    · subst e
      rw [if_pos rfl, if_pos (by rw [bfOf_len]; exact hi)]
      by_cases hb : b = t
      · subst hb
        rw [bfAt_t, hy, if_pos rfl]
      · have h : orArc p a b a b := .inr ⟨rfl, rfl⟩
        rw [bfAt_is hb h fun v' h' => o.in1 _ _ _ hb h' h]
    · rw [if_neg e, bfOf_get hi]
      by_cases hit : i = t
      · subst hit
        rw [bfAt_t, bfAt_t, hy, if_neg e]
      · refine congrArg some (bfAt_congr hit (fun v v' h h' => o.in1 _ _ _ hit (.inl h) (.inl h')) fun v => ?_)
        unfold orArc
        exact ⟨fun h => h.elim id fun e' => absurd e'.2.symm e, .inl⟩
  · have h1 : ∀ (q : Nat → Nat → Prop) (y : Value), (bfOf n t q y)[i]? = none := fun q y => List.getElem?_eq_none (by rw [bfOf_len]; omega)
    rw [h1, h1]
    split
    · rw [if_neg (by rw [bfOf_len]; omega)]
    · rfl
/-- The state that is laid in the end. -/
theorem StW.of {g : List Nat} {F : Nat → Nat → Prop} (f : FlW (adjP g) s t F) (hg : GrB g) (hs : s < g.length) (x : Value) :
    StW g s t (firstOf g.length s F) (nxOf g.length s F) (bfOf g.length t F x) ∧ ∀ v u, flS s (firstOf g.length s F) (nxOf g.length s F) v u ↔ F v u := by
  have key : ∀ v u, flS s (firstOf g.length s F) (nxOf g.length s F) v u ↔ F v u := by
    intro v u
    unfold flS
    constructor
    · rintro (⟨rfl, h⟩ | ⟨hv, h⟩)
      · exact (firstOf_bit.1 h).2
      · have hvn : v < g.length := by have := (List.getElem?_eq_some_iff.1 h).1; rw [nxOf_len] at this; exact this
        rw [nxOf_get hvn, Option.some.injEq] at h
        by_cases hx : ∃ u, F v u
        · obtain ⟨u', hu'⟩ := hx
          rw [nxAt_is hv hu' fun w hw => f.out1 _ _ _ hv hw hu'] at h
          have : u' = u := by omega
          rw [← this]; exact hu'
        · rw [nxAt_none (.inr fun u hu => hx ⟨u, hu⟩)] at h
          omega
    · intro h
      obtain ⟨h1, h2⟩ := hg.adj_lt (f.sub _ _ h)
      by_cases hv : v = s
      · subst hv
        exact .inl ⟨rfl, firstOf_bit.2 ⟨h2, h⟩⟩
      · exact .inr ⟨hv, by rw [nxOf_get h1, nxAt_is hv h fun w hw => f.out1 _ _ _ hv hw h]⟩
  have hF : flS s (firstOf g.length s F) (nxOf g.length s F) = F := by funext v u; exact propext (key v u)
  refine ⟨⟨by rw [hF]; exact f, mkS_lt _ _, nxOf_len, fun y hy => ?_, ?_, bfOf_len, fun v u h hu => ?_⟩, key⟩
  · obtain ⟨v, _, rfl⟩ := List.mem_map.1 hy
    by_cases hx : v ≠ s ∧ ∃ u, F v u
    · obtain ⟨hv, u, hu⟩ := hx
      right
      rw [nxAt_is hv hu fun w hw => f.out1 _ _ _ hv hw hu]; omega
    · left
      refine nxAt_none ?_
      by_cases hv : v = s
      · exact .inl hv
      · exact .inr fun u hu => hx ⟨hv, u, hu⟩
  · rw [nxOf_get hs, nxAt_none (.inl rfl)]
  · rw [hF] at h
    rw [bfOf_get (hg.adj_lt (f.sub _ _ h)).2, bfAt_is hu h fun v' hv' => f.in1 _ _ _ hu hv' h]
/-- What a state holds at s: as_ many ways. -/
theorem StW.count {g : List Nat} {bf : List Value} {first : Nat} {nx : List Int} (w : StW g s t first nx bf) (hg : GrB g) : cntN g.length (flS s first nx s) = pop first := by
  rw [← cnt_pop hg w.fb]
  refine cnt_congr fun u _ => ?_
  unfold flS
  exact ⟨fun h => h.elim And.right fun h => absurd rfl h.1, fun h => .inl ⟨rfl, h⟩⟩
/-- A way: its nodes behind s. -/
structure WayW (F : Nat → Nat → Prop) (s t n u : Nat) (w : List Nat) : Prop where
  first : F s u
  chain : chainA F u w t
  len : w.length ≤ n
theorem StW.ways {g : List Nat} {bf : List Value} {first : Nat} {nx : List Int} (w : StW g s t first nx bf) (hg : GrB g) : ∃ f : Nat → List Nat, ∀ u ∈ elts first, WayW (flS s first nx) s t g.length u (f u) := by
  have h : ∀ u, ∃ l, u ∈ elts first → WayW (flS s first nx) s t g.length u l := by
    intro u
    by_cases hu : u ∈ elts first
    · have hb := (mem_elts (Nat.lt_of_lt_of_le w.fb hg.pow)).1 hu
      have hF : flS s first nx s u := .inl ⟨rfl, hb⟩
      obtain ⟨l, h1, h2⟩ := w.fl.way (n := g.length) (fun v u h => hg.adj_lt h) hF
      exact ⟨l, fun _ => ⟨hF, h1, h2⟩⟩
    · exact ⟨[], fun h => absurd h hu⟩
  exact ⟨fun u => (h u).choose, fun u hu => (h u).choose_spec hu⟩
end
end Go.AM
end

section
namespace Go.AM
open Go.Proofs
variable {R : Type}
attribute [local simp] nx_eq nx_new nx_set blk_new blk_set asI_int asK_int asB_bool asP_ptr al_eq bx_eq len_slice onE_exit onE_ret onR_ret Value.cells d3 d22 d78 w3 cell_new cell_set rd_new rd_set off eq lt le ifB gv out ext20 ext21
theorem zero3 : zero? Tryd.prog 3 = some (iv 0) := by kernel_rfl
end Go.AM
end

section
namespace Go.AM
open Go.Proofs
variable {R : Type}
attribute [local simp] nx_eq nx_new nx_set blk_new blk_set asI_int asK_int asB_bool asP_ptr al_eq bx_eq len_slice onE_exit onE_ret onR_ret Value.cells cell_new cell_set rd_new rd_set off eq lt le ifB gv out ext20 ext21
theorem eqN {a b : Nat} : AM.eq (a : Int) (b : Int) = decide (a = b) := by
  by_cases h : a = b <;> simp [h] <;> omega
end Go.AM
end

section
namespace Go.AM
open Go.Proofs
noncomputable def f38 (_rec : Rec) (_k : Nat) (v0 : Value) (n0 : Int) (h0 : H) : Option (Value × H) :=
 ifB (le 0 n0) (
 len v0 fun n1 =>
 some ((.bool (lt n0 n1)), h0)) (
 some ((.bool false), h0))
theorem e38 (rec : Rec) (k : Nat) (v0 : Value) (n0 : Int) (h : H) : bodyT Tryd.prog E0 SC (XC Tryd.prog rec k) 38 (Value × H) [.opq v0, .int .i64 n0] h (fun v h => some (v, h)) = f38 rec k v0 n0 h := by kernel_rfl
theorem t38 {k : Nat} {v0 : Value} {n0 : Int} {h h1 : H} {v : Value} (hh : f38 rn k v0 n0 h = some (v, h1)) : rn 38 #[v0, .int .i64 n0] h = some (v, trunc Tryd.prog h h1 v) :=
  run_of_bodyT (args := [.opq v0, .int .i64 n0]) rfl ((e38 _ _ _ _ _).trans hh)
theorem p38 {k : Nat} {v0 : Value} {n0 : Int} {h h1 : H} {v : Value} (hh : f38 rn k v0 n0 h = some (v, h1)) (hp : plainO v = true) (x : Ext h h1) : rn 38 #[v0, .int .i64 n0] h = some (v, h) := by rw [t38 hh, trunc_pure hp x]
end Go.AM
end

section
namespace Go.AM
open Go.Proofs
variable {R : Type}
attribute [local simp] nx_eq nx_new nx_set blk_new blk_set asI_int asK_int asB_bool asP_ptr al_eq bx_eq len_slice onE_exit onE_ret onR_ret Value.cells cell_new cell_set rd_new rd_set off eq lt le ifB gv out ext20 ext21
theorem eqN' {a b : Nat} : AM.eq (a : Int) (b : Int) = decide (a = b) := eqN
theorem or_calc2 {n B u : Nat} (hn : n ≤ 10) (hB : B < 2 ^ n) (hu : u < n) : AM.or .i64 (B : Int) (AM.shl .i64 1 (u : Int)) = ((B ||| 2 ^ u : Nat) : Int) := by
  have h2 : 2 ^ n ≤ 1024 := Nat.pow_le_pow_right (n := 2) (by omega) hn
  have h3 : 2 ^ u < 1024 := Nat.lt_of_lt_of_le (Nat.pow_lt_pow_right (by omega) hu) h2
  rw [shl1_nat (by omega), or_nat (by omega) (by omega)]
end Go.AM
end

section
namespace Go.AM
open Go.Proofs
variable {R : Type}
attribute [local simp] nx_eq nx_new nx_set blk_new blk_set asI_int asK_int asB_bool asP_ptr al_eq bx_eq len_slice onE_exit onE_ret onR_ret Value.cells cell_new cell_set rd_new rd_set off eq lt le ifB gv out ext20 ext21
noncomputable def doubleP (g : List Nat) : Bool := decide (3 ≤ g.length) && connS g (allN g) && decide (cutsP g (allN g) = 0)
theorem pop_all_tab : ((List.range 11).all fun n => decide (pop (2 ^ n - 1) = n) && (List.range n).all fun t => decide (pop (without (2 ^ n - 1) (2 ^ t)) = n - 1)) = true := by decide +kernel
theorem pop_all {n : Nat} (h : n ≤ 10) : pop (2 ^ n - 1) = n ∧ ∀ t, t < n → pop (without (2 ^ n - 1) (2 ^ t)) = n - 1 := by
  have := List.all_eq_true.1 pop_all_tab n (List.mem_range.2 (by omega))
  simp only [Bool.and_eq_true, decide_eq_true_eq, List.all_eq_true, List.mem_range] at this
  exact this
theorem double_bi {g : List Nat} (hg : GrN g) (h : doubleP g = true) : Bi g (allN g) := by
  unfold doubleP at h
  simp only [Bool.and_eq_true, decide_eq_true_eq] at h
  refine ((cand2_iff hg (allN_lt g)).1 ?_).2
  unfold cand2
  have := (pop_all hg.len).1
  rw [show pop (allN g) = g.length from this, h.1.2, h.2, decide_eq_true (by omega)]
  rfl
/-- Is a number a node? -/
def nodeB (g : List Nat) (z : Int) : Bool := decide (0 ≤ z) && decide (z < (g.length : Int))
theorem s79 {tv : Value} {g : List Nat} {z : Int} {h : H} (hs : SlR h 3 1 tv (cellsN g)) : rn 79 #[tv, iv z] h = some (.bool (nodeB g z), h) := by
  have hn : ∀ {T : Type} (K : Int → Option T), len tv K = K (g.length : Int) := fun K => by rw [hs.len]; simp
  refine p79 (k := 0) (h1 := h) ?_ rfl (.refl _)
  unfold f79 nodeB
  by_cases h0 : 0 ≤ z
  · rw [show AM.le 0 z = true by simp [AM.le, h0], ifB_true, hn, decide_eq_true h0, Bool.true_and]; rfl
  · rw [show AM.le 0 z = false by simp [AM.le]; omega, ifB_false, decide_eq_false h0, Bool.false_and]
theorem s38 {tv : Value} {l : List Int} {z : Int} {h : H} (hs : SlR h 3 1 tv (cellsI l)) : rn 38 #[tv, iv z] h = some (.bool (decide (0 ≤ z) && decide (z < (l.length : Int))), h) := by
  have hn : ∀ {T : Type} (K : Int → Option T), len tv K = K (l.length : Int) := fun K => by rw [hs.len]; simp
  refine p38 (k := 0) (h1 := h) ?_ rfl (.refl _)
  unfold f38
  by_cases h0 : 0 ≤ z
  · rw [show AM.le 0 z = true by simp [AM.le, h0], ifB_true, hn, decide_eq_true h0, Bool.true_and]; rfl
  · rw [show AM.le 0 z = false by simp [AM.le]; omega, ifB_false, decide_eq_false h0, Bool.false_and]
theorem s80 {tv : Value} {g : List Nat} {a b : Nat} {h : H} (hg : GrB g) (hs : SlR h 3 1 tv (cellsN g)) (ha : a < g.length) (hb : b < g.length) : rn 80 #[tv, iv a, iv b] h = some (.bool (adj g a b), h) := by
  have hlen := hg.len
  refine p80 (k := 0) (h1 := h) ?_ rfl (.refl _)
  unfold f80
  simp only [d3]
  rw [getN hs ha, asI_int, nn_ge (show (0 : Int) ≤ (b : Int) by omega), adj_bit hg (by omega)]
  cases adj g a b <;> rfl
end Go.AM
end

section
namespace Go.AM
open Go.Proofs
variable {R : Type}
attribute [local simp] nx_eq nx_new nx_set blk_new blk_set asI_int asK_int asB_bool asP_ptr al_eq bx_eq len_slice onE_exit onE_ret onR_ret Value.cells cell_new cell_set rd_new rd_set off eq lt le ifB gv out ext20 ext21
theorem app68 : okApp Tryd.prog 68 22 1 = true := by kernel_rfl
theorem bls68 {x y z} (h : H) : buildSlice Tryd.prog 68 1 [(0, .slice x y z)] h = some (.slice (some ⟨h.nx, 0, none⟩) 1 1, h.new (.row [.slice x y z] 22 true)) := by kernel_rfl
abbrev cellsV (vs : List Value) : List (List Value) := vs.map fun x => [x]
def AllSl (vs : List Value) : Prop := ∀ x ∈ vs, ∃ a n c, x = .slice a n c
def LSI (h : H) (vs : List Value) (LL : List (List Int)) : Prop := vs.length = LL.length ∧ ∀ (i : Nat) (x : Value) (m : List Int), vs[i]? = some x → LL[i]? = some m → SlR h 3 1 x (cellsI m)
theorem LSI.keep {h h' : H} {vs : List Value} {LL : List (List Int)} (a : LSI h vs LL) (hn : h.nx ≤ h'.nx) (hb : ∀ b cs o, b < h.nx → h.blk b = some (.row cs 3 o) → h'.blk b = h.blk b) : LSI h' vs LL :=
  ⟨a.1, fun i x m hx hm => (a.2 i x m hx hm).keepB hn fun b hbb => by
    obtain ⟨h1, cs, o, h2⟩ := (a.2 i x m hx hm).blkR hbb
    exact hb b cs o h1 h2⟩
theorem LSI.ext {h h' : H} {vs : List Value} {LL : List (List Int)} (a : LSI h vs LL) (x : Ext h h') : LSI h' vs LL := a.keep x.nx fun b _ _ hb _ => x.blk b hb
theorem LSI.snoc {h : H} {vs : List Value} {LL : List (List Int)} (a : LSI h vs LL) {x : Value} {m : List Int} (hx : SlR h 3 1 x (cellsI m)) : LSI h (vs ++ [x]) (LL ++ [m]) := by
  refine ⟨by simp [a.1], fun i y k hy hk => ?_⟩
  have h1 := a.1
  by_cases hi : i < vs.length
  · rw [List.getElem?_append_left hi] at hy
    rw [List.getElem?_append_left (by omega)] at hk
    exact a.2 i y k hy hk
  · have hi2 := (List.getElem?_eq_some_iff.1 hy).1
    simp at hi2
    have : i = vs.length := by omega
    subst this
    simp at hy
    rw [h1] at hk
    simp at hk
    subst hy hk
    exact hx
end Go.AM
end

section
namespace Go.AM
open Go.Proofs
theorem bit_all {g : List Nat} {x : Nat} (h : x < g.length) : (allN g).testBit x = true := by rw [allN_bit, decide_eq_true h]
/-- The first edge is in a cycle. -/
theorem first_way {g : List Nat} (hg : GrN g) (hb : Bi g (allN g)) (h3 : 3 ≤ g.length) {a b : Nat} (hab : adj g a b = true) : Rch (delE g a b) (allN g) a b := by
  have hpow := hg.pow
  obtain ⟨ha, hbn⟩ := hg.adj_lt hab
  have hne : a ≠ b := by rintro rfl; rw [hg.irr] at hab; cases hab
  have hp : pop (allN g) = g.length := (pop_all hg.len).1
  obtain ⟨c, hc, hca, hcb⟩ := exists_other (a := a) (b := b) (Nat.lt_of_lt_of_le (allN_lt g) hpow) (by rw [hp]; omega)
  have hda := fun {x : Nat} => bit_del (S := allN g) (w := a) (i := x)
  have hw : ∀ z, without (allN g) (2 ^ z) < 2 ^ g.length := fun z => without_le _ _ (allN_lt g)
  have r1 := hb b a c (bit_del.2 ⟨bit_all ha, hne⟩) (bit_del.2 ⟨hc, hcb⟩)
  have r2 := hb a c b (bit_del.2 ⟨hc, hca⟩) (bit_del.2 ⟨bit_all hbn, fun e => hne e.symm⟩)
  have n1 : ∀ z, (without (allN g) (2 ^ z)).testBit z = false := fun z => Bool.eq_false_iff.2 fun h => (bit_del.1 h).2 rfl
  exact (r1.del hg hab (.inr (n1 b)) (bit_del.2 ⟨bit_all ha, hne⟩) (hw b)).trans (r2.del hg hab (.inl (n1 a)) (bit_del.2 ⟨hc, hca⟩) (hw a))
end Go.AM
end

section
namespace Go.AM
open Go.Proofs
section
variable {g : List Nat} {s t : Nat}
theorem without_zero (a : Nat) : without a 0 = a := by
  refine Nat.eq_of_testBit_eq fun i => ?_
  rw [testBit_without, Nat.zero_testBit]; simp
theorem MinSep.zero (m : MinSep g s t 0) (hg : GrB g) : ¬ Rch g (allN g) s t := by
  obtain ⟨⟨C, c1, c2, c3⟩, _⟩ := m
  have h0 : C = 0 := pop_zero' (Nat.lt_of_lt_of_le c1 hg.pow) c3
  subst h0
  have := c2.part
  rw [without_zero] at this
  exact this
theorem two_ways (hg : GrN g) (hb : Bi g (allN g)) (h3 : 3 ≤ g.length) {k : Nat} (hs : s < g.length) (ht : t < g.length) (m0 : adj g s t = false → MinSep g s t k) (m1 : adj g s t = true → ∃ j, k = j + 1 ∧ MinSep (delE g s t) s t j) : 2 ≤ k := by
  have hall : ∀ i, i < g.length → (allN g).testBit i = true := fun i hi => by rw [allN_bit, decide_eq_true hi]
  refine Classical.byContradiction fun hk => ?_
  by_cases ha : adj g s t = true
  · obtain ⟨j, rfl, m⟩ := m1 ha
    have : j = 0 := by omega
    subst this
    refine m.zero (hg.toGrB.delE s t) ?_
    have h1 : allN (delE g s t) = allN g := by unfold allN; rw [delE_len]
    rw [h1]
    exact first_way hg hb h3 ha
  · have m := m0 (Bool.eq_false_iff.2 ha)
    rcases Nat.eq_zero_or_pos k with h0 | h0
    · subst h0
      exact m.zero hg.toGrB (hb.conn (Nat.lt_of_lt_of_le (allN_lt g) hg.pow) s t (hall s hs) (hall t ht))
    · have : k = 1 := by omega
      subst this
      obtain ⟨⟨C, c1, c2, c3⟩, _⟩ := m
      have h1 := pop_one (Nat.lt_of_lt_of_le c1 hg.pow) c3
      have hsC := c2.ms
      have htC := c2.mt
      refine c2.part ?_
      rw [h1] at hsC htC ⊢
      rw [Nat.testBit_two_pow, decide_eq_false_iff_not] at hsC htC
      exact hb (low C) s t (bit_del.2 ⟨hall s hs, fun e => hsC e.symm⟩) (bit_del.2 ⟨hall t ht, fun e => htC e.symm⟩)
theorem sum_ones {α : Type} {f : α → Nat} : ∀ (l : List α), (∀ x ∈ l, 1 ≤ f x) → (l.map f).sum ≤ l.length → ∀ x ∈ l, f x = 1 := by
  intro l
  induction l with
  | nil => intro _ _ x hx; cases hx
  | cons a l ih =>
    intro h1 h2 x hx
    rw [List.map_cons, List.sum_cons, List.length_cons] at h2
    have ha := h1 a List.mem_cons_self
    have hl : l.length ≤ (l.map f).sum := by
      have := sum_ge (m := 1) l fun x hx => h1 x (List.mem_cons_of_mem _ hx)
      omega
    rcases List.mem_cons.1 hx with rfl | hx
    · omega
    · exact ih (fun x hx => h1 x (List.mem_cons_of_mem _ hx)) (by omega) x hx
/-- Each way goes through one node of a set that parts and has as_ many nodes as_ there are ways. -/
theorem one_each {F : Nat → Nat → Prop} (hg : GrB g) (f : FlW (adjP g) s t F) {X first : Nat} (hX : X < 2 ^ g.length) (hS : Sep g s t X) (hf : first < 2 ^ g.length) (hF : ∀ u, F s u ↔ first.testBit u = true) (hp : pop X = pop first) {w : Nat → List Nat} (hw : ∀ u ∈ elts first, WayW F s t g.length u (w u)) :
    ∀ u ∈ elts first, (s :: u :: w u).countP (fun v => X.testBit v) = 1 := by
  have hmeet : ∀ u ∈ elts first, 1 ≤ ((u :: w u).filter fun v => X.testBit v).length := by
    intro u hu
    obtain ⟨h1, h2, _⟩ := hw u hu
    have hc : chainA (adjP g) s (u :: w u) t := ⟨f.sub _ _ h1, chain_sub f _ _ _ h2⟩
    refine Classical.byContradiction fun hn => hS.part (chain_rch _ _ hc fun x hx => ?_)
    rw [testBit_without, allN_bit, decide_eq_true (chain_in hg _ _ hc x hx)]
    cases hb : X.testBit x with
    | false => rfl
    | true =>
      exfalso
      have : 0 < ((u :: w u).filter fun v => X.testBit v).length := List.length_pos_of_mem (List.mem_filter.2 ⟨hx, hb⟩)
      omega
  have hsum : ((elts first).map fun u => ((u :: w u).filter fun v => X.testBit v).length).sum ≤ (elts first).length := by
    have h1 : ((elts first).flatMap fun u => (u :: w u).filter fun v => X.testBit v).length ≤ (elts X).length := by
      refine List.Nodup.length_le_of_subset ?_ fun x hx => ?_
      · rw [List.nodup_iff_pairwise_ne, List.pairwise_flatMap]
        constructor
        · intro u hu
          obtain ⟨h1, h2, _⟩ := hw u hu
          exact List.nodup_iff_pairwise_ne.1 ((f.way_nodup h1 h2).filter _)
        · have hnd := elts_nodup first
          rw [List.nodup_iff_pairwise_ne] at hnd
          refine hnd.imp_of_mem fun {a b} ha hb hab x hx y hy e => hab ?_
          subst e
          obtain ⟨h1, h2, _⟩ := hw a ha
          obtain ⟨h3, h4, _⟩ := hw b hb
          obtain ⟨q1, q2⟩ := List.mem_filter.1 hx
          obtain ⟨q3, _⟩ := List.mem_filter.1 hy
          obtain ⟨i, hi⟩ := List.mem_iff_getElem?.1 q1
          obtain ⟨j, hj⟩ := List.mem_iff_getElem?.1 q3
          exact f.ways_apart h1 h3 h2 h4 i j x hi hj fun e => by rw [e, hS.mt] at q2; cases q2
      · obtain ⟨u, _, hu⟩ := List.mem_flatMap.1 hx
        exact (mem_elts (Nat.lt_of_lt_of_le hX hg.pow)).2 (List.mem_filter.1 hu).2
    rw [List.length_flatMap] at h1
    rw [elts_len, hp, ← elts_len] at h1
    exact h1
  intro u hu
  have h1 := sum_ones (elts first) hmeet hsum u hu
  rw [List.countP_eq_length_filter, List.filter_cons_of_neg (by rw [hS.ms]; simp)]
  exact h1
end
end Go.AM
end

section
namespace Go.AM
open Go.Proofs
noncomputable def f120 (_rec : Rec) (_k : Nat) (v0 : Value) (n0 : Int) (h0 : H) : Option (Value × H) :=
 al h0 129 [(.int .i64 0), (.bool false)] fun h1 =>
 nil v0 (
 asP v0 fun b0 b1 =>
 ld Tryd.prog h1 22 b0 (off b1 5) fun v1 =>
 six v1 n0 1 fun b2 b3 =>
 ld Tryd.prog h1 3 b2 b3 fun v2 =>
 asI .i64 v2 fun n1 =>
 bld Tryd.prog 129 [(0, (.int .i64 n1)), (1, (.bool true))] fun v3 =>
 st Tryd.prog h1 129 (nx h0) 0 v3 fun h2 =>
 ld Tryd.prog h2 129 (nx h0) 0 fun v4 =>
 some (v4, h2))
theorem e120 (rec : Rec) (k : Nat) (v0 : Value) (n0 : Int) (h : H) : bodyT Tryd.prog E0 SC (XC Tryd.prog rec k) 120 (Value × H) [.opq v0, .int .i64 n0] h (fun v h => some (v, h)) = f120 rec k v0 n0 h := by kernel_rfl
theorem t120 {k : Nat} {v0 : Value} {n0 : Int} {h h1 : H} {v : Value} (hh : f120 rn k v0 n0 h = some (v, h1)) : rn 120 #[v0, .int .i64 n0] h = some (v, trunc Tryd.prog h h1 v) :=
  run_of_bodyT (args := [.opq v0, .int .i64 n0]) rfl ((e120 _ _ _ _ _).trans hh)
theorem p120 {k : Nat} {v0 : Value} {n0 : Int} {h h1 : H} {v : Value} (hh : f120 rn k v0 n0 h = some (v, h1)) (hp : plainO v = true) (x : Ext h h1) : rn 120 #[v0, .int .i64 n0] h = some (v, h) := by rw [t120 hh, trunc_pure hp x]
noncomputable def f113_l1 (_rec : Rec) (_k : Nat) (v0 : Value) (h0 : H) (n3 : Int) (v18 : Value) (n8 : Int) (ws0 : List Value) (h8 : H) : Option (Ex × List Value × H) :=
 asI .i64 (gv ws0 1) fun n9 =>
 ifB (lt n9 n8) (
 asK (gv ws0 1) fun n10 =>
 six v18 n10 1 fun b10 b11 =>
 ld Tryd.prog h8 3 b10 b11 fun v19 =>
 asI .i64 v19 fun n11 =>
 ld Tryd.prog h8 3 (nx h0) 0 fun v20 =>
 asI .i64 v20 fun n12 =>
 nil v0 (
 asP v0 fun b12 b13 =>
 ld Tryd.prog h8 3 b12 (off b13 1) fun v21 =>
 asI .i64 v21 fun n13 =>
 ifB (eq n12 n13) (
 nil v0 (
 asP v0 fun b14 b15 =>
 ld Tryd.prog h8 3 b14 (off b15 3) fun v22 =>
 asI .i64 v22 fun n14 =>
 nn n11 (
 ifB (eq (and .i64 (shr .i64 n14 n11) 1) 1) (
 nil v0 (
 asP v0 fun b16 b17 =>
 ld Tryd.prog h8 3 b16 (off b17 1) fun v23 =>
 asI .i64 v23 fun n15 =>
 ifB (not (eq n11 n15)) (
 asI .i64 (gv ws0 1) fun n16 =>
 out .normal [gv ws0 0, (.int .i64 (add .i64 n16 1))] h8) (
 asI .i64 (gv ws0 1) fun n17 =>
 out .normal [gv ws0 0, (.int .i64 (add .i64 n17 1))] h8))) (
 ifB (le 0 n3) (
 nil v0 (
 asP v0 fun b18 b19 =>
 ld Tryd.prog h8 22 b18 (off b19 4) fun v24 =>
 ld Tryd.prog h8 3 (nx h0) 0 fun v25 =>
 asI .i64 v25 fun n18 =>
 six v24 n18 1 fun b20 b21 =>
 ld Tryd.prog h8 3 b20 b21 fun v26 =>
 asI .i64 v26 fun n19 =>
 nil v0 (
 asP v0 fun b22 b23 =>
 ld Tryd.prog h8 3 b22 (off b23 1) fun v27 =>
 asI .i64 v27 fun n20 =>
 ifB (not (eq n11 n20)) (
 ifB (not (eq n19 n11)) (
 bld Tryd.prog 129 [(0, (.int .i64 n11)), (1, (.bool false))] fun v28 =>
 bls Tryd.prog h8 130 1 [(0, v28)] fun v29 h9 =>
 app Tryd.prog h9 130 130 (gv ws0 0) v29 fun v30 h10 =>
 asI .i64 (gv ws0 1) fun n21 =>
 out .normal [v30, (.int .i64 (add .i64 n21 1))] h10) (
 asI .i64 (gv ws0 1) fun n22 =>
 out .normal [gv ws0 0, (.int .i64 (add .i64 n22 1))] h8)) (
 asI .i64 (gv ws0 1) fun n23 =>
 out .normal [gv ws0 0, (.int .i64 (add .i64 n23 1))] h8)))) (
 nil v0 (
 asP v0 fun b24 b25 =>
 ld Tryd.prog h8 3 b24 (off b25 1) fun v31 =>
 asI .i64 v31 fun n24 =>
 ifB (not (eq n11 n24)) (
 bld Tryd.prog 129 [(0, (.int .i64 n11)), (1, (.bool false))] fun v32 =>
 bls Tryd.prog h8 130 1 [(0, v32)] fun v33 h11 =>
 app Tryd.prog h11 130 130 (gv ws0 0) v33 fun v34 h12 =>
 asI .i64 (gv ws0 1) fun n25 =>
 out .normal [v34, (.int .i64 (add .i64 n25 1))] h12) (
 asI .i64 (gv ws0 1) fun n26 =>
 out .normal [gv ws0 0, (.int .i64 (add .i64 n26 1))] h8))))))) (
 ifB (le 0 n3) (
 nil v0 (
 asP v0 fun b26 b27 =>
 ld Tryd.prog h8 22 b26 (off b27 4) fun v35 =>
 ld Tryd.prog h8 3 (nx h0) 0 fun v36 =>
 asI .i64 v36 fun n27 =>
 six v35 n27 1 fun b28 b29 =>
 ld Tryd.prog h8 3 b28 b29 fun v37 =>
 asI .i64 v37 fun n28 =>
 nil v0 (
 asP v0 fun b30 b31 =>
 ld Tryd.prog h8 3 b30 (off b31 1) fun v38 =>
 asI .i64 v38 fun n29 =>
 ifB (not (eq n11 n29)) (
 ifB (not (eq n28 n11)) (
 bld Tryd.prog 129 [(0, (.int .i64 n11)), (1, (.bool false))] fun v39 =>
 bls Tryd.prog h8 130 1 [(0, v39)] fun v40 h13 =>
 app Tryd.prog h13 130 130 (gv ws0 0) v40 fun v41 h14 =>
 asI .i64 (gv ws0 1) fun n30 =>
 out .normal [v41, (.int .i64 (add .i64 n30 1))] h14) (
 asI .i64 (gv ws0 1) fun n31 =>
 out .normal [gv ws0 0, (.int .i64 (add .i64 n31 1))] h8)) (
 asI .i64 (gv ws0 1) fun n32 =>
 out .normal [gv ws0 0, (.int .i64 (add .i64 n32 1))] h8)))) (
 nil v0 (
 asP v0 fun b32 b33 =>
 ld Tryd.prog h8 3 b32 (off b33 1) fun v42 =>
 asI .i64 v42 fun n33 =>
 ifB (not (eq n11 n33)) (
 bld Tryd.prog 129 [(0, (.int .i64 n11)), (1, (.bool false))] fun v43 =>
 bls Tryd.prog h8 130 1 [(0, v43)] fun v44 h15 =>
 app Tryd.prog h15 130 130 (gv ws0 0) v44 fun v45 h16 =>
 asI .i64 (gv ws0 1) fun n34 =>
 out .normal [v45, (.int .i64 (add .i64 n34 1))] h16) (
 asI .i64 (gv ws0 1) fun n35 =>
 out .normal [gv ws0 0, (.int .i64 (add .i64 n35 1))] h8)))))) (
 out (.exit 0) [gv ws0 0, gv ws0 1] h8)
noncomputable def f113_l2 (_rec : Rec) (_k : Nat) (v0 : Value) (h0 : H) (n3 : Int) (v49 : Value) (n38 : Int) (ws2 : List Value) (h19 : H) : Option (Ex × List Value × H) :=
 asI .i64 (gv ws2 1) fun n39 =>
 ifB (lt n39 n38) (
 asK (gv ws2 1) fun n40 =>
 six v49 n40 1 fun b38 b39 =>
 ld Tryd.prog h19 3 b38 b39 fun v50 =>
 asI .i64 v50 fun n41 =>
 ld Tryd.prog h19 3 (nx h0) 0 fun v51 =>
 asI .i64 v51 fun n42 =>
 nil v0 (
 asP v0 fun b40 b41 =>
 ld Tryd.prog h19 3 b40 (off b41 1) fun v52 =>
 asI .i64 v52 fun n43 =>
 ifB (eq n42 n43) (
 nil v0 (
 asP v0 fun b42 b43 =>
 ld Tryd.prog h19 3 b42 (off b43 3) fun v53 =>
 asI .i64 v53 fun n44 =>
 nn n41 (
 ifB (eq (and .i64 (shr .i64 n44 n41) 1) 1) (
 nil v0 (
 asP v0 fun b44 b45 =>
 ld Tryd.prog h19 3 b44 (off b45 1) fun v54 =>
 asI .i64 v54 fun n45 =>
 ifB (not (eq n41 n45)) (
 asI .i64 (gv ws2 1) fun n46 =>
 out .normal [gv ws2 0, (.int .i64 (add .i64 n46 1))] h19) (
 asI .i64 (gv ws2 1) fun n47 =>
 out .normal [gv ws2 0, (.int .i64 (add .i64 n47 1))] h19))) (
 ifB (le 0 n3) (
 nil v0 (
 asP v0 fun b46 b47 =>
 ld Tryd.prog h19 22 b46 (off b47 4) fun v55 =>
 ld Tryd.prog h19 3 (nx h0) 0 fun v56 =>
 asI .i64 v56 fun n48 =>
 six v55 n48 1 fun b48 b49 =>
 ld Tryd.prog h19 3 b48 b49 fun v57 =>
 asI .i64 v57 fun n49 =>
 nil v0 (
 asP v0 fun b50 b51 =>
 ld Tryd.prog h19 3 b50 (off b51 1) fun v58 =>
 asI .i64 v58 fun n50 =>
 ifB (not (eq n41 n50)) (
 ifB (not (eq n49 n41)) (
 bld Tryd.prog 129 [(0, (.int .i64 n41)), (1, (.bool false))] fun v59 =>
 bls Tryd.prog h19 130 1 [(0, v59)] fun v60 h20 =>
 app Tryd.prog h20 130 130 (gv ws2 0) v60 fun v61 h21 =>
 asI .i64 (gv ws2 1) fun n51 =>
 out .normal [v61, (.int .i64 (add .i64 n51 1))] h21) (
 asI .i64 (gv ws2 1) fun n52 =>
 out .normal [gv ws2 0, (.int .i64 (add .i64 n52 1))] h19)) (
 asI .i64 (gv ws2 1) fun n53 =>
 out .normal [gv ws2 0, (.int .i64 (add .i64 n53 1))] h19)))) (
 nil v0 (
 asP v0 fun b52 b53 =>
 ld Tryd.prog h19 3 b52 (off b53 1) fun v62 =>
 asI .i64 v62 fun n54 =>
 ifB (not (eq n41 n54)) (
 bld Tryd.prog 129 [(0, (.int .i64 n41)), (1, (.bool false))] fun v63 =>
 bls Tryd.prog h19 130 1 [(0, v63)] fun v64 h22 =>
 app Tryd.prog h22 130 130 (gv ws2 0) v64 fun v65 h23 =>
 asI .i64 (gv ws2 1) fun n55 =>
 out .normal [v65, (.int .i64 (add .i64 n55 1))] h23) (
 asI .i64 (gv ws2 1) fun n56 =>
 out .normal [gv ws2 0, (.int .i64 (add .i64 n56 1))] h19))))))) (
 ifB (le 0 n3) (
 nil v0 (
 asP v0 fun b54 b55 =>
 ld Tryd.prog h19 22 b54 (off b55 4) fun v66 =>
 ld Tryd.prog h19 3 (nx h0) 0 fun v67 =>
 asI .i64 v67 fun n57 =>
 six v66 n57 1 fun b56 b57 =>
 ld Tryd.prog h19 3 b56 b57 fun v68 =>
 asI .i64 v68 fun n58 =>
 nil v0 (
 asP v0 fun b58 b59 =>
 ld Tryd.prog h19 3 b58 (off b59 1) fun v69 =>
 asI .i64 v69 fun n59 =>
 ifB (not (eq n41 n59)) (
 ifB (not (eq n58 n41)) (
 bld Tryd.prog 129 [(0, (.int .i64 n41)), (1, (.bool false))] fun v70 =>
 bls Tryd.prog h19 130 1 [(0, v70)] fun v71 h24 =>
 app Tryd.prog h24 130 130 (gv ws2 0) v71 fun v72 h25 =>
 asI .i64 (gv ws2 1) fun n60 =>
 out .normal [v72, (.int .i64 (add .i64 n60 1))] h25) (
 asI .i64 (gv ws2 1) fun n61 =>
 out .normal [gv ws2 0, (.int .i64 (add .i64 n61 1))] h19)) (
 asI .i64 (gv ws2 1) fun n62 =>
 out .normal [gv ws2 0, (.int .i64 (add .i64 n62 1))] h19)))) (
 nil v0 (
 asP v0 fun b60 b61 =>
 ld Tryd.prog h19 3 b60 (off b61 1) fun v73 =>
 asI .i64 v73 fun n63 =>
 ifB (not (eq n41 n63)) (
 bld Tryd.prog 129 [(0, (.int .i64 n41)), (1, (.bool false))] fun v74 =>
 bls Tryd.prog h19 130 1 [(0, v74)] fun v75 h26 =>
 app Tryd.prog h26 130 130 (gv ws2 0) v75 fun v76 h27 =>
 asI .i64 (gv ws2 1) fun n64 =>
 out .normal [v76, (.int .i64 (add .i64 n64 1))] h27) (
 asI .i64 (gv ws2 1) fun n65 =>
 out .normal [gv ws2 0, (.int .i64 (add .i64 n65 1))] h19)))))) (
 out (.exit 0) [gv ws2 0, gv ws2 1] h19)
noncomputable def f113_l3 (_rec : Rec) (_k : Nat) (v0 : Value) (h0 : H) (n3 : Int) (v84 : Value) (n69 : Int) (ws4 : List Value) (h33 : H) : Option (Ex × List Value × H) :=
 asI .i64 (gv ws4 1) fun n70 =>
 ifB (lt n70 n69) (
 asK (gv ws4 1) fun n71 =>
 six v84 n71 1 fun b66 b67 =>
 ld Tryd.prog h33 3 b66 b67 fun v85 =>
 asI .i64 v85 fun n72 =>
 ld Tryd.prog h33 3 (nx h0) 0 fun v86 =>
 asI .i64 v86 fun n73 =>
 nil v0 (
 asP v0 fun b68 b69 =>
 ld Tryd.prog h33 3 b68 (off b69 1) fun v87 =>
 asI .i64 v87 fun n74 =>
 ifB (eq n73 n74) (
 nil v0 (
 asP v0 fun b70 b71 =>
 ld Tryd.prog h33 3 b70 (off b71 3) fun v88 =>
 asI .i64 v88 fun n75 =>
 nn n72 (
 ifB (eq (and .i64 (shr .i64 n75 n72) 1) 1) (
 nil v0 (
 asP v0 fun b72 b73 =>
 ld Tryd.prog h33 3 b72 (off b73 1) fun v89 =>
 asI .i64 v89 fun n76 =>
 ifB (not (eq n72 n76)) (
 asI .i64 (gv ws4 1) fun n77 =>
 out .normal [gv ws4 0, (.int .i64 (add .i64 n77 1))] h33) (
 asI .i64 (gv ws4 1) fun n78 =>
 out .normal [gv ws4 0, (.int .i64 (add .i64 n78 1))] h33))) (
 ifB (le 0 n3) (
 nil v0 (
 asP v0 fun b74 b75 =>
 ld Tryd.prog h33 22 b74 (off b75 4) fun v90 =>
 ld Tryd.prog h33 3 (nx h0) 0 fun v91 =>
 asI .i64 v91 fun n79 =>
 six v90 n79 1 fun b76 b77 =>
 ld Tryd.prog h33 3 b76 b77 fun v92 =>
 asI .i64 v92 fun n80 =>
 nil v0 (
 asP v0 fun b78 b79 =>
 ld Tryd.prog h33 3 b78 (off b79 1) fun v93 =>
 asI .i64 v93 fun n81 =>
 ifB (not (eq n72 n81)) (
 ifB (not (eq n80 n72)) (
 bld Tryd.prog 129 [(0, (.int .i64 n72)), (1, (.bool false))] fun v94 =>
 bls Tryd.prog h33 130 1 [(0, v94)] fun v95 h34 =>
 app Tryd.prog h34 130 130 (gv ws4 0) v95 fun v96 h35 =>
 asI .i64 (gv ws4 1) fun n82 =>
 out .normal [v96, (.int .i64 (add .i64 n82 1))] h35) (
 asI .i64 (gv ws4 1) fun n83 =>
 out .normal [gv ws4 0, (.int .i64 (add .i64 n83 1))] h33)) (
 asI .i64 (gv ws4 1) fun n84 =>
 out .normal [gv ws4 0, (.int .i64 (add .i64 n84 1))] h33)))) (
 nil v0 (
 asP v0 fun b80 b81 =>
 ld Tryd.prog h33 3 b80 (off b81 1) fun v97 =>
 asI .i64 v97 fun n85 =>
 ifB (not (eq n72 n85)) (
 bld Tryd.prog 129 [(0, (.int .i64 n72)), (1, (.bool false))] fun v98 =>
 bls Tryd.prog h33 130 1 [(0, v98)] fun v99 h36 =>
 app Tryd.prog h36 130 130 (gv ws4 0) v99 fun v100 h37 =>
 asI .i64 (gv ws4 1) fun n86 =>
 out .normal [v100, (.int .i64 (add .i64 n86 1))] h37) (
 asI .i64 (gv ws4 1) fun n87 =>
 out .normal [gv ws4 0, (.int .i64 (add .i64 n87 1))] h33))))))) (
 ifB (le 0 n3) (
 nil v0 (
 asP v0 fun b82 b83 =>
 ld Tryd.prog h33 22 b82 (off b83 4) fun v101 =>
 ld Tryd.prog h33 3 (nx h0) 0 fun v102 =>
 asI .i64 v102 fun n88 =>
 six v101 n88 1 fun b84 b85 =>
 ld Tryd.prog h33 3 b84 b85 fun v103 =>
 asI .i64 v103 fun n89 =>
 nil v0 (
 asP v0 fun b86 b87 =>
 ld Tryd.prog h33 3 b86 (off b87 1) fun v104 =>
 asI .i64 v104 fun n90 =>
 ifB (not (eq n72 n90)) (
 ifB (not (eq n89 n72)) (
 bld Tryd.prog 129 [(0, (.int .i64 n72)), (1, (.bool false))] fun v105 =>
 bls Tryd.prog h33 130 1 [(0, v105)] fun v106 h38 =>
 app Tryd.prog h38 130 130 (gv ws4 0) v106 fun v107 h39 =>
 asI .i64 (gv ws4 1) fun n91 =>
 out .normal [v107, (.int .i64 (add .i64 n91 1))] h39) (
 asI .i64 (gv ws4 1) fun n92 =>
 out .normal [gv ws4 0, (.int .i64 (add .i64 n92 1))] h33)) (
 asI .i64 (gv ws4 1) fun n93 =>
 out .normal [gv ws4 0, (.int .i64 (add .i64 n93 1))] h33)))) (
 nil v0 (
 asP v0 fun b88 b89 =>
 ld Tryd.prog h33 3 b88 (off b89 1) fun v108 =>
 asI .i64 v108 fun n94 =>
 ifB (not (eq n72 n94)) (
 bld Tryd.prog 129 [(0, (.int .i64 n72)), (1, (.bool false))] fun v109 =>
 bls Tryd.prog h33 130 1 [(0, v109)] fun v110 h40 =>
 app Tryd.prog h40 130 130 (gv ws4 0) v110 fun v111 h41 =>
 asI .i64 (gv ws4 1) fun n95 =>
 out .normal [v111, (.int .i64 (add .i64 n95 1))] h41) (
 asI .i64 (gv ws4 1) fun n96 =>
 out .normal [gv ws4 0, (.int .i64 (add .i64 n96 1))] h33)))))) (
 out (.exit 0) [gv ws4 0, gv ws4 1] h33)
noncomputable def f113_l4 (_rec : Rec) (_k : Nat) (v0 : Value) (h0 : H) (n3 : Int) (v115 : Value) (n99 : Int) (ws6 : List Value) (h44 : H) : Option (Ex × List Value × H) :=
 asI .i64 (gv ws6 1) fun n100 =>
 ifB (lt n100 n99) (
 asK (gv ws6 1) fun n101 =>
 six v115 n101 1 fun b94 b95 =>
 ld Tryd.prog h44 3 b94 b95 fun v116 =>
 asI .i64 v116 fun n102 =>
 ld Tryd.prog h44 3 (nx h0) 0 fun v117 =>
 asI .i64 v117 fun n103 =>
 nil v0 (
 asP v0 fun b96 b97 =>
 ld Tryd.prog h44 3 b96 (off b97 1) fun v118 =>
 asI .i64 v118 fun n104 =>
 ifB (eq n103 n104) (
 nil v0 (
 asP v0 fun b98 b99 =>
 ld Tryd.prog h44 3 b98 (off b99 3) fun v119 =>
 asI .i64 v119 fun n105 =>
 nn n102 (
 ifB (eq (and .i64 (shr .i64 n105 n102) 1) 1) (
 nil v0 (
 asP v0 fun b100 b101 =>
 ld Tryd.prog h44 3 b100 (off b101 1) fun v120 =>
 asI .i64 v120 fun n106 =>
 ifB (not (eq n102 n106)) (
 asI .i64 (gv ws6 1) fun n107 =>
 out .normal [gv ws6 0, (.int .i64 (add .i64 n107 1))] h44) (
 asI .i64 (gv ws6 1) fun n108 =>
 out .normal [gv ws6 0, (.int .i64 (add .i64 n108 1))] h44))) (
 ifB (le 0 n3) (
 nil v0 (
 asP v0 fun b102 b103 =>
 ld Tryd.prog h44 22 b102 (off b103 4) fun v121 =>
 ld Tryd.prog h44 3 (nx h0) 0 fun v122 =>
 asI .i64 v122 fun n109 =>
 six v121 n109 1 fun b104 b105 =>
 ld Tryd.prog h44 3 b104 b105 fun v123 =>
 asI .i64 v123 fun n110 =>
 nil v0 (
 asP v0 fun b106 b107 =>
 ld Tryd.prog h44 3 b106 (off b107 1) fun v124 =>
 asI .i64 v124 fun n111 =>
 ifB (not (eq n102 n111)) (
 ifB (not (eq n110 n102)) (
 bld Tryd.prog 129 [(0, (.int .i64 n102)), (1, (.bool false))] fun v125 =>
 bls Tryd.prog h44 130 1 [(0, v125)] fun v126 h45 =>
 app Tryd.prog h45 130 130 (gv ws6 0) v126 fun v127 h46 =>
 asI .i64 (gv ws6 1) fun n112 =>
 out .normal [v127, (.int .i64 (add .i64 n112 1))] h46) (
 asI .i64 (gv ws6 1) fun n113 =>
 out .normal [gv ws6 0, (.int .i64 (add .i64 n113 1))] h44)) (
 asI .i64 (gv ws6 1) fun n114 =>
 out .normal [gv ws6 0, (.int .i64 (add .i64 n114 1))] h44)))) (
 nil v0 (
 asP v0 fun b108 b109 =>
 ld Tryd.prog h44 3 b108 (off b109 1) fun v128 =>
 asI .i64 v128 fun n115 =>
 ifB (not (eq n102 n115)) (
 bld Tryd.prog 129 [(0, (.int .i64 n102)), (1, (.bool false))] fun v129 =>
 bls Tryd.prog h44 130 1 [(0, v129)] fun v130 h47 =>
 app Tryd.prog h47 130 130 (gv ws6 0) v130 fun v131 h48 =>
 asI .i64 (gv ws6 1) fun n116 =>
 out .normal [v131, (.int .i64 (add .i64 n116 1))] h48) (
 asI .i64 (gv ws6 1) fun n117 =>
 out .normal [gv ws6 0, (.int .i64 (add .i64 n117 1))] h44))))))) (
 ifB (le 0 n3) (
 nil v0 (
 asP v0 fun b110 b111 =>
 ld Tryd.prog h44 22 b110 (off b111 4) fun v132 =>
 ld Tryd.prog h44 3 (nx h0) 0 fun v133 =>
 asI .i64 v133 fun n118 =>
 six v132 n118 1 fun b112 b113 =>
 ld Tryd.prog h44 3 b112 b113 fun v134 =>
 asI .i64 v134 fun n119 =>
 nil v0 (
 asP v0 fun b114 b115 =>
 ld Tryd.prog h44 3 b114 (off b115 1) fun v135 =>
 asI .i64 v135 fun n120 =>
 ifB (not (eq n102 n120)) (
 ifB (not (eq n119 n102)) (
 bld Tryd.prog 129 [(0, (.int .i64 n102)), (1, (.bool false))] fun v136 =>
 bls Tryd.prog h44 130 1 [(0, v136)] fun v137 h49 =>
 app Tryd.prog h49 130 130 (gv ws6 0) v137 fun v138 h50 =>
 asI .i64 (gv ws6 1) fun n121 =>
 out .normal [v138, (.int .i64 (add .i64 n121 1))] h50) (
 asI .i64 (gv ws6 1) fun n122 =>
 out .normal [gv ws6 0, (.int .i64 (add .i64 n122 1))] h44)) (
 asI .i64 (gv ws6 1) fun n123 =>
 out .normal [gv ws6 0, (.int .i64 (add .i64 n123 1))] h44)))) (
 nil v0 (
 asP v0 fun b116 b117 =>
 ld Tryd.prog h44 3 b116 (off b117 1) fun v139 =>
 asI .i64 v139 fun n124 =>
 ifB (not (eq n102 n124)) (
 bld Tryd.prog 129 [(0, (.int .i64 n102)), (1, (.bool false))] fun v140 =>
 bls Tryd.prog h44 130 1 [(0, v140)] fun v141 h51 =>
 app Tryd.prog h51 130 130 (gv ws6 0) v141 fun v142 h52 =>
 asI .i64 (gv ws6 1) fun n125 =>
 out .normal [v142, (.int .i64 (add .i64 n125 1))] h52) (
 asI .i64 (gv ws6 1) fun n126 =>
 out .normal [gv ws6 0, (.int .i64 (add .i64 n126 1))] h44)))))) (
 out (.exit 0) [gv ws6 0, gv ws6 1] h44)
noncomputable def f113_l5 (_rec : Rec) (_k : Nat) (v0 : Value) (h0 : H) (v146 : Value) (n129 : Int) (ws8 : List Value) (h55 : H) : Option (Ex × List Value × H) :=
 asI .i64 (gv ws8 1) fun n130 =>
 ifB (lt n130 n129) (
 asK (gv ws8 1) fun n131 =>
 six v146 n131 1 fun b122 b123 =>
 ld Tryd.prog h55 3 b122 b123 fun v147 =>
 asI .i64 v147 fun n132 =>
 ld Tryd.prog h55 3 (nx h0) 0 fun v148 =>
 asI .i64 v148 fun n133 =>
 nil v0 (
 asP v0 fun b124 b125 =>
 ld Tryd.prog h55 3 b124 (off b125 1) fun v149 =>
 asI .i64 v149 fun n134 =>
 ifB (eq n133 n134) (
 nil v0 (
 asP v0 fun b126 b127 =>
 ld Tryd.prog h55 3 b126 (off b127 3) fun v150 =>
 asI .i64 v150 fun n135 =>
 nn n132 (
 ifB (eq (and .i64 (shr .i64 n135 n132) 1) 1) (
 nil v0 (
 asP v0 fun b128 b129 =>
 ld Tryd.prog h55 3 b128 (off b129 1) fun v151 =>
 asI .i64 v151 fun n136 =>
 ifB (not (eq n132 n136)) (
 asI .i64 (gv ws8 1) fun n137 =>
 out .normal [gv ws8 0, (.int .i64 (add .i64 n137 1))] h55) (
 asI .i64 (gv ws8 1) fun n138 =>
 out .normal [gv ws8 0, (.int .i64 (add .i64 n138 1))] h55))) (
 nil v0 (
 asP v0 fun b130 b131 =>
 ld Tryd.prog h55 3 b130 (off b131 1) fun v152 =>
 asI .i64 v152 fun n139 =>
 ifB (not (eq n132 n139)) (
 bld Tryd.prog 129 [(0, (.int .i64 n132)), (1, (.bool false))] fun v153 =>
 bls Tryd.prog h55 130 1 [(0, v153)] fun v154 h56 =>
 app Tryd.prog h56 130 130 (gv ws8 0) v154 fun v155 h57 =>
 asI .i64 (gv ws8 1) fun n140 =>
 out .normal [v155, (.int .i64 (add .i64 n140 1))] h57) (
 asI .i64 (gv ws8 1) fun n141 =>
 out .normal [gv ws8 0, (.int .i64 (add .i64 n141 1))] h55)))))) (
 nil v0 (
 asP v0 fun b132 b133 =>
 ld Tryd.prog h55 3 b132 (off b133 1) fun v156 =>
 asI .i64 v156 fun n142 =>
 ifB (not (eq n132 n142)) (
 bld Tryd.prog 129 [(0, (.int .i64 n132)), (1, (.bool false))] fun v157 =>
 bls Tryd.prog h55 130 1 [(0, v157)] fun v158 h58 =>
 app Tryd.prog h58 130 130 (gv ws8 0) v158 fun v159 h59 =>
 asI .i64 (gv ws8 1) fun n143 =>
 out .normal [v159, (.int .i64 (add .i64 n143 1))] h59) (
 asI .i64 (gv ws8 1) fun n144 =>
 out .normal [gv ws8 0, (.int .i64 (add .i64 n144 1))] h55))))) (
 out (.exit 0) [gv ws8 0, gv ws8 1] h55)
noncomputable def f113 (rec : Rec) (k : Nat) (v0 : Value) (v1 : Value) (h0 : H) : Option (Value × H) :=
 bx h0 129 v1 fun h1 =>
 ld Tryd.prog h1 3 (nx h0) 0 fun v2 =>
 asI .i64 v2 fun n0 =>
 nil v0 (
 asP v0 fun b0 b1 =>
 ld Tryd.prog h1 3 b0 (off b1 1) fun v3 =>
 asI .i64 v3 fun n1 =>
 ifB (not (eq n0 n1)) (
 nil v0 (
 asP v0 fun b2 b3 =>
 ld Tryd.prog h1 22 b2 (off b3 4) fun v4 =>
 ld Tryd.prog h1 3 (nx h0) 0 fun v5 =>
 asI .i64 v5 fun n2 =>
 six v4 n2 1 fun b4 b5 =>
 ld Tryd.prog h1 3 b4 b5 fun v6 =>
 asI .i64 v6 fun n3 =>
 ifB (le 0 n3) (
 ld Tryd.prog h1 4 (nx h0) (off 0 1) fun v7 =>
 asB v7 fun q0 =>
 ifB (not q0) (
 ld Tryd.prog h1 3 (nx h0) 0 fun v8 =>
 asI .i64 v8 fun n4 =>
 calls rec h1 120 [v0, (.int .i64 n4)] fun v9 h2 =>
 bls Tryd.prog h2 130 1 [(0, v9)] fun v10 h3 =>
 some (v10, h3)) (
 ifB (le 0 n3) (
 ld Tryd.prog h1 3 (nx h0) 0 fun v11 =>
 asI .i64 v11 fun n5 =>
 calls rec h1 120 [v0, (.int .i64 n5)] fun v12 h4 =>
 bls Tryd.prog h4 130 1 [(0, v12)] fun v13 h5 =>
 app Tryd.prog h5 130 130 (.slice none 0 0) v13 fun v14 h6 =>
 nil v0 (
 asP v0 fun b6 b7 =>
 ld Tryd.prog h6 78 b6 b7 fun v15 =>
 ld Tryd.prog h6 3 (nx h0) 0 fun v16 =>
 asI .i64 v16 fun n6 =>
 six v15 n6 1 fun b8 b9 =>
 ld Tryd.prog h6 3 b8 b9 fun v17 =>
 asI .i64 v17 fun n7 =>
 calls rec h6 76 [(.int .i64 n7)] fun v18 h7 =>
 len v18 fun n8 =>
 lp k (f113_l1 rec k v0 h0 n3 v18 n8) [v14, (.int .i64 0)] h7 fun e0 ws1 h17 =>
 onE e0 0 (
 some (gv ws1 0, h17)) (
 none))) (
 nil v0 (
 asP v0 fun b34 b35 =>
 ld Tryd.prog h1 78 b34 b35 fun v46 =>
 ld Tryd.prog h1 3 (nx h0) 0 fun v47 =>
 asI .i64 v47 fun n36 =>
 six v46 n36 1 fun b36 b37 =>
 ld Tryd.prog h1 3 b36 b37 fun v48 =>
 asI .i64 v48 fun n37 =>
 calls rec h1 76 [(.int .i64 n37)] fun v49 h18 =>
 len v49 fun n38 =>
 lp k (f113_l2 rec k v0 h0 n3 v49 n38) [(.slice none 0 0), (.int .i64 0)] h18 fun e1 ws3 h28 =>
 onE e1 0 (
 some (gv ws3 0, h28)) (
 none))))) (
 ifB (le 0 n3) (
 ld Tryd.prog h1 3 (nx h0) 0 fun v77 =>
 asI .i64 v77 fun n66 =>
 calls rec h1 120 [v0, (.int .i64 n66)] fun v78 h29 =>
 bls Tryd.prog h29 130 1 [(0, v78)] fun v79 h30 =>
 app Tryd.prog h30 130 130 (.slice none 0 0) v79 fun v80 h31 =>
 nil v0 (
 asP v0 fun b62 b63 =>
 ld Tryd.prog h31 78 b62 b63 fun v81 =>
 ld Tryd.prog h31 3 (nx h0) 0 fun v82 =>
 asI .i64 v82 fun n67 =>
 six v81 n67 1 fun b64 b65 =>
 ld Tryd.prog h31 3 b64 b65 fun v83 =>
 asI .i64 v83 fun n68 =>
 calls rec h31 76 [(.int .i64 n68)] fun v84 h32 =>
 len v84 fun n69 =>
 lp k (f113_l3 rec k v0 h0 n3 v84 n69) [v80, (.int .i64 0)] h32 fun e2 ws5 h42 =>
 onE e2 0 (
 some (gv ws5 0, h42)) (
 none))) (
 nil v0 (
 asP v0 fun b90 b91 =>
 ld Tryd.prog h1 78 b90 b91 fun v112 =>
 ld Tryd.prog h1 3 (nx h0) 0 fun v113 =>
 asI .i64 v113 fun n97 =>
 six v112 n97 1 fun b92 b93 =>
 ld Tryd.prog h1 3 b92 b93 fun v114 =>
 asI .i64 v114 fun n98 =>
 calls rec h1 76 [(.int .i64 n98)] fun v115 h43 =>
 len v115 fun n99 =>
 lp k (f113_l4 rec k v0 h0 n3 v115 n99) [(.slice none 0 0), (.int .i64 0)] h43 fun e3 ws7 h53 =>
 onE e3 0 (
 some (gv ws7 0, h53)) (
 none)))))) (
 nil v0 (
 asP v0 fun b118 b119 =>
 ld Tryd.prog h1 78 b118 b119 fun v143 =>
 ld Tryd.prog h1 3 (nx h0) 0 fun v144 =>
 asI .i64 v144 fun n127 =>
 six v143 n127 1 fun b120 b121 =>
 ld Tryd.prog h1 3 b120 b121 fun v145 =>
 asI .i64 v145 fun n128 =>
 calls rec h1 76 [(.int .i64 n128)] fun v146 h54 =>
 len v146 fun n129 =>
 lp k (f113_l5 rec k v0 h0 v146 n129) [(.slice none 0 0), (.int .i64 0)] h54 fun e4 ws9 h60 =>
 onE e4 0 (
 some (gv ws9 0, h60)) (
 none))))
theorem e113 (rec : Rec) (k : Nat) (v0 : Value) (v1 : Value) (h : H) : bodyT Tryd.prog E0 SC (XC Tryd.prog rec k) 113 (Value × H) [.opq v0, .opq v1] h (fun v h => some (v, h)) = f113 rec k v0 v1 h := by kernel_rfl
theorem t113 {k : Nat} {v0 : Value} {v1 : Value} {h h1 : H} {v : Value} (hh : f113 rn k v0 v1 h = some (v, h1)) : rn 113 #[v0, v1] h = some (v, trunc Tryd.prog h h1 v) :=
  run_of_bodyT (args := [.opq v0, .opq v1]) rfl ((e113 _ _ _ _ _).trans hh)
theorem x113 {k : Nat} {v0 : Value} {v1 : Value} {h h1 : H} {v : Value} (hh : f113 rn k v0 v1 h = some (v, h1)) (hp : plainO v = false) : ∃ h2, rn 113 #[v0, v1] h = some (v, h2) ∧ Sm h1 h2 ∧ (Ext h h1 → Exw h h2) := trunc_cell hp (t113 hh)
noncomputable def f112 (rec : Rec) (_k : Nat) (v0 : Value) (v1 : Value) (h0 : H) : Option (Value × H) :=
 calls rec h0 119 [v0, v1] fun v2 h1 =>
 ext v2 0 fun v3 =>
 asI .u64 v3 fun n0 =>
 ext v2 1 fun v4 =>
 asI .u64 v4 fun n1 =>
 some ((.tuple #[(.int .u64 n0), (.int .u64 n1)]), h1)
theorem e112 (rec : Rec) (k : Nat) (v0 : Value) (v1 : Value) (h : H) : bodyT Tryd.prog E0 SC (XC Tryd.prog rec k) 112 (Value × H) [.opq v0, .opq v1] h (fun v h => some (v, h)) = f112 rec k v0 v1 h := by kernel_rfl
theorem t112 {k : Nat} {v0 : Value} {v1 : Value} {h h1 : H} {v : Value} (hh : f112 rn k v0 v1 h = some (v, h1)) : rn 112 #[v0, v1] h = some (v, trunc Tryd.prog h h1 v) :=
  run_of_bodyT (args := [.opq v0, .opq v1]) rfl ((e112 _ _ _ _ _).trans hh)
theorem p112 {k : Nat} {v0 : Value} {v1 : Value} {h h1 : H} {v : Value} (hh : f112 rn k v0 v1 h = some (v, h1)) (hp : plainO v = true) (x : Ext h h1) : rn 112 #[v0, v1] h = some (v, h) := by rw [t112 hh, trunc_pure hp x]
noncomputable def f119 (_rec : Rec) (_k : Nat) (v0 : Value) (v1 : Value) (h0 : H) : Option (Value × H) :=
 asI .u64 v0 fun n0 =>
 asI .u64 v0 fun n1 =>
 nn 32 (
 asI .u64 v1 fun n2 =>
 asI .u64 v1 fun n3 =>
 nn 32 (
 nn 32 (
 nn 32 (
 nn 32 (
 asI .u64 v0 fun n4 =>
 asI .u64 v1 fun n5 =>
 some ((.tuple #[(.int .u64 (add .u64 (add .u64 (mul .u64 (shr .u64 n1 32) (shr .u64 n3 32)) (shr .u64 (add .u64 (mul .u64 (shr .u64 n1 32) (and .u64 n2 4294967295)) (shr .u64 (mul .u64 (and .u64 n0 4294967295) (and .u64 n2 4294967295)) 32)) 32)) (shr .u64 (add .u64 (and .u64 (add .u64 (mul .u64 (shr .u64 n1 32) (and .u64 n2 4294967295)) (shr .u64 (mul .u64 (and .u64 n0 4294967295) (and .u64 n2 4294967295)) 32)) 4294967295) (mul .u64 (and .u64 n0 4294967295) (shr .u64 n3 32))) 32))), (.int .u64 (mul .u64 n4 n5))]), h0))))))
theorem e119 (rec : Rec) (k : Nat) (v0 : Value) (v1 : Value) (h : H) : bodyT Tryd.prog E0 SC (XC Tryd.prog rec k) 119 (Value × H) [.opq v0, .opq v1] h (fun v h => some (v, h)) = f119 rec k v0 v1 h := by kernel_rfl
theorem t119 {k : Nat} {v0 : Value} {v1 : Value} {h h1 : H} {v : Value} (hh : f119 rn k v0 v1 h = some (v, h1)) : rn 119 #[v0, v1] h = some (v, trunc Tryd.prog h h1 v) :=
  run_of_bodyT (args := [.opq v0, .opq v1]) rfl ((e119 _ _ _ _ _).trans hh)
theorem p119 {k : Nat} {v0 : Value} {v1 : Value} {h h1 : H} {v : Value} (hh : f119 rn k v0 v1 h = some (v, h1)) (hp : plainO v = true) (x : Ext h h1) : rn 119 #[v0, v1] h = some (v, h) := by rw [t119 hh, trunc_pure hp x]
noncomputable def f100_l1 (_rec : Rec) (_k : Nat) (v4 : Value) (ws0 : List Value) (h4 : H) : Option (Ex × List Value × H) :=
 len v4 fun n5 =>
 asI .i64 (gv ws0 0) fun n6 =>
 ifB (lt n6 n5) (
 sli Tryd.prog h4 22 v4 (some (gv ws0 0)) none none fun v5 =>
 sli Tryd.prog h4 22 v4 none (some (gv ws0 0)) none fun v6 =>
 cpy Tryd.prog h4 22 v5 v6 fun n7 h5 =>
 asI .i64 (gv ws0 0) fun n8 =>
 out .normal [(.int .i64 (add .i64 n8 n7))] h5) (
 out (.exit 0) [gv ws0 0] h4)
noncomputable def f100 (rec : Rec) (k : Nat) (v0 : Value) (n0 : Int) (h0 : H) : Option (Value × H) :=
 ifB (lt n0 0) (
 none) (
 len v0 fun n1 =>
 calls rec h0 112 [(.int .u64 (wr .u64 n1)), (.int .u64 (wr .u64 n0))] fun v1 h1 =>
 ext v1 0 fun v2 =>
 asI .u64 v2 fun n2 =>
 ext v1 1 fun v3 =>
 asI .u64 v3 fun n3 =>
 ifB (lt 0 n2) (
 none) (
 ifB (lt 9223372036854775807 n3) (
 none) (
 mks Tryd.prog h1 22 (wr .i64 n3) (wr .i64 n3) fun v4 h2 =>
 cpy Tryd.prog h2 22 v4 v0 fun n4 h3 =>
 lp k (f100_l1 rec k v4) [(.int .i64 n4)] h3 fun e0 _ h6 =>
 onE e0 0 (
 some (v4, h6)) (
 none))))
theorem e100 (rec : Rec) (k : Nat) (v0 : Value) (n0 : Int) (h : H) : bodyT Tryd.prog E0 SC (XC Tryd.prog rec k) 100 (Value × H) [.opq v0, .int .i64 n0] h (fun v h => some (v, h)) = f100 rec k v0 n0 h := by kernel_rfl
theorem t100 {k : Nat} {v0 : Value} {n0 : Int} {h h1 : H} {v : Value} (hh : f100 rn k v0 n0 h = some (v, h1)) : rn 100 #[v0, .int .i64 n0] h = some (v, trunc Tryd.prog h h1 v) :=
  run_of_bodyT (args := [.opq v0, .int .i64 n0]) rfl ((e100 _ _ _ _ _).trans hh)
theorem x100 {k : Nat} {v0 : Value} {n0 : Int} {h h1 : H} {v : Value} (hh : f100 rn k v0 n0 h = some (v, h1)) (hp : plainO v = false) : ∃ h2, rn 100 #[v0, .int .i64 n0] h = some (v, h2) ∧ Sm h1 h2 ∧ (Ext h h1 → Exw h h2) := trunc_cell hp (t100 hh)
end Go.AM
end

section
namespace Go.AM
open Go.Proofs
variable {R : Type}
/-- A new variable. -/
def H.var (h : H) (k : Blk) : H := ⟨fun i => if i = h.nx then some k else h.blk i, h.nx + 1, h.wr + 1⟩
theorem new_set (h : H) (k k' : Blk) : (h.new k).set h.nx k' = h.var k' := by
  unfold H.new H.set H.var
  simp only [H.mk.injEq, and_true]
  funext i
  by_cases hi : i = h.nx <;> simp [hi]
theorem var_at (h : H) (k : Blk) : (h.var k).blk h.nx = some k := if_pos rfl
theorem var_lt (h : H) (k : Blk) {b : Nat} (hb : b < h.nx) : (h.var k).blk b = h.blk b := if_neg (Nat.ne_of_lt hb)
theorem Ext.var (h : H) (k : Blk) : Ext h (h.var k) := ⟨Nat.le_succ _, fun b hb => var_lt h k hb⟩
theorem wrc_two {h : H} {b : Nat} {e : TypeId} {a0 a1 x y : Value} (hb : h.blk b = some (.row [a0, a1] e true)) (hx : scal x = true) (hy : scal y = true) : wrc 2 h b 0 (.agg #[x, y]) = some (h.set b (.row [x, y] e true)) := by
  simp [wrc, hb, hx, hy, setAt, Value.cells]
/-- A variable of two cells that is set at once. -/
theorem al_two {h : H} {t : TypeId} {a0 a1 x y : Value} (hs : size? Tryd.prog t = some 2) (hx : scal x = true) (hy : scal y = true) (K : H → Option R) :
    (al h t [a0, a1] fun h1 => st Tryd.prog h1 t (nx h) 0 (.agg #[x, y]) K) = K (h.var (.row [x, y] t true)) := by
  rw [al_eq, st_S hs, nx_eq, wrc_two (blk_new_self _ _) hx hy, Option.bind_some, new_set]
theorem rd_two {h : H} {b : Nat} {e : TypeId} {w : Bool} {x y : Value} (hb : h.blk b = some (.row [x, y] e w)) : h.rd b 0 2 = some [x, y] := by
  rw [rd_of hb]; rfl
/-- A spot. -/
def spC (x : Spot) : List Value := [iv (x.1 : Nat), .bool x.2]
def spV (x : Spot) : Value := .agg #[iv (x.1 : Nat), .bool x.2]
abbrev cellsS (l : List Spot) : List (List Value) := l.map spC
theorem app130 : okApp Tryd.prog 130 129 2 = true := by kernel_rfl
theorem bls130 (x : Spot) (h : H) : buildSlice Tryd.prog 130 1 [(0, spV x)] h = some (.slice (some ⟨h.nx, 0, none⟩) 1 1, h.new (.row (spC x) 129 true)) := by kernel_rfl
theorem kbld129 (a : Int) (q : Bool) (K : Value → Option R) : bld Tryd.prog 129 [(0, .int .i64 a), (1, .bool q)] K = K (.agg #[.int .i64 a, .bool q]) := bld_some (by kernel_rfl)
/-- The state of the search, in the heap. -/
structure FlH (g : List Nat) (s t lo : Nat) (tv : Value) (fb nb bb : Nat) (first : Nat) (nxt : List Int) (bf : List Value) (h : H) : Prop where
  tvs : SlR h 3 1 tv (cellsN g)
  tvlo : ∀ b, blkOf tv = some b → b < lo
  f : h.blk fb = some (.row [tv, iv s, iv t, iv first, .slice (some ⟨nb, 0, none⟩) nxt.length nxt.length, .slice (some ⟨bb, 0, none⟩) bf.length bf.length] 115 true)
  n : h.blk nb = some (.row (nxt.map iv) 3 true)
  b : h.blk bb = some (.row bf 3 true)
  ne : fb ≠ nb ∧ fb ≠ bb ∧ nb ≠ bb
  lo : lo ≤ fb ∧ lo ≤ nb ∧ lo ≤ bb
  lt : fb < h.nx ∧ nb < h.nx ∧ bb < h.nx
section
variable {g : List Nat} {s t lo fb nb bb first : Nat} {tv : Value} {nxt : List Int} {bf : List Value} {h : H}
theorem FlH.ext (a : FlH g s t lo tv fb nb bb first nxt bf h) {h' : H} (x : Ext h h') : FlH g s t lo tv fb nb bb first nxt bf h' :=
  ⟨a.tvs.ext x, a.tvlo, (x.blk _ a.lt.1).trans a.f, (x.blk _ a.lt.2.1).trans a.n, (x.blk _ a.lt.2.2).trans a.b, a.ne, a.lo, Nat.lt_of_lt_of_le a.lt.1 x.nx, Nat.lt_of_lt_of_le a.lt.2.1 x.nx, Nat.lt_of_lt_of_le a.lt.2.2 x.nx⟩
theorem FlH.ldT (a : FlH g s t lo tv fb nb bb first nxt bf h) (K : Value → Option R) : ld Tryd.prog h 78 fb 0 K = K tv := by rw [d78, cell_of a.f]; rfl
theorem FlH.lds (a : FlH g s t lo tv fb nb bb first nxt bf h) (K : Value → Option R) : ld Tryd.prog h 3 fb (off 0 1) K = K (iv s) := by rw [d3, cell_of a.f]; rfl
theorem FlH.ldt (a : FlH g s t lo tv fb nb bb first nxt bf h) (K : Value → Option R) : ld Tryd.prog h 3 fb (off 0 2) K = K (iv t) := by rw [d3, cell_of a.f]; rfl
theorem FlH.ldf (a : FlH g s t lo tv fb nb bb first nxt bf h) (K : Value → Option R) : ld Tryd.prog h 3 fb (off 0 3) K = K (iv first) := by rw [d3, cell_of a.f]; rfl
theorem FlH.ldn (a : FlH g s t lo tv fb nb bb first nxt bf h) (K : Value → Option R) : ld Tryd.prog h 22 fb (off 0 4) K = K (.slice (some ⟨nb, 0, none⟩) nxt.length nxt.length) := by rw [d22, cell_of a.f]; rfl
theorem FlH.ldb (a : FlH g s t lo tv fb nb bb first nxt bf h) (K : Value → Option R) : ld Tryd.prog h 22 fb (off 0 5) K = K (.slice (some ⟨bb, 0, none⟩) bf.length bf.length) := by rw [d22, cell_of a.f]; rfl
theorem six_at {b n c i : Nat} (hi : i < n) (K : Nat → Nat → Option R) : six (.slice (some ⟨b, 0, none⟩) n c) (i : Int) 1 K = K b i := by
  rw [six_in (by omega) (by omega)]
  congr 1
  simp
theorem FlH.getn (a : FlH g s t lo tv fb nb bb first nxt bf h) {i : Nat} {x : Int} (hx : nxt[i]? = some x) (K : Value → Option R) : (six (.slice (some ⟨nb, 0, none⟩) nxt.length nxt.length) (i : Int) 1 fun b o => ld Tryd.prog h 3 b o K) = K (iv x) := by
  rw [six_at (List.getElem?_eq_some_iff.1 hx).1, d3, cell_of a.n, List.getElem?_map, hx]; rfl
theorem FlH.getb (a : FlH g s t lo tv fb nb bb first nxt bf h) {i : Nat} {x : Value} (hx : bf[i]? = some x) (K : Value → Option R) : (six (.slice (some ⟨bb, 0, none⟩) bf.length bf.length) (i : Int) 1 fun b o => ld Tryd.prog h 3 b o K) = K x := by
  rw [six_at (List.getElem?_eq_some_iff.1 hx).1, d3, cell_of a.b, hx]; rfl
theorem nilp (b o : Nat) (x : Option R) : AM.nil (pt b o) x = x := rfl
/-- Back along the way. -/
theorem s120 (a : FlH g s t lo tv fb nb bb first nxt bf h) (w : StW g s t first nxt bf) {v : Nat} (ho : onW s nxt v = true) : rn 120 #[pt fb 0, iv v] h = some (spV (predW s first nxt v, true), h) := by
  obtain ⟨_, _, hb, _⟩ := w.back ho
  have a1 := a.ext (.new h (.row [iv 0, .bool false] 129 true))
  refine p120 (k := 0) (h1 := h.var (.row (spC (predW s first nxt v, true)) 129 true)) ?_ rfl (.var _ _)
  unfold f120
  rw [al_eq, nilp, asP_ptr, a1.ldb, a1.getb hb, asI_int, kbld129, w129, nx_eq, wrc_two (blk_new_self _ _) rfl rfl, Option.bind_some, new_set, d129, rd_two (var_at _ _), Option.bind_some]
  rfl
end
end Go.AM
end

section
namespace Go.AM
section
variable {P : Program} {E : Env}
theorem run_getIter {w : World} {r : Nat} {m : Option Nat} {c last : Nat} {seen : Array Nat} (h : w.heap[r]? = some (.mapIter m c seen last)) : (getObj r).run P w = .ok (.mapIter m c seen last) w := by
  simp [getObj, Sem.run, h]
theorem run_setIter {w : World} {r : Nat} {m : Option Nat} {c last : Nat} {seen : Array Nat} (o : Obj) (h : w.heap[r]? = some (.mapIter m c seen last)) : (setObj r o).run P w = .ok () { w with heap := w.heap.setIfInBounds r o } := by
  simp [setObj, Sem.run, h]
/-- The same world, but for how often the tape was asked. -/
def Same (w w1 : World) : Prop := ∃ k, w1 = { w with drawn := k }
theorem Same.refl (w : World) : Same w w := ⟨w.drawn, rfl⟩
theorem run_chooseMap {n : Nat} (hn : 0 < n) (w : World) : ∃ i w1, i < n ∧ Same w w1 ∧ (choose (.mapNext n)).run P w = .ok i w1 := by
  unfold choose
  simp only [Sem.run]
  by_cases hf : (Question.mapNext n).forced = true
  · rw [if_pos hf]
    exact ⟨0, w, hn, .refl w, rfl⟩
  · rw [if_neg hf]
    exact ⟨_, _, Nat.mod_lt _ hn, ⟨_, rfl⟩, rfl⟩
theorem next_run {w : World} {r m c : Nat} {seen : Array Nat} {es : Array MapEntry} (T : TypeId) (ho : w.heap[r]? = some (.mapIter (some m) c seen c)) (hm : w.heap[m]? = some (.map es c)) (hb : ∀ e ∈ es, e.born < c) :
    (∃ e ∈ es, e.born ∉ seen ∧ ∃ w1, Same w w1 ∧ (Instr.next (.pointer (some ⟨r, 0, none⟩)) false T).run P w = .ok (.tuple #[.bool true, e.key, e.val]) { w1 with heap := w1.heap.setIfInBounds r (.mapIter (some m) c (seen.push e.born) c) }) ∨
    ((∀ e ∈ es, e.born ∈ seen) ∧ ∃ w1, Same w w1 ∧ (Instr.next (.pointer (some ⟨r, 0, none⟩)) false T).run P w = .ok (.tuple #[.bool false]) w1) := by
  have hmr : (getObj m).run P w = .ok (.map es c) w := by simp [getObj, Sem.run, hm]
  have hno : (!seen.isEmpty && !es.isEmpty && es.all (fun e => decide (e.born ≥ c))) = false := by
    rw [Bool.eq_false_iff]
    intro h
    simp only [Bool.and_eq_true, Bool.not_eq_true'] at h
    obtain ⟨⟨_, h1⟩, h2⟩ := h
    rw [Array.all_eq_true] at h2
    have hs : 0 < es.size := by
      refine Nat.pos_of_ne_zero fun h0 => ?_
      rw [Array.isEmpty_iff_size_eq_zero.2 h0] at h1; cases h1
    have h3 := h2 0 hs
    have h4 := hb es[0] (Array.getElem_mem hs)
    simp at h3
    omega
  have hold : (es.filter fun e => !seen.contains e.born).filter (fun e => decide (e.born < c)) = es.filter fun e => !seen.contains e.born := by
    rw [Array.filter_eq_self]
    intro e he
    exact decide_eq_true (hb e (Array.mem_filter.1 he).1)
  have hnew : (es.filter fun e => !seen.contains e.born).filter (fun e => decide (e.born ≥ c)) = #[] := by
    rw [Array.filter_eq_empty_iff]
    intro e he
    have := hb e (Array.mem_filter.1 he).1
    simp
    omega
  let left := es.filter fun e => !seen.contains e.born
  let cand : Array (Option MapEntry) := (if left.isEmpty then #[none] else #[]) ++ (left ++ #[]).map some
  have hrun : ∀ {res : Result Value}, ((do
      match cand[← choose (.mapNext cand.size)]? with
      | some (some e) =>
        setObj r (.mapIter (some m) c (seen.push e.born) c)
        pure (.tuple #[.bool true, e.key, e.val])
      | some none => pure (.tuple #[.bool false])
      | none => stuck "Next: no such candidate" : Sem Value)).run P w = res → (Instr.next (.pointer (some ⟨r, 0, none⟩)) false T).run P w = res := by
    intro res hres
    rw [← hres]
    unfold Instr.next
    simp only [Sem.run_bind, run_getIter ho, hmr, Result.andThen_ok, hno, Bool.false_eq_true, if_false, hold, hnew, Sem.run_pure]
    rfl
  have hc0 : 0 < cand.size := by
    show 0 < ((if left.isEmpty then #[none] else #[]) ++ (left ++ #[]).map some : Array (Option MapEntry)).size
    by_cases hl : left.isEmpty = true
    · rw [if_pos hl]; simp; omega
    · rw [if_neg hl]
      simp only [Array.isEmpty_iff_size_eq_zero] at hl
      simp
      omega
  obtain ⟨i, w1, hi, hs, hch⟩ := run_chooseMap (P := P) hc0 w
  have hget : cand[i]? = some cand[i] := Array.getElem?_eq_getElem hi
  have hs1 : w1.heap = w.heap := by obtain ⟨k, rfl⟩ := hs; rfl
  by_cases hl : left.isEmpty = true
  · right
    have hl0 : left = #[] := by simpa using hl
    have hcd : cand = #[none] := by
      show ((if left.isEmpty then #[none] else #[]) ++ (left ++ #[]).map some : Array (Option MapEntry)) = _
      rw [if_pos hl, hl0]; simp
    refine ⟨fun e he => ?_, w1, hs, hrun ?_⟩
    · refine Classical.byContradiction fun hc => ?_
      have : e ∈ left := Array.mem_filter.2 ⟨he, by simp [Array.contains_iff_mem, hc]⟩
      rw [hl0] at this
      simp at this
    · have hin : cand[i]? = some none := by
        rw [hget]
        have hi' : i = 0 := by rw [hcd] at hi; simp at hi; exact hi
        subst hi'
        simp [hcd]
      simp only [Sem.run_bind, hch, Result.andThen_ok, hin, Sem.run_pure]
  · left
    have hcd : cand = left.map some := by
      show ((if left.isEmpty then #[none] else #[]) ++ (left ++ #[]).map some : Array (Option MapEntry)) = _
      rw [if_neg hl]; simp
    have hil : i < left.size := by rw [hcd] at hi; simpa using hi
    have hin : cand[i]? = some (some left[i]) := by
      rw [hcd, Array.getElem?_map, Array.getElem?_eq_getElem hil]; rfl
    have hmem := Array.mem_filter.1 (Array.getElem_mem hil)
    refine ⟨left[i], hmem.1, by have := hmem.2; simpa [Array.contains_iff_mem] using this, w1, hs, hrun ?_⟩
    simp only [Sem.run_bind, hch, Result.andThen_ok, hin, run_setIter (m := some m) (c := c) (last := c) (seen := seen) _ (show w1.heap[r]? = _ by rw [hs1]; exact ho), Sem.run_pure]
theorem entry_run {w : World} {r m c : Nat} {seen : Array Nat} {es : Array MapEntry} {e : MapEntry} (ho : w.heap[r]? = some (.mapIter (some m) c (seen.push e.born) c)) (hm : w.heap[m]? = some (.map es c)) (he : es.find? (fun x => x.born == e.born) = some e) :
    (Instr.entry (.pointer (some ⟨r, 0, none⟩))).run P w = .ok (.tuple #[e.key, e.val]) w := by
  have hmr : (getObj m).run P w = .ok (.map es c) w := by simp [getObj, Sem.run, hm]
  unfold Instr.entry
  simp only [Sem.run_bind, run_getIter ho, hmr, Result.andThen_ok, Array.back?_push, bne_self_eq_false, Bool.false_eq_true, if_false, he, Sem.run_pure]
end
end Go.AM
end

section
namespace Go.AM
section
variable {P : Program} {E : Env}
/-- Wherever the abstract heap and slots are these, the code comes to one of what K says. -/
def Sd (P : Program) (E : Env) (c : Code) (t : Array Value) (h : H) (K : Ex → Array Value → H → Prop) : Prop :=
  ∀ (ι : Nat → Emb) (w : World) (a : Act) (Q : Exit → Act → World → Prop), Rel P E ι h w → AR ι h.nx t a.tmps → (∀ e t' h', K e t' h' → Post P E ι h w a.defers t' h' (Q e.toExit)) → c.wp P Q a w
theorem Sd.mono {c : Code} {t : Array Value} {h : H} {K K' : Ex → Array Value → H → Prop} (s : Sd P E c t h K) (hk : ∀ e t' h', K e t' h' → K' e t' h') : Sd P E c t h K' :=
  fun ι w a Q r ht hQ => s ι w a Q r ht fun e t' h' k => hQ e t' h' (hk e t' h' k)
theorem Sd.code {rec : Rec} (hrec : SoundR P E rec) (hdraw : DrawOk P E rec) {k : Nat} {c : Code} {t t' : Array Value} {h h' : H} {e : Ex} {K : Ex → Array Value → H → Prop} (hc : code P E rec k c t h = some (e, t', h')) (hK : K e t' h') : Sd P E c t h K :=
  fun ι w a Q r ht hQ => (code_sound hrec hdraw k c _ _ _ _ _ hc).2 ι w a Q r ht (hQ _ _ _ hK)
theorem Sd.seq {x y : Code} {t : Array Value} {h : H} {K : Ex → Array Value → H → Prop} (s : Sd P E x t h fun e t' h' => match e with
    | .normal => Sd P E y t' h' K
    | e => K e t' h') : Sd P E (.seq x y) t h K := by
  intro ι w a Q r ht hQ
  refine wp_seq (s ι w a _ r ht fun e t' h' hk => ?_)
  cases e with
  | normal =>
    intro ι1 a1 w1 q1 q2 q3 q4
    refine hk ι1 w1 a1 Q q2 q3 fun e2 t2 h2 k2 => ?_
    rw [q4]
    exact (hQ e2 t2 h2 k2).step q1
  | exit i => exact hQ _ _ _ hk
  | ret => exact hQ _ _ _ hk
theorem Sd.block {id : Nat} {x : Code} {t : Array Value} {h : H} {K : Ex → Array Value → H → Prop} (s : Sd P E x t h fun e t' h' => match e with
    | .exit i => if i = id then K .normal t' h' else K (.exit i) t' h'
    | e => K e t' h') : Sd P E (.block id x) t h K := by
  intro ι w a Q r ht hQ
  refine wp_block (s ι w a _ r ht fun e t' h' hk => ?_)
  cases e with
  | normal => exact hQ _ _ _ hk
  | exit i =>
    simp only at hk
    intro ι1 a1 w1 q1 q2 q3 q4
    simp only [Ex.toExit, Exit.inBlock]
    by_cases hi : i = id
    · rw [if_pos hi] at hk ⊢
      exact hQ _ _ _ hk ι1 a1 w1 q1 q2 q3 q4
    · rw [if_neg hi] at hk ⊢
      exact hQ _ _ _ hk ι1 a1 w1 q1 q2 q3 q4
  | ret => exact hQ _ _ _ hk
/-- A loop of so many rounds. -/
def Rds (P : Program) (E : Env) (c : Code) (m : Nat) (t : Array Value) (h : H) (K : Ex → Array Value → H → Prop) : Prop :=
  ∀ (ι : Nat → Emb) (w : World) (a : Act) (Q : Exit → Act → World → Prop), Rel P E ι h w → AR ι h.nx t a.tmps → (∀ e t' h', K e t' h' → Post P E ι h w a.defers t' h' (Q e.toExit)) → Code.rounds P c Q m a w
theorem Sd.loop {m : Nat} {c : Code} {t : Array Value} {h : H} {K : Ex → Array Value → H → Prop} (s : Rds P E c m t h K) : Sd P E (.loop c) t h K :=
  fun ι w a Q r ht hQ => wp_loop_rounds m (s ι w a Q r ht hQ)
theorem Rds.succ {m : Nat} {c : Code} {t : Array Value} {h : H} {K : Ex → Array Value → H → Prop} (s : Sd P E c t h fun e t' h' => match e with
    | .normal => Rds P E c m t' h' K
    | e => K e t' h') : Rds P E c (m + 1) t h K := by
  intro ι w a Q r ht hQ
  rw [rounds_succ]
  refine s ι w a _ r ht fun e t' h' hk => ?_
  cases e with
  | normal =>
    intro ι1 a1 w1 q1 q2 q3 q4
    refine hk ι1 w1 a1 Q q2 q3 fun e2 t2 h2 k2 => ?_
    rw [q4]
    exact (hQ e2 t2 h2 k2).step q1
  | exit i => exact hQ _ _ _ hk
  | ret => exact hQ _ _ _ hk
def isReg (hk : Nat) : Code → Bool
  | .region id _ _ => Nat.beq id hk
  | _ => false
def codeH (P : Program) (E : Env) (S : Sc) (X : (R : Type) → Xs R) (N hk : Nat) (ins : List Nat) (RG : List Value → H → Option (Ex × List Value × H)) : Code → List Nat → (R : Type) → SEnv → H → (Ex → SEnv → H → Option R) → Option R
  | .seq a b, lv, R, env, h, K =>
    cond (isReg hk a)
      (toVs (ins.map env) fun ws => (X R).lp RG ws h fun _ _ h => K .normal (fun i => if (writ (.seq a b)).contains i then .top else env i) h)
      (codeH P E S X N hk ins RG a (ue b ++ lv) R env h fun e env h =>
        match e with
        | .normal => codeH P E S X N hk ins RG b lv R env h K
        | e => K e env h)
  | .cond c a b, lv, R, env, h, K =>
    if !okOperand E c then none else
    toC (X R) (evS env c) fun q =>
      if q then codeH P E S X N hk ins RG a lv R (setK env c true) h K else codeH P E S X N hk ins RG b lv R (setK env c false) h K
  | .block id c, lv, R, env, h, K => codeH P E S X N hk ins RG c lv R env h fun e env h =>
    match e with
    | .exit i => if i = id then K .normal env h else K (.exit i) env h
    | e => K e env h
  | .loop c, lv, R, env, h, K =>
    toVs ((carr c lv).map env) fun ws =>
    (X R).lp
      (fun ws h => codeH P E S X N hk ins RG c (ue c ++ lv) (Ex × List Value × H) (mixed S c lv env ws) h fun e env h => toVs ((carr c lv).map env) fun ws => (X R).out e ws h)
      ws h
      fun e ws h => onEx (X R) e (fun e => K e (mixed S c lv env ws) h) (exitsOf c) (retsOf c)
  | c, lv, R, env, h, K => codeT P E S X N c lv R env h K
section
variable {rec : Rec} {k N hk : Nat} {ins : List Nat} {RG : List Value → H → Option (Ex × List Value × H)}
/-- The function tells what the piece does. -/
def RgOk (P : Program) (E : Env) (N hk : Nat) (ins : List Nat) (RG : List Value → H → Option (Ex × List Value × H)) (c : Code) : Prop :=
  ∀ (t : Array Value) (h h' : H) (e : Ex) (ws' : List Value), t.size = N → RG (ins.map fun i => t.getD i undef) h = some (e, ws', h') →
    e = .ret ∧ Sd P E c t h fun e t' h'' => e = .normal ∧ h'' = h' ∧ t'.size = N ∧ ∀ i, i ∉ writ c → t'.getD i undef = t.getD i undef
/-- The pieces that begin with the region. -/
def pieces (hk : Nat) : Code → List Code
  | .seq a b => (if isReg hk a then [.seq a b] else []) ++ pieces hk a ++ pieces hk b
  | .cond _ a b => pieces hk a ++ pieces hk b
  | .block _ c => pieces hk c
  | .loop c => pieces hk c
  | _ => []
theorem codeH_sd (hrec : SoundR P E rec) (hdraw : DrawOk P E rec) : ∀ (c : Code), (∀ x ∈ pieces hk c, RgOk P E N hk ins RG x) → ∀ {lv : List Nat} {R : Type} {r : R} {t : Array Value} {env : SEnv} {h : H} {K : Ex → SEnv → H → Option R}, TE N t env →
    codeH P E SC (XC P rec k) N hk ins RG c lv R env h K = some r →
    Sd P E c t h fun e t' h' => (∃ env', TE N t' env' ∧ K e env' h' = some r) ∧ ∀ i, i ∉ writ c → t'.getD i undef = t.getD i undef := by
  have plain : ∀ (c : Code) {lv : List Nat} {R : Type} {r : R} {t : Array Value} {env : SEnv} {h : H} {K : Ex → SEnv → H → Option R}, TE N t env →
      codeT P E SC (XC P rec k) N c lv R env h K = some r → Sd P E c t h fun e t' h' => (∃ env', TE N t' env' ∧ K e env' h' = some r) ∧ ∀ i, i ∉ writ c → t'.getD i undef = t.getD i undef := by
    intro c lv R r t env h K ht hh
    obtain ⟨e, t', env', h', h1, h2, h3⟩ := codeT_some c ht hh
    exact Sd.code hrec hdraw h1 ⟨⟨env', h2, h3⟩, fun i hi => code_writ c hi h1⟩
  intro c
  induction c with
  | seq a b iha ihb =>
    intro hp lv R r t env h K ht hh
    unfold codeH at hh
    cases hr : isReg hk a with
    | true =>
      rw [hr] at hh
      simp only [cond_true] at hh
      have hh := toVs_env ht _ hh
      obtain ⟨⟨e, ws', h'⟩, h1, hh⟩ := bind_some' hh
      have h1' : lpGo RG k (ins.map fun i => t.getD i undef) h = some (e, ws', h') := h1
      cases k with
      | zero => cases h1'
      | succ k =>
        unfold lpGo at h1'
        obtain ⟨⟨e1, ws1, h2⟩, q1, q2⟩ := bind_some' h1'
        obtain ⟨rfl, sd⟩ := hp (.seq a b) (by unfold pieces; simp [hr]) t h h2 e1 ws1 ht.1 q1
        cases q2
        refine sd.mono ?_
        rintro e t' h'' ⟨rfl, rfl, hz, hw⟩
        refine ⟨⟨_, ⟨hz, fun i => ?_⟩, hh⟩, hw⟩
        by_cases hi : (writ (.seq a b)).contains i = true
        · rw [if_pos hi]; exact .inl rfl
        · rw [if_neg hi, hw i (by simpa using hi)]; exact ht.2 i
    | false =>
      rw [hr] at hh
      simp only [cond_false] at hh
      have pa : ∀ x ∈ pieces hk a, RgOk P E N hk ins RG x := fun x hx => hp x (by unfold pieces; simp [hx])
      have pb : ∀ x ∈ pieces hk b, RgOk P E N hk ins RG x := fun x hx => hp x (by unfold pieces; simp [hx])
      refine Sd.seq ((iha pa ht hh).mono ?_)
      rintro e t' h' ⟨⟨env', h2, h3⟩, h4⟩
      have wr : ∀ i, i ∉ writ (.seq a b) → i ∉ writ a ∧ i ∉ writ b := fun i hi => by
        constructor <;> (intro hx; exact hi (List.mem_eraseDups.2 (by simp [hx])))
      cases e with
      | normal =>
        refine (ihb pb h2 h3).mono ?_
        rintro e2 t2 h2' ⟨q1, q2⟩
        exact ⟨q1, fun i hi => by rw [q2 i (wr i hi).2, h4 i (wr i hi).1]⟩
      | exit j => exact ⟨⟨env', h2, h3⟩, fun i hi => h4 i (wr i hi).1⟩
      | ret => exact ⟨⟨env', h2, h3⟩, fun i hi => h4 i (wr i hi).1⟩
  | cond c a b iha ihb =>
    intro hp lv R r t env h K ht hh
    unfold codeH at hh
    have pa : ∀ x ∈ pieces hk a, RgOk P E N hk ins RG x := fun x hx => hp x (by unfold pieces; simp [hx])
    have pb : ∀ x ∈ pieces hk b, RgOk P E N hk ins RG x := fun x hx => hp x (by unfold pieces; simp [hx])
    have wr : ∀ i, i ∉ writ (.cond c a b) → i ∉ writ a ∧ i ∉ writ b := fun i hi => by
      constructor <;> (intro hx; exact hi (List.mem_eraseDups.2 (by simp [hx])))
    split at hh
    · cases hh
    · rename_i ho
      have hok : okOperand E c = true := by simpa using ho
      obtain ⟨q, hq, h1⟩ := toC_some (ht.ev c) hh
      intro ι w act Q rl har hQ
      have hv := ev_rel rl har hok
      rw [hq] at hv
      generalize hce : act.eval c = u at hv
      cases hv
      cases q with
      | true => exact wp_cond (t := true) hce ((iha pa (ht.setK hq) h1) ι w act Q rl har fun e t' h' ⟨k1, k2⟩ => hQ e t' h' ⟨k1, fun i hi => k2 i (wr i hi).1⟩)
      | false => exact wp_cond (t := false) hce ((ihb pb (ht.setK hq) h1) ι w act Q rl har fun e t' h' ⟨k1, k2⟩ => hQ e t' h' ⟨k1, fun i hi => k2 i (wr i hi).2⟩)
  | block id c ih =>
    intro hp lv R r t env h K ht hh
    unfold codeH at hh
    refine Sd.block ((ih hp ht hh).mono ?_)
    rintro e t' h' ⟨⟨env', h2, h3⟩, h4⟩
    cases e with
    | normal => exact ⟨⟨env', h2, h3⟩, h4⟩
    | exit i =>
      simp only at h3 ⊢
      split at h3
      · rename_i ei; rw [if_pos ei]; exact ⟨⟨env', h2, h3⟩, h4⟩
      · rename_i ei; rw [if_neg ei]; exact ⟨⟨env', h2, h3⟩, h4⟩
    | ret => exact ⟨⟨env', h2, h3⟩, h4⟩
  | loop c ih =>
    intro hp lv R r t env h K ht hh
    unfold codeH at hh
    replace hh := toVs_env ht _ hh
    obtain ⟨⟨e, ws', h'⟩, h1, hh⟩ := bind_some' hh
    have h2 := onEx_some _ hh
    have h0 : TE N t (mixed SC c lv env ((carr c lv).map fun i => t.getD i undef)) := ⟨ht.1, mixed_is (fun i j hj => carr_gv (g := fun i => t.getD i undef) hj) (fun i _ => ht.2 i)⟩
    have key : ∀ (m : Nat) {t : Array Value} {h : H} {ws : List Value} {e : Ex} {ws' : List Value} {h' : H}, TE N t (mixed SC c lv env ws) →
        lpGo (fun ws h => codeH P E SC (XC P rec k) N hk ins RG c (ue c ++ lv) (Ex × List Value × H) (mixed SC c lv env ws) h fun e env h => toVs ((carr c lv).map env) fun ws => (XC P rec k R).out e ws h) m ws h = some (e, ws', h') →
        Rds P E c m t h fun e' t' h'' => e' = e ∧ h'' = h' ∧ TE N t' (mixed SC c lv env ws') ∧ ∀ i, i ∉ writ c → t'.getD i undef = t.getD i undef := by
      intro m
      induction m with
      | zero => intro t h ws e ws' h' _ hh; cases hh
      | succ m ihm =>
        intro t h ws e ws' h' ht' hh
        unfold lpGo at hh
        obtain ⟨⟨e1, ws1, h1⟩, g1, g2⟩ := bind_some' hh
        refine Rds.succ ((ih hp ht' g1).mono ?_)
        rintro e2 t2 h2 ⟨⟨env2, k1, k2⟩, k3⟩
        replace k2 := toVs_env k1 _ k2
        replace k2 : some (e2, (carr c lv).map (fun i => t2.getD i undef), h2) = some (e1, ws1, h1) := k2
        cases k2
        have ht2 : TE N t2 (mixed SC c lv env ((carr c lv).map fun i => t2.getD i undef)) := by
          refine ⟨k1.1, mixed_is (fun i j hj => carr_gv (g := fun i => t2.getD i undef) hj) (fun i hi => ?_)⟩
          rw [k3 i hi]
          have := ht'.2 i
          unfold mixed at this
          split at this
          · rename_i j hj
            have h6 := List.mem_of_getElem? (posn_some _ _ _ hj).2
            exact absurd (List.mem_filter.1 h6).1 hi
          · rw [if_neg (by simpa using hi)] at this
            exact this
        cases e1 with
        | normal =>
          have := ihm ht2 g2
          intro ι w act Q rl har hQ
          exact this ι w act Q rl har fun e t' h'' ⟨a, b, c1, d⟩ => hQ e t' h'' ⟨a, b, c1, fun i hi => by rw [d i hi, k3 i hi]⟩
        | exit j => cases g2; exact ⟨rfl, rfl, ht2, k3⟩
        | ret => cases g2; exact ⟨rfl, rfl, ht2, k3⟩
    refine Sd.loop (m := k) ?_
    have := key k h0 h1
    intro ι w act Q rl har hQ
    exact this ι w act Q rl har fun e2 t' h'' ⟨a, b, c1, d⟩ => hQ e2 t' h'' ⟨⟨_, c1, by rw [a, b]; exact h2⟩, d⟩
  | skip => intro hp lv R r t env h K ht hh; unfold codeH at hh; exact plain _ ht hh
  | region id all d => intro hp lv R r t env h K ht hh; unfold codeH at hh; exact plain _ ht hh
  | exit id => intro hp lv R r t env h K ht hh; unfold codeH at hh; exact plain _ ht hh
  | ret => intro hp lv R r t env h K ht hh; unfold codeH at hh; exact plain _ ht hh
  | _ => intro hp lv R r t env h K ht hh; unfold codeH at hh; exact plain _ ht hh
end
end
end Go.AM
end

section
namespace Go.AM
/-- One block id more, which nobody reads. -/
def H.skip (h : H) : H := ⟨h.blk, h.nx + 1, h.wr⟩
/-- The parts of a loop over a map. -/
structure RgS where
  i0 : Nat
  b : Nat
  i1 : Nat
  b3 : Nat
  i2 : Nat
  qt : Nat
  d0 : Nat
  d1 : Nat
  d2 : Nat
  d3 : Nat
  d4 : Nat
  d5 : Nat
  T : TypeId
  o1 : Oper
  rg : Oper
  nx : Oper
  x1 : Oper
  en : Oper
  x2 : Oper
  sg : Oper
  B : Code
theorem cond_some {α : Type} {b : Bool} {x y : α} (h : cond b (some x) none = some y) : b = true ∧ x = y := by
  cases b with
  | true => cases h; exact ⟨rfl, rfl⟩
  | false => cases h
section
variable {P : Program} {E : Env}
/-- A new object that no block stands for. -/
theorem Rel.dead {ι : Nat → Emb} {h : H} {w : World} (r : Rel P E ι h w) (o : Obj) (e : Emb) : Tr ι h w (Emb.new ι h.nx e) h.skip (w.alloc o) ∧ Rel P E (Emb.new ι h.nx e) h.skip (w.alloc o) := by
  have hlt : ∀ {b}, b < h.nx → Emb.new ι h.nx e b = ι b := fun hb => Emb.new_lt ι _ e hb
  have hsz : w.heap.size ≤ (w.alloc o).heap.size := by rw [heap_push_size]; omega
  have hold : ∀ b k', h.blk b = some k' → (ι b).g < w.heap.size := fun b k' hb => (r.blk b k' hb).lt
  refine ⟨⟨by simp [H.skip], fun b hb => hlt hb, rfl, rfl, rfl, hsz, fun g hg _ => heap_push_lt w o hg, fun b k' hb' ho => .inl ⟨b, k', hb', ho, by rw [hlt (r.dom b k' hb')]⟩⟩, ⟨?_, ?_, ?_, ?_, ?_, ?_, ?_⟩⟩
  · intro b k' hb'
    have := r.dom b k' hb'
    simp only [H.skip]; omega
  · intro b k' hb'
    have hbl := r.dom b k' hb'
    have h1 := (r.blk b k' hb').mono (Nat.le_succ h.nx) (fun b hb => hlt hb) (hlt hbl)
    exact h1.congr (by rw [hlt hbl]; exact heap_push_lt w o (hold b k' hb')) hsz
  · intro b b' k1 k2 h1 h2 hne ho
    rw [hlt (r.dom b k1 h1), hlt (r.dom b' k2 h2)]
    exact r.inj b b' k1 k2 h1 h2 hne ho
  · simp only [H.skip]; exact Nat.le_succ_of_le r.ng
  · intro g hg
    rw [hlt (Nat.lt_of_lt_of_le hg r.ng)]
    exact r.glob g hg
  · intro g hg
    exact r.globB g hg
  · intro g k' hg hk'
    obtain ⟨h1, h2⟩ := r.globO g k' hg hk'
    have hgl := Nat.lt_of_lt_of_le hg r.ng
    refine ⟨h1, ?_⟩
    have h3 := h2.mono (Nat.le_refl _) (fun b hb => hlt (Nat.lt_of_lt_of_le hb r.ng)) (hlt hgl)
    exact h3.congr (by rw [hlt hgl]; exact heap_push_lt w o h2.lt) hsz
/-- The world with an object laid anew. -/
def setAtW (w : World) (r : Nat) (o : Obj) : World := { w with heap := w.heap.setIfInBounds r o }
theorem setAtW_ne {w : World} {r g : Nat} {o : Obj} (h : g ≠ r) : (setAtW w r o).heap[g]? = w.heap[g]? := by
  show (w.heap.setIfInBounds r o)[g]? = _
  rw [Array.getElem?_setIfInBounds_ne (Ne.symm h)]
theorem setAtW_size {w : World} {r : Nat} {o : Obj} : (setAtW w r o).heap.size = w.heap.size := by simp [setAtW]
theorem blk_iter {ι : Nat → Emb} {n r : Nat} {w : World} {b : Nat} {k : Blk} {mo : Option Nat} {c last : Nat} {seen : Array Nat} (o : Obj) (hr : w.heap[r]? = some (.mapIter mo c seen last)) (h : BlkR P ι n w b k) : BlkR P ι n (setAtW w r o) b k := by
  have hcell : ∀ a : Addr, a.block = r → w.cell? a = none := fun a ha => by
    unfold World.cell?
    rw [ha, hr]
  unfold BlkR at h ⊢
  split at h <;> rename_i hk
  · obtain ⟨C, E, h1, h2⟩ := h
    refine ⟨C, E, ?_, h2⟩
    rw [setAtW_ne (fun e => by rw [e, hr] at h1; cases h1)]; exact h1
  · obtain ⟨h1, h2, h3⟩ := h
    refine ⟨by rw [setAtW_size]; exact h1, h2, fun i v hv => ?_⟩
    obtain ⟨v', q1, q2⟩ := h3 i v hv
    refine ⟨v', ?_, q2⟩
    by_cases e : (ι b).g = r
    · rw [hcell _ e] at q1; cases q1
    · unfold World.cell? at q1 ⊢
      rw [setAtW_ne e]; exact q1
  · obtain ⟨es', h1, h2⟩ := h
    refine ⟨es', ?_, h2⟩
    rw [setAtW_ne (fun e => by rw [e, hr] at h1; cases h1)]; exact h1
theorem Rel.iter {ι : Nat → Emb} {h : H} {w : World} (rl : Rel P E ι h w) {r : Nat} {mo : Option Nat} {c last : Nat} {seen : Array Nat} (o : Obj) (hr : w.heap[r]? = some (.mapIter mo c seen last)) : Rel P E ι h (setAtW w r o) :=
  ⟨rl.dom, fun b k hb => blk_iter o hr (rl.blk b k hb), rl.inj, rl.ng, rl.glob, rl.globB, fun g k hg hk => ⟨(rl.globO g k hg hk).1, blk_iter o hr (rl.globO g k hg hk).2⟩⟩
theorem Tr.iter {ι0 ι : Nat → Emb} {h0 h : H} {w0 w : World} (t : Tr ι0 h0 w0 ι h w) {r : Nat} (o : Obj) (hr : w0.heap.size ≤ r) : Tr ι0 h0 w0 ι h (setAtW w r o) :=
  ⟨t.nx, t.ext, t.os, t.tape, t.output, by rw [setAtW_size]; exact t.size, fun g hg hf => by rw [setAtW_ne (by omega)]; exact t.fr g hg hf, t.own⟩
theorem Tr.drewn {ι0 ι : Nat → Emb} {h0 h : H} {w0 w : World} (t : Tr ι0 h0 w0 ι h w) (k : Nat) : Tr ι0 h0 w0 ι h { w with drawn := k } := ⟨t.nx, t.ext, t.os, t.tape, t.output, t.size, t.fr, t.own⟩
/-- The iterator over a map lies in the world, and no block stands for it. -/
structure ItR (ι : Nat → Emb) (h : H) (w : World) (q mb r clk : Nat) (seen : Array Nat) : Prop where
  at_ : ι q = ⟨r, 0, 0, 0⟩
  obj : w.heap[r]? = some (.mapIter (some (ι mb).g) clk seen clk)
  free : ∀ b k, h.blk b = some k → k.own = true → (ι b).g ≠ r
  lt : q < h.nx ∧ mb < h.nx
theorem ItR.step {ι ι' : Nat → Emb} {h h' : H} {w w' : World} {q mb r clk : Nat} {seen : Array Nat} (i : ItR ι h w q mb r clk seen) (t : Tr ι h w ι' h' w') : ItR ι' h' w' q mb r clk seen := by
  have hr : r < w.heap.size := by
    rcases Nat.lt_or_ge r w.heap.size with h | h
    · exact h
    · have := i.obj; rw [Array.getElem?_eq_none h] at this; cases this
  refine ⟨by rw [t.ext _ i.lt.1]; exact i.at_, ?_, fun b k hb ho => ?_, ?_⟩
  · rw [t.ext _ i.lt.2, t.fr r hr i.free]; exact i.obj
  · rcases t.own b k hb ho with ⟨b0, k0, h1, h2, h3⟩ | h1
    · rw [← h3]; exact i.free b0 k0 h1 h2
    · omega
  · have := t.nx; have := i.lt; omega
theorem wanted_none {o : Oper} (h : o.guard = none) (y : Nat → Option Bool) : Region.wanted o y = true := by unfold Region.wanted; rw [h]
theorem put_at {t : Array Value} {d : Nat} {v : Value} (h : d < t.size) : (put t (some d) v).getD d undef = v := by
  simp [put, Array.getD_eq_getD_getElem?, h]
theorem put_other {t : Array Value} {d i : Nat} {v : Value} (h : i ≠ d) : (put t (some d) v).getD i undef = t.getD i undef := (put_getD (t := t) (v := v) (d := some d) (i := i) (fun e => h (by cases e; rfl))).1
theorem wp_val {o : Oper} {a : Act} {w w' : World} {K : Act → World → Prop} {Q : Exit → Act → World → Prop} {s : Sem Value} {v : Value} (hs : execOp a.eval o = (do pure (Next.value (← s)))) (hr : s.run P w = .ok v w') (hk : K (a.put o.dst v) w') : o.wp P a w K Q := by
  unfold Oper.wp
  rw [hs]
  simp only [Sem.run_bind, hr, Result.andThen_ok, Sem.run_pure, Oper.upon_value]
  exact hk
theorem ev_tmp {ι : Nat → Emb} {h : H} {w : World} (r : Rel P E ι h w) {t : Array Value} {a : Act} (ht : AR ι h.nx t a.tmps) (i : Nat) : VR ι h.nx (t.getD i undef) (a.eval (.tmp i)) := ev_rel (x := .tmp i) r ht rfl
theorem exec_of {o : Oper} {op : Op} {a : Act} (h : o.op = op) : execOp a.eval o = execOp a.eval { o with op := op } := by rw [← h]
section
variable {rec : Rec} {k N : Nat} {s : RgS} {mb clk q r : Nat} {es : List MapEntry} {I : List Nat → Array Value → H → Prop}
end
end
end Go.AM
end

section
namespace Go.AM
open Go.RowKit
section
variable {P : Program} {E : Env}
def bodyH (P : Program) (E : Env) (S : Sc) (X : (R : Type) → Xs R) (hk : Nat) (ins : List Nat) (RG : List Value → H → Option (Ex × List Value × H)) (f : FuncId) (R : Type) (args : List SV) (h : H) (K : Value → H → Option R) : Option R :=
  match P.funcs[f]? with
  | some fn =>
    match fn.body with
    | some c =>
      if fn.name = "runtime.NumGoroutine" then none
      else if args.length ≤ fn.ntmps then
        codeH P E S X fn.ntmps hk ins RG c (resL fn.results.toList) R (fun i => args.getD i .und) h fun e env h =>
          match e with
          | .exit _ => none
          | _ => resT (X R) env h fn.results.toList [] fun vs => K (res1 vs) h
      else none
    | none => none
  | none => none
/-- What is known of a call of a function. -/
def Sure (P : Program) (E : Env) (f : FuncId) (args : Array Value) (h : H) (v : Value) (h' : H) : Prop :=
  (∃ fn c, P.funcs[f]? = some fn ∧ fn.body = some c ∧ fn.name ≠ "runtime.NumGoroutine") ∧ Grow h h' ∧
    ∀ ι w args', Rel P E ι h w → AR ι h.nx args args' → Calls P f args' w fun e w' => ∃ v' ι', e = .returned v' ∧ Tr ι h w ι' h' w' ∧ Rel P E ι' h' w' ∧ VR ι' h'.nx v v'
variable {rec : Rec} {k : Nat}
/-- Calls of one function are told. -/
def over (rec : Rec) (F : FuncId) (g : Array Value → H → Option (Value × H)) : Rec := fun f args h => if f = F then g args h else rec f args h
theorem over_sound (hrec : SoundR P E rec) {F : FuncId} {g : Array Value → H → Option (Value × H)} (hg : ∀ args h v h', g args h = some (v, h') → Sure P E F args h v h') : SoundR P E (over rec F g) := by
  refine ⟨fun f args h v h' hc => ?_, fun f args h v h' hc => ?_, fun f args h v h' hc => ?_⟩
  all_goals
    unfold over at hc
    split at hc
  · rename_i e; rw [e]; exact (hg _ _ _ _ hc).1
  · exact hrec.fn _ _ _ _ _ hc
  · exact (hg _ _ _ _ hc).2.1
  · exact hrec.grow _ _ _ _ _ hc
  · rename_i e; rw [e]; exact (hg _ _ _ _ hc).2.2
  · exact hrec.calls _ _ _ _ _ hc
theorem over_at {F : FuncId} {g : Array Value → H → Option (Value × H)} {args : Array Value} {h : H} : over rec F g F args h = g args h := by unfold over; rw [if_pos rfl]
theorem over_ne {F f : FuncId} {g : Array Value → H → Option (Value × H)} {args : Array Value} {h : H} (hf : f ≠ F) : over rec F g f args h = rec f args h := by unfold over; rw [if_neg hf]
/-- A law's call, by its body. -/
theorem law_body (hmix : P.follows .mixedOrders = true) (hrec : SoundR P E rec) {f : FuncId} {args : List SV} {args' : Array Value} {ι : Nat → Emb} {h h' : H} {w : World} {b : Bool}
    (hc : bodyT P E SC (XC P rec k) f (Value × H) args h (fun v h => some (v, h)) = some (.bool b, h')) (hr : Rel P E ι h w) (ha : AR ι h.nx (args.map SV.val).toArray args') (ho : ∀ i k, h.blk i = some k → k.own = false) :
    Calls P f args' w (fun e w' => e = .returned (.bool b) ∧ Below w.heap.size w w') := by
  obtain ⟨v1, h1, g1, g2⟩ := bodyT_some hc
  cases g2
  refine ((body_sound hrec (draw_ok hmix hrec) g1).2.2 ι w args' hr ha).mono ?_
  rintro e w' ⟨v', ι', rfl, tr, r, hv⟩
  refine ⟨?_, tr.os, tr.tape, tr.output, tr.size, fun g hg => tr.fr g hg fun i k hi hk => ?_⟩
  · cases hv; rfl
  · rw [ho i k hi] at hk; cases hk
end
end Go.AM
end

section
namespace Go.AM
set_option linter.unusedSectionVars false
section
variable {κ : Type} [DecidableEq κ]
/-- The entries of a map. -/
def esOf (enc : κ → Value) (kv : List (κ × Value)) : List MapEntry := kv.zipIdx.map fun q => { key := enc q.1.1, val := q.1.2, born := q.2 }
/-- The block of a map. -/
def mpOf (enc : κ → Value) (kv : List (κ × Value)) : Blk := .mp (esOf enc kv) kv.length
def lookK : List (κ × Value) → κ → Nat → Option (Nat × Value)
  | [], _, _ => none
  | p :: kv, k, i => if k = p.1 then some (i, p.2) else lookK kv k (i + 1)
/-- What a key's entry holds. -/
def valK (kv : List (κ × Value)) (k : κ) : Option Value := (lookK kv k 0).map (·.2)
/-- An entry is written. -/
def putK (kv : List (κ × Value)) (k : κ) (v : Value) : List (κ × Value) :=
  match lookK kv k 0 with
  | some (i, _) => kv.set i (k, v)
  | none => kv ++ [(k, v)]
/-- What is needed of the keys. -/
structure Key (P : Program) (kt : TypeId) (enc : κ → Value) : Prop where
  eq : ∀ a b, eqV P 10 kt (enc a) (enc b) = some (decide (a = b))
  plain : ∀ a, plainK (enc a) = true
  ty : keyT P 10 kt = true
  bits : ∀ a, Instr.sameBits 10000 (enc a) (enc a) = true
variable {P : Program} {kt vt t : TypeId} {enc : κ → Value} {h : H} {b : Nat} {kv : List (κ × Value)} {k : κ} {R : Type}
theorem Key.isKey (q : Key P kt enc) (k : κ) : isKey P kt (enc k) = true := by
  simp [AM.isKey, q.plain, q.ty, q.eq]
theorem esOf_get (enc : κ → Value) (kv : List (κ × Value)) (i : Nat) : (esOf enc kv)[i]? = (kv[i]?).map fun p => { key := enc p.1, val := p.2, born := i } := by
  unfold esOf
  rw [List.getElem?_map, List.getElem?_zipIdx]
  cases kv[i]? <;> simp
theorem esOf_modify {enc : κ → Value} {kv : List (κ × Value)} {i : Nat} {p p' : κ × Value} (f : MapEntry → MapEntry) (hi : kv[i]? = some p) (hf : f { key := enc p.1, val := p.2, born := i } = { key := enc p'.1, val := p'.2, born := i }) :
    (esOf enc kv).modify i f = esOf enc (kv.set i p') := by
  refine List.ext_getElem? fun i' => ?_
  rw [List.getElem?_modify, esOf_get, esOf_get, List.getElem?_set]
  have hlt := (List.getElem?_eq_some_iff.1 hi).1
  by_cases e : i = i'
  · subst e
    rw [if_pos rfl, if_pos hlt, hi]
    simp only [Option.map_some, if_true]
    exact congrArg some hf
  · simp [e]
theorem findK_go (q : Key P kt enc) : ∀ (kv : List (κ × Value)) (i j : Nat), findK P kt (enc k) ((kv.zipIdx j).map fun q => ({ key := enc q.1.1, val := q.1.2, born := q.2 } : MapEntry)) i = some (lookK kv k i) := by
  intro kv
  induction kv with
  | nil => intro i j; rfl
  | cons p kv ih =>
    intro i j
    simp only [List.zipIdx_cons, List.map_cons, findK, lookK, q.eq, Option.bind_some]
    by_cases hk : k = p.1
    · simp [hk]
    · simp only [hk, decide_false, Bool.false_eq_true, if_false]
      exact ih (i + 1) (j + 1)
theorem findK_of (q : Key P kt enc) (kv : List (κ × Value)) : findK P kt (enc k) (esOf enc kv) 0 = some (lookK kv k 0) := findK_go q kv 0 0
theorem lookK_some : ∀ (kv : List (κ × Value)) (i : Nat) (r : Nat × Value), lookK kv k i = some r → ∃ j, r.1 = i + j ∧ kv[j]? = some (k, r.2) := by
  intro kv
  induction kv with
  | nil => intro i r h; cases h
  | cons p kv ih =>
    intro i r h
    simp only [lookK] at h
    by_cases hk : k = p.1
    · rw [if_pos hk] at h
      cases h
      exact ⟨0, rfl, by simp [hk]⟩
    · rw [if_neg hk] at h
      obtain ⟨j, h1, h2⟩ := ih (i + 1) r h
      exact ⟨j + 1, by omega, by simpa using h2⟩
theorem lok_of {z : Value} {K : Value → Option R} (q : Key P kt enc) (ht : P.underlying t = some (.map kt vt)) (hz : zero? P vt = some z) (hb : h.blk b = some (mpOf enc kv)) :
    lok P h t (.map (some b)) (enc k) true K = match valK kv k with
      | some v => K (.tuple #[v, .bool true])
      | none => K (.tuple #[z, .bool false]) := by
  unfold lok lookup valK
  simp only [ht, q.isKey, if_true, mapOf, hb, mpOf, Option.bind_some, findK_of q, hz]
  cases lookK kv k 0 <;> rfl
theorem lok_of0 {z : Value} {K : Value → Option R} (q : Key P kt enc) (ht : P.underlying t = some (.map kt vt)) (hz : zero? P vt = some z) (hb : h.blk b = some (mpOf enc kv)) :
    lok P h t (.map (some b)) (enc k) false K = K ((valK kv k).getD z) := by
  unfold lok lookup valK
  simp only [ht, q.isKey, if_true, mapOf, hb, mpOf, Option.bind_some, findK_of q, hz]
  cases lookK kv k 0 <;> rfl
theorem esOf_snoc (enc : κ → Value) (kv : List (κ × Value)) (k : κ) (v : Value) : esOf enc kv ++ [{ key := enc k, val := v, born := kv.length }] = esOf enc (kv ++ [(k, v)]) := by
  unfold esOf
  rw [List.zipIdx_append, List.map_append]
  simp
theorem mup_of {v : Value} {K : H → Option R} (q : Key P kt enc) (ht : P.underlying t = some (.map kt vt)) (hb : h.blk b = some (mpOf enc kv)) :
    mup P h t (.map (some b)) (enc k) v K = K (h.set b (mpOf enc (putK kv k v))) := by
  unfold mup mapUpdate putK
  simp only [ht, q.isKey, if_true, mapOf, hb, mpOf, Option.bind_some, findK_of q]
  cases hl : lookK kv k 0 with
  | none =>
    simp only [Option.bind_some, List.length_append, List.length_singleton]
    rw [esOf_snoc]
  | some r =>
    obtain ⟨i, v0⟩ := r
    obtain ⟨j, h1, h2⟩ := lookK_some kv 0 _ hl
    simp only [Nat.zero_add] at h1
    subst h1
    have hg := esOf_get enc kv i
    rw [h2] at hg
    simp only [hg, Option.map_some, Option.getD_some, q.bits, q.plain, Bool.and_self, if_true, Option.bind_some, List.length_set]
    rw [esOf_modify (p' := (k, v)) _ h2 rfl]
end
end Go.AM
end

section
namespace Go.AM
open Go.RowKit
/-- The parts of a loop over a map. -/
structure RqS where
  i0 : Nat
  b : Nat
  i1 : Nat
  b3 : Nat
  i2 : Nat
  qt : Nat
  d0 : Nat
  d1 : Nat
  d2 : Nat
  d3 : Nat
  d4 : Nat
  T : TypeId
  o1 : Oper
  rg : Oper
  nx : Oper
  x1 : Oper
  en : Oper
  x2 : Oper
  rest : List Oper
  B : Code
def RqS.code (s : RqS) : Code :=
  .seq (.region s.i0 #[s.o1, s.rg] false) (.block s.b (.loop (.seq (.region s.i1 #[s.nx, s.x1] false) (.seq (.cond (.tmp s.d2) .skip (.exit s.b)) (.block s.b3 (.seq (.region s.i2 (s.en :: s.x2 :: s.rest).toArray false) s.B))))))
/-- The operations are those of a loop over a map. -/
structure RqS.Ok (s : RqS) (N : Nat) : Prop where
  o1 : s.o1.dst = some s.d0 ∧ s.o1.guard = none
  rg : s.rg.dst = some s.qt ∧ s.rg.op = .range s.T (.tmp s.d0) ∧ s.rg.guard = none
  nx : s.nx.dst = some s.d1 ∧ s.nx.op = .next (.tmp s.qt) false ∧ s.nx.guard = none
  x1 : s.x1.dst = some s.d2 ∧ s.x1.op = .extract (.tmp s.d1) 0 ∧ s.x1.guard = none
  en : s.en.dst = some s.d3 ∧ s.en.op = .entry (.tmp s.qt) ∧ s.en.guard = none
  x2 : s.x2.dst = some s.d4 ∧ s.x2.op = .extract (.tmp s.d3) 0 ∧ s.x2.guard = none
  rest : ∀ o ∈ s.rest, o.guard = none
  sep : s.qt ≠ s.d1 ∧ s.qt ≠ s.d2
  lt : s.d0 < N ∧ s.qt < N ∧ s.d1 < N ∧ s.d2 < N ∧ s.d3 < N ∧ s.d4 < N
def noGuard (o : Oper) : Bool := match o.guard with
  | none => true
  | some _ => false
def matchQ : Code → Option RqS
  | .seq (.region i0 ⟨[o1, rg]⟩ false) (.block b (.loop (.seq (.region i1 ⟨[nx, x1]⟩ false) (.seq (.cond (.tmp d2) .skip (.exit b')) (.block b3 (.seq (.region i2 ⟨en :: x2 :: rest⟩ false) B)))))) =>
    match o1.dst, o1.guard, rg.dst, rg.op, rg.guard, nx.dst, nx.op, nx.guard with
    | some d0, none, some qt, .range T (.tmp d0'), none, some d1, .next (.tmp q1) false, none =>
      match x1.dst, x1.op, x1.guard, en.dst, en.op, en.guard with
      | some d2', .extract (.tmp d1') 0, none, some d3, .entry (.tmp q2), none =>
        match x2.dst, x2.op, x2.guard with
        | some d4, .extract (.tmp d3') 0, none =>
          cond (Nat.beq b b' && Nat.beq d0 d0' && Nat.beq qt q1 && Nat.beq qt q2 && Nat.beq d2 d2' && Nat.beq d1 d1' && Nat.beq d3 d3' && !Nat.beq qt d1 && !Nat.beq qt d2 && rest.all noGuard)
            (some ⟨i0, b, i1, b3, i2, qt, d0, d1, d2, d3, d4, T, o1, rg, nx, x1, en, x2, rest, B⟩) none
        | _, _, _ => none
      | _, _, _, _, _, _ => none
    | _, _, _, _, _, _, _, _ => none
  | _ => none
theorem matchQ_some {c : Code} {s : RqS} {N : Nat} (h : matchQ c = some s) (hN : (Nat.blt s.d0 N && Nat.blt s.qt N && Nat.blt s.d1 N && Nat.blt s.d2 N && Nat.blt s.d3 N && Nat.blt s.d4 N) = true) : c = s.code ∧ s.Ok N := by
  unfold matchQ at h
  split at h
  · split at h
    · split at h
      · split at h
        · obtain ⟨hc, rfl⟩ := cond_some h
          simp only [Bool.and_eq_true, Bool.not_eq_true'] at hc
          obtain ⟨⟨⟨⟨⟨⟨⟨⟨⟨e1, e2⟩, e3⟩, e4⟩, e5⟩, e6⟩, e7⟩, e9⟩, e10⟩, e11⟩ := hc
          replace e1 := Nat.eq_of_beq_eq_true e1
          replace e2 := Nat.eq_of_beq_eq_true e2
          replace e3 := Nat.eq_of_beq_eq_true e3
          replace e4 := Nat.eq_of_beq_eq_true e4
          replace e5 := Nat.eq_of_beq_eq_true e5
          replace e6 := Nat.eq_of_beq_eq_true e6
          replace e7 := Nat.eq_of_beq_eq_true e7
          have n9 := Nat.ne_of_beq_eq_false e9
          have n10 := Nat.ne_of_beq_eq_false e10
          simp only [Bool.and_eq_true, Nat.blt_eq] at hN
          subst_vars
          refine ⟨rfl, ⟨?_, ?_, ?_, ?_, ?_, ?_, ?_, ⟨n9, n10⟩, by simp only; omega⟩⟩
          · refine ⟨?_, ?_⟩ <;> assumption
          iterate 5 (refine ⟨?_, ?_, ?_⟩ <;> assumption)
          · intro o ho
            have := List.all_eq_true.1 e11 o ho
            unfold noGuard at this
            split at this
            · assumption
            · cases this
        · cases h
      · cases h
    · cases h
  · cases h
section
variable {P : Program} {E : Env}
theorem ops_noGuard {rec : Rec} {all all' : Array Oper} : ∀ (l : List Oper) (t : Array Value) (h : H), (∀ o ∈ l, o.guard = none) → ops P E rec all l t h = ops P E rec all' l t h := by
  intro l
  induction l with
  | nil => intro t h _; rfl
  | cons o l ih =>
    intro t h hg
    unfold ops
    rw [if_pos (wanted_none (hg o List.mem_cons_self) _), if_pos (wanted_none (hg o List.mem_cons_self) _)]
    congr 1
    funext x
    exact ih _ _ fun o' ho' => hg o' (List.mem_cons_of_mem _ ho')
/-- The slots at an entry. -/
def entQ (s : RqS) (t : Array Value) (e : MapEntry) : Array Value :=
  put (put (put (put t (some s.d1) (.tuple #[.bool true, e.key, e.val])) (some s.d2) (.bool true)) (some s.d3) (.tuple #[e.key, e.val])) (some s.d4) e.key
/-- The slots behind the last entry. -/
def endQ (s : RqS) (t : Array Value) : Array Value := put (put t (some s.d1) (.tuple #[.bool false])) (some s.d2) (.bool false)
/-- What is done at an entry. -/
def RqS.bd (s : RqS) : Code := .seq (.region s.i2 s.rest.toArray false) s.B
section
variable {rec : Rec} {k N : Nat} {s : RqS} {mb clk q r : Nat} {es : List MapEntry} {I : List Nat → Array Value → H → Prop}
theorem rangeq_rounds (hrec : SoundR P E rec) (hdraw : DrawOk P E rec) (ok : s.Ok N) (hb : ∀ e ∈ es, e.born < clk) (hnd : (es.map (·.born)).Nodup)
    (hI : ∀ D t h, I D t h → h.blk mb = some (.mp es clk) ∧ t.size = N ∧ t.getD s.qt undef = .pointer (some ⟨q, 0, none⟩))
    (step : ∀ D t h e, I D t h → e ∈ es → e.born ∉ D → ∃ t' h', code P E rec k s.bd (entQ s t e) h = some (.normal, t', h') ∧ I (e.born :: D) t' h')
    {ι0 : Nat → Emb} {h0 : H} {w0 : World} {d : List Deferred} {Q : Exit → Act → World → Prop} (hr0 : w0.heap.size ≤ r)
    (fin : ∀ D t h ι a w, I D t h → (∀ e ∈ es, e.born ∈ D) → Tr ι0 h0 w0 ι h w → Rel P E ι h w → AR ι h.nx (endQ s t) a.tmps → a.defers = d → Q (.exit s.b) a w) :
    ∀ (m : Nat) (D : List Nat) (t : Array Value) (h : H) (ι : Nat → Emb) (w : World) (a : Act) (seen : Array Nat), (es.filter fun e => !D.contains e.born).length < m → I D t h → Tr ι0 h0 w0 ι h w → Rel P E ι h w → AR ι h.nx t a.tmps → a.defers = d → ItR ι h w q mb r clk seen → (∀ x, x ∈ seen ↔ x ∈ D) →
      Code.rounds P (.seq (.region s.i1 #[s.nx, s.x1] false) (.seq (.cond (.tmp s.d2) .skip (.exit s.b)) (.block s.b3 (.seq (.region s.i2 (s.en :: s.x2 :: s.rest).toArray false) s.B)))) Q m a w := by
  intro m
  induction m with
  | zero => intro D t h ι w a seen hm; omega
  | succ m ih =>
    intro D t h ι w a seen hm hi tr rl ar hd it hseen
    obtain ⟨hmb, hsz, hqt⟩ := hI D t h hi
    obtain ⟨es', hm1, hm2, hm3⟩ := rl.blk mb _ hmb
    have hborn : ∀ (i : Nat) (e : MapEntry), es'[i]? = some e → ∃ e0, es[i]? = some e0 ∧ VR ι h.nx e0.key e.key ∧ VR ι h.nx e0.val e.val ∧ e0.born = e.born := by
      intro i e he
      have hlt := (Array.getElem?_eq_some_iff.1 he).1
      have h1 : es[i]? = some es[i] := List.getElem?_eq_getElem (by omega)
      exact ⟨_, h1, hm3 i _ _ h1 he⟩
    have hb' : ∀ e ∈ es', e.born < clk := by
      intro e he
      obtain ⟨i, hi2, rfl⟩ := Array.mem_iff_getElem.1 he
      obtain ⟨e0, h1, _, _, h2⟩ := hborn i _ (Array.getElem?_eq_getElem hi2)
      rw [← h2]; exact hb _ (List.mem_of_getElem? h1)
    have hqv : a.eval (.tmp s.qt) = .pointer (some ⟨r, 0, none⟩) := by
      have := ev_tmp rl ar s.qt
      rw [hqt] at this
      generalize hce : a.eval (.tmp s.qt) = u at this
      cases this
      rw [it.at_]
    rw [rounds_succ]
    refine wp_seq (wp_region_list ?_)
    show wpList P #[s.nx, s.x1] _ [s.nx, s.x1] a w
    unfold wpList
    rw [if_pos (wanted_none ok.nx.2.2 _)]
    have hexn : execOp a.eval s.nx = (do pure (Next.value (← Instr.next (.pointer (some ⟨r, 0, none⟩)) false s.nx.type))) := by
      rw [exec_of ok.nx.2.1]
      show (do pure (Next.value (← Instr.next (a.eval (.tmp s.qt)) false s.nx.type))) = _
      rw [hqv]
    have hexx : ∀ (a : Act) (v : Value), a.eval (.tmp s.d1) = v → execOp a.eval s.x1 = (do pure (Next.value (← Instr.extract v 0))) := by
      intro a v hv
      rw [exec_of ok.x1.2.1]
      show (do pure (Next.value (← Instr.extract (a.eval (.tmp s.d1)) 0))) = _
      rw [hv]
    have evput : ∀ (a : Act) (dd : Nat) (v : Value), dd < a.tmps.size → (a.put (some dd) v).eval (.tmp dd) = v := by
      intro a dd v hlt
      simp [Act.eval, Act.put, Array.getD_eq_getD_getElem?, hlt]
    have hasz : a.tmps.size = N := by rw [← hsz]; exact ar.1.symm
    rcases next_run (P := P) s.nx.type it.obj hm1 hb' with ⟨e', hmem, hns, w1, ⟨kd, hw1⟩, hrun⟩ | ⟨hall, w1, ⟨kd, hw1⟩, hrun⟩
    · -- one entry more
      obtain ⟨i, hilt, hie⟩ := Array.mem_iff_getElem.1 hmem
      obtain ⟨e0, g1, g2, g3, g4⟩ := hborn i e' (by rw [Array.getElem?_eq_getElem hilt, hie])
      have he0 : e0 ∈ es := List.mem_of_getElem? g1
      have hnD : e0.born ∉ D := fun hx => hns (by rw [← g4]; exact (hseen _).2 hx)
      have rl1 : Rel P E ι h w1 := by rw [hw1]; exact rl.drew kd
      have obj1 : w1.heap[r]? = some (.mapIter (some (ι mb).g) clk seen clk) := by rw [hw1]; exact it.obj
      have rl2 := rl1.iter (.mapIter (some (ι mb).g) clk (seen.push e'.born) clk) obj1
      have tr2 : Tr ι0 h0 w0 ι h (setAtW w1 r (.mapIter (some (ι mb).g) clk (seen.push e'.born) clk)) := by
        refine Tr.iter ?_ _ hr0
        rw [hw1]; exact tr.drewn kd
      have hrlt : r < w1.heap.size := by
        rcases Nat.lt_or_ge r w1.heap.size with h | h
        · exact h
        · rw [Array.getElem?_eq_none h] at obj1; cases obj1
      have it2 : ItR ι h (setAtW w1 r (.mapIter (some (ι mb).g) clk (seen.push e'.born) clk)) q mb r clk (seen.push e'.born) := ⟨it.at_, by
        show (w1.heap.setIfInBounds r _)[r]? = _
        rw [Array.getElem?_setIfInBounds_self, if_pos hrlt], it.free, it.lt⟩
      have hm1' : (setAtW w1 r (.mapIter (some (ι mb).g) clk (seen.push e'.born) clk)).heap[(ι mb).g]? = some (.map es' clk) := by
        rw [setAtW_ne (it.free mb _ hmb rfl), hw1]; exact hm1
      generalize hw2 : setAtW w1 r (.mapIter (some (ι mb).g) clk (seen.push e'.born) clk) = w2 at *
      have hrun' : (Instr.next (.pointer (some ⟨r, 0, none⟩)) false s.nx.type).run P w = .ok (.tuple #[.bool true, e'.key, e'.val]) w2 := by rw [← hw2]; exact hrun
      refine .inl (wp_val hexn hrun' ?_)
      rw [ok.nx.1]
      unfold wpList
      rw [if_pos (wanted_none ok.x1.2.2 _)]
      have hv1 : VR ι h.nx (.tuple #[.bool true, e0.key, e0.val]) (.tuple #[.bool true, e'.key, e'.val]) := by
        refine .tuple rfl fun j v v' hv hv' => ?_
        match j with
        | 0 => simp at hv hv'; subst hv; subst hv'; exact .bool _
        | 1 => simp at hv hv'; subst hv; subst hv'; exact g2
        | 2 => simp at hv hv'; subst hv; subst hv'; exact g3
        | j + 3 => simp at hv
      have ar1 := put_rel ar (some s.d1) hv1
      refine .inl (wp_val (hexx _ _ (evput a s.d1 _ (by rw [hasz]; exact ok.lt.2.2.1))) (w' := w2) (v := .bool true) rfl ?_)
      rw [ok.x1.1]
      have ar2 := put_rel ar1 (some s.d2) (v := .bool true) (v' := .bool true) (.bool _)
      unfold wpList
      show Exit.then _ _ .normal _ _
      refine wp_seq ?_
      have hd2 : ((a.put (some s.d1) (.tuple #[.bool true, e'.key, e'.val])).put (some s.d2) (.bool true)).eval (.tmp s.d2) = .bool true := evput _ _ _ (by rw [aput_size, hasz]; exact ok.lt.2.2.2.1)
      refine wp_cond (t := true) hd2 (wp_skip ?_)
      show Exit.then _ _ .normal _ _
      refine wp_block (wp_seq (wp_region_list ?_))
      generalize ha2 : (a.put (some s.d1) (.tuple #[.bool true, e'.key, e'.val])).put (some s.d2) (.bool true) = a2 at *
      have hd2' : a2.defers = d := by rw [← ha2, put_defers, put_defers]; exact hd
      have ha2z : a2.tmps.size = N := by rw [← ha2, aput_size, aput_size]; exact hasz
      have hq2 : a2.eval (.tmp s.qt) = .pointer (some ⟨r, 0, none⟩) := by
        have := ev_tmp rl2 ar2 s.qt
        rw [put_other ok.sep.2, put_other ok.sep.1, hqt] at this
        generalize hce : a2.eval (.tmp s.qt) = u at this
        cases this
        rw [it.at_]
      show wpList P (s.en :: s.x2 :: s.rest).toArray _ (s.en :: s.x2 :: s.rest) a2 w2
      unfold wpList
      rw [if_pos (wanted_none ok.en.2.2 _)]
      have hexe : execOp a2.eval s.en = (do pure (Next.value (← Instr.entry (.pointer (some ⟨r, 0, none⟩))))) := by
        rw [exec_of ok.en.2.1]
        show (do pure (Next.value (← Instr.entry (a2.eval (.tmp s.qt))))) = _
        rw [hq2]
      have hfind : es'.find? (fun x => x.born == e'.born) = some e' := by
        have hnd' : ∀ (j : Nat) (e : MapEntry), es'[j]? = some e → e.born = e'.born → e = e' := by
          intro j e hj hbn
          obtain ⟨e1, k1, _, _, k4⟩ := hborn j e hj
          have hji : j = i := by
            obtain ⟨l1, l2⟩ := List.getElem?_eq_some_iff.1 k1
            obtain ⟨l3, l4⟩ := List.getElem?_eq_some_iff.1 g1
            have := List.getElem_inj (xs := es.map (·.born)) (i := j) (j := i) (h₀ := by simpa using l1) (h₁ := by simpa using l3) hnd
            refine this.1 ?_
            rw [List.getElem_map, List.getElem_map, l2, l4, k4, g4, hbn]
          rw [hji, Array.getElem?_eq_getElem hilt, hie] at hj
          cases hj; rfl
        cases hf : es'.find? (fun x => x.born == e'.born) with
        | none =>
          have := Array.find?_eq_none.1 hf e' hmem
          simp at this
        | some e =>
          have h1 := Array.find?_some hf
          have h2 := Array.mem_of_find?_eq_some hf
          obtain ⟨j, hj, hje⟩ := Array.mem_iff_getElem.1 h2
          rw [hnd' j e (by rw [Array.getElem?_eq_getElem hj, hje]) (by simpa using h1)]
      have hrune := entry_run (P := P) (seen := seen) it2.obj hm1' hfind
      refine .inl (wp_val hexe hrune ?_)
      rw [ok.en.1]
      unfold wpList
      rw [if_pos (wanted_none ok.x2.2.2 _)]
      have hv3 : VR ι h.nx (.tuple #[e0.key, e0.val]) (.tuple #[e'.key, e'.val]) := by
        refine .tuple rfl fun j v v' hv hv' => ?_
        match j with
        | 0 => simp at hv hv'; subst hv; subst hv'; exact g2
        | 1 => simp at hv hv'; subst hv; subst hv'; exact g3
        | j + 2 => simp at hv
      have ar3 := put_rel ar2 (some s.d3) hv3
      have hexx2 : execOp (a2.put (some s.d3) (.tuple #[e'.key, e'.val])).eval s.x2 = (do pure (Next.value (← Instr.extract (.tuple #[e'.key, e'.val]) 0))) := by
        rw [exec_of ok.x2.2.1]
        show (do pure (Next.value (← Instr.extract ((a2.put (some s.d3) (.tuple #[e'.key, e'.val])).eval (.tmp s.d3)) 0))) = _
        rw [evput _ _ _ (by rw [ha2z]; exact ok.lt.2.2.2.2.1)]
      refine .inl (wp_val hexx2 (w' := w2) (v := e'.key) rfl ?_)
      rw [ok.x2.1]
      have ar4 := put_rel ar3 (some s.d4) g2
      obtain ⟨t', h', hc, hi'⟩ := step D t h e0 hi he0 hnD
      unfold RqS.bd at hc
      simp only [code] at hc
      obtain ⟨⟨ec, t1, h1⟩, hc1, hc2⟩ := bind_some hc
      obtain ⟨⟨t1', h1'⟩, ho1, hc1⟩ := map_some hc1
      simp only [Prod.mk.injEq] at hc1
      obtain ⟨rfl, rfl, rfl⟩ := hc1
      rw [ops_noGuard (all' := (s.en :: s.x2 :: s.rest).toArray) _ _ _ ok.rest] at ho1
      refine ops_wp hrec _ s.rest _ _ _ _ ho1 ι w2 _ rl2 ar4 ?_
      intro ι1 a1 w3 p1 p2 p3 p4
      show Exit.then _ _ .normal _ _
      refine (code_sound hrec hdraw k s.B _ _ _ _ _ hc2).2 ι1 w3 _ _ p2 p3 ?_
      intro ι' a' w' q1' q2 q3 q4
      have q1 := p1.trans q1'
      rw [p4] at q4
      show Code.rounds P _ Q m a' w'
      rw [put_defers, put_defers, hd2'] at q4
      refine ih (e0.born :: D) t' h' ι' w' a' (seen.push e'.born) ?_ hi' (tr2.trans q1) q2 q3 q4 (it2.step q1) fun x => ?_
      · have : (es.filter fun e => !(e0.born :: D).contains e.born).length < (es.filter fun e => !D.contains e.born).length := by
          have h1 : (es.filter fun e => !(e0.born :: D).contains e.born) = (es.filter fun e => !D.contains e.born).filter fun e => !(e.born == e0.born) := by
            rw [List.filter_filter]
            refine List.filter_congr fun e _ => ?_
            rw [List.contains_cons, Bool.not_or]
          rw [h1]
          exact List.length_filter_lt_length_iff_exists.2 ⟨e0, List.mem_filter.2 ⟨he0, by simpa using hnD⟩, by simp⟩
        omega
      · rw [Array.mem_push, hseen, List.mem_cons, g4]
        exact ⟨fun h => h.elim (fun a => Or.inr a) (fun a => Or.inl a), fun h => h.elim (fun a => Or.inr a) (fun a => Or.inl a)⟩
    · -- all have been
      have rl1 : Rel P E ι h w1 := by rw [hw1]; exact rl.drew kd
      have tr1 : Tr ι0 h0 w0 ι h w1 := by rw [hw1]; exact tr.drewn kd
      refine .inl (wp_val hexn hrun ?_)
      rw [ok.nx.1]
      unfold wpList
      rw [if_pos (wanted_none ok.x1.2.2 _)]
      have hv1 : VR ι h.nx (.tuple #[.bool false]) (.tuple #[.bool false]) := by
        refine .tuple rfl fun j v v' hv hv' => ?_
        match j with
        | 0 => simp at hv hv'; subst hv; subst hv'; exact .bool _
        | j + 1 => simp at hv
      have ar1 := put_rel ar (some s.d1) hv1
      refine .inl (wp_val (hexx _ _ (evput a s.d1 _ (by rw [hasz]; exact ok.lt.2.2.1))) (w' := w1) (v := .bool false) rfl ?_)
      rw [ok.x1.1]
      have ar2 := put_rel ar1 (some s.d2) (v := .bool false) (v' := .bool false) (.bool _)
      unfold wpList
      show Exit.then _ _ .normal _ _
      refine wp_seq ?_
      have hd2 : ((a.put (some s.d1) (.tuple #[.bool false])).put (some s.d2) (.bool false)).eval (.tmp s.d2) = .bool false := evput _ _ _ (by rw [aput_size, hasz]; exact ok.lt.2.2.2.1)
      refine wp_cond (t := false) hd2 (wp_exit ?_)
      show Q (.exit s.b) _ _
      refine fin D t h ι _ w1 hi (fun e he => ?_) tr1 rl1 ar2 (by rw [put_defers, put_defers]; exact hd)
      obtain ⟨i, hi2, rfl⟩ := List.getElem_of_mem he
      have hlt : i < es'.size := by omega
      obtain ⟨e0, g1, _, _, g4⟩ := hborn i es'[i] (Array.getElem?_eq_getElem hlt)
      rw [List.getElem?_eq_getElem hi2] at g1
      cases g1
      rw [g4]
      exact (hseen _).1 (hall _ (Array.getElem_mem hlt))
/-- The loop, from the range on. -/
theorem rangeq_sd (hrec : SoundR P E rec) (hdraw : DrawOk P E rec) (ok : s.Ok N) {t : Array Value} {h h1 : H} (hsz : t.size = N) (ho : op P E rec t s.o1 h = some (.map (some mb), h1)) {kt vt : TypeId} (hT : P.underlying s.T = some (.map kt vt)) (hm : h1.blk mb = some (.mp es clk)) (hb : ∀ e ∈ es, e.born < clk) (hnd : (es.map (·.born)).Nodup)
    (hI : ∀ D t h, I D t h → h.blk mb = some (.mp es clk) ∧ t.size = N ∧ t.getD s.qt undef = .pointer (some ⟨h1.nx, 0, none⟩))
    (h0 : I [] (put (put t (some s.d0) (.map (some mb))) (some s.qt) (.pointer (some ⟨h1.nx, 0, none⟩))) h1.skip)
    (step : ∀ D t h e, I D t h → e ∈ es → e.born ∉ D → ∃ t' h', code P E rec k s.bd (entQ s t e) h = some (.normal, t', h') ∧ I (e.born :: D) t' h')
    {K : Ex → Array Value → H → Prop} (fin : ∀ D t h, I D t h → (∀ e ∈ es, e.born ∈ D) → K .normal (endQ s t) h) : Sd P E s.code t h K := by
  intro ι w a Q rl ar hQ
  have hasz : a.tmps.size = N := by rw [← hsz]; exact ar.1.symm
  have evput : ∀ (a : Act) (dd : Nat) (v : Value), dd < a.tmps.size → (a.put (some dd) v).eval (.tmp dd) = v := by
    intro a dd v hlt
    simp [Act.eval, Act.put, Array.getD_eq_getD_getElem?, hlt]
  unfold RqS.code
  refine wp_seq (wp_region_list ?_)
  show wpList P #[s.o1, s.rg] _ [s.o1, s.rg] a w
  unfold wpList
  rw [if_pos (wanted_none ok.o1.2 _)]
  refine .inl (op_wp hrec ho rl ar fun v' ι1 w1 q1 q2 q3 => ?_)
  rw [ok.o1.1]
  have hmlt := q2.dom mb _ hm
  cases q3 with
  | map hb1 =>
    have ar1 := put_rel (ar.mono q1.nx q1.ext) (some s.d0) (VR.map (ι := ι1) hb1)
    obtain ⟨es', hm1, _⟩ := q2.blk mb _ hm
    unfold wpList
    rw [if_pos (wanted_none ok.rg.2.2 _)]
    have hexr : execOp (a.put (some s.d0) (.map (some (ι1 mb).g))).eval s.rg = (do pure (Next.value (← Instr.range s.T (.map (some (ι1 mb).g))))) := by
      rw [exec_of ok.rg.2.1]
      show (do pure (Next.value (← Instr.range s.T ((a.put (some s.d0) (.map (some (ι1 mb).g))).eval (.tmp s.d0))))) = _
      rw [evput _ _ _ (by rw [hasz]; exact ok.lt.1)]
    have hrunr : (Instr.range s.T (.map (some (ι1 mb).g))).run P w1 = .ok (.pointer (some ⟨w1.heap.size, 0, none⟩)) (w1.alloc (.mapIter (some (ι1 mb).g) clk #[] clk)) := by
      have hmr : (getObj (ι1 mb).g).run P w1 = .ok (.map es' clk) w1 := by simp [getObj, Sem.run, hm1]
      simp only [Instr.range, Sem.run_bind, run_underlying hT, Result.andThen_ok, hmr, Sem.run_pure, run_newObj]
      rfl
    refine .inl (wp_val hexr hrunr ?_)
    rw [ok.rg.1]
    obtain ⟨tr2, rl2⟩ := q2.dead (.mapIter (some (ι1 mb).g) clk #[] clk) ⟨w1.heap.size, 0, 0, 0⟩
    have hvp : VR (Emb.new ι1 h1.nx ⟨w1.heap.size, 0, 0, 0⟩) h1.skip.nx (.pointer (some ⟨h1.nx, 0, none⟩)) (.pointer (some ⟨w1.heap.size, 0, none⟩)) := by
      have := VR.ptr (ι := Emb.new ι1 h1.nx ⟨w1.heap.size, 0, 0, 0⟩) (n := h1.skip.nx) (b := h1.nx) (o := 0) (by simp [H.skip])
      rw [Emb.new_at] at this
      exact this
    have ar2 := put_rel (ar1.mono tr2.nx tr2.ext) (some s.qt) hvp
    have it : ItR (Emb.new ι1 h1.nx ⟨w1.heap.size, 0, 0, 0⟩) h1.skip (w1.alloc (.mapIter (some (ι1 mb).g) clk #[] clk)) h1.nx mb w1.heap.size clk #[] := by
      refine ⟨Emb.new_at _ _ _, ?_, fun b kb hbb ho => ?_, by simp [H.skip]; omega⟩
      · rw [Emb.new_lt ι1 _ _ hmlt]; exact heap_push_at w1 _
      · rw [Emb.new_lt ι1 _ _ (q2.dom b kb hbb)]
        exact Nat.ne_of_lt (q2.blk b kb hbb).lt
    unfold wpList
    show Exit.then _ _ .normal _ _
    refine wp_block (wp_loop_rounds (es.length + 1) ?_)
    refine rangeq_rounds (Q := Exit.inBlock s.b Q) hrec hdraw ok hb hnd hI step (ι0 := ι) (h0 := h) (w0 := w) (d := a.defers) (by have := q1.size; omega) (fun D t' h' ι' a' w' hi hall t1 r1 a1 d1 => ?_) (es.length + 1) [] _ h1.skip _ _ _ #[] ?_ h0 (q1.trans tr2) rl2 ar2 ?_ it ?_
    · show (if s.b = s.b then Q .normal a' w' else Q (.exit s.b) a' w')
      rw [if_pos rfl]
      exact hQ _ _ _ (fin D t' h' hi hall) ι' a' w' t1 r1 a1 d1
    · exact Nat.lt_succ_of_le (List.length_filter_le _ _)
    · rw [put_defers, put_defers]
    · intro x; simp
end
end
section
variable {P : Program} {E : Env}
/-- The pieces of a function that begin with a region, and how many slots it has. -/
def rqOf (P : Program) (f : FuncId) (hk : Nat) : Option (RqS × Nat) :=
  match P.funcs[f]? with
  | some fn =>
    match fn.body with
    | some c =>
      match pieces hk c with
      | [x] =>
        match matchQ x with
        | some s => cond (Nat.blt s.d0 fn.ntmps && Nat.blt s.qt fn.ntmps && Nat.blt s.d1 fn.ntmps && Nat.blt s.d2 fn.ntmps && Nat.blt s.d3 fn.ntmps && Nat.blt s.d4 fn.ntmps) (some (s, fn.ntmps)) none
        | none => none
      | _ => none
    | none => none
  | none => none
theorem rqOf_some {f : FuncId} {hk : Nat} {s : RqS} {N : Nat} (h : rqOf P f hk = some (s, N)) : s.Ok N ∧ ∀ fn c, P.funcs[f]? = some fn → fn.body = some c → fn.ntmps = N ∧ ∀ x ∈ pieces hk c, x = s.code := by
  unfold rqOf at h
  split at h
  · rename_i fn hf
    split at h
    · rename_i c hc
      split at h
      · rename_i x hx
        split at h
        · rename_i s' hs
          obtain ⟨h1, h2⟩ := cond_some h
          simp only [Prod.mk.injEq] at h2
          obtain ⟨rfl, rfl⟩ := h2
          obtain ⟨e1, e2⟩ := matchQ_some hs h1
          refine ⟨e2, fun fn' c' hf' hc' => ?_⟩
          rw [hf] at hf'; cases hf'
          rw [hc] at hc'; cases hc'
          refine ⟨rfl, fun y hy => ?_⟩
          rw [hx] at hy
          rw [List.mem_singleton.1 hy]; exact e1
        · cases h
      · cases h
    · cases h
  · cases h
variable {rec : Rec} {k : Nat}
theorem bodyQ_calls (hrec : SoundR P E rec) (hdraw : DrawOk P E rec) {hk : Nat} {ins : List Nat} {RG : List Value → H → Option (Ex × List Value × H)} {f : FuncId} {args : List SV} {h h' : H} {v : Value} {s : RqS} {N : Nat} (hs : rqOf P f hk = some (s, N)) (hrg : RgOk P E N hk ins RG s.code)
    (hh : bodyH P E SC (XC P rec k) hk ins RG f (Value × H) args h (fun v h => some (v, h)) = some (v, h')) :
    (∃ fn c, P.funcs[f]? = some fn ∧ fn.body = some c ∧ fn.name ≠ "runtime.NumGoroutine") ∧
      ∀ ι w args', Rel P E ι h w → AR ι h.nx (args.map SV.val).toArray args' → Calls P f args' w fun e w' => ∃ v' ι', e = .returned v' ∧ Tr ι h w ι' h' w' ∧ Rel P E ι' h' w' ∧ VR ι' h'.nx v v' := by
  obtain ⟨_, hrg2⟩ := rqOf_some hs
  unfold bodyH at hh
  split at hh
  · rename_i fn hfn
    split at hh
    · rename_i c hc
      obtain ⟨hN, hpc⟩ := hrg2 fn c hfn hc
      split at hh
      · cases hh
      · rename_i hname
        split at hh
        · rename_i hlen
          refine ⟨⟨fn, c, hfn, hc, hname⟩, fun ι w args' r ha => ?_⟩
          have ht : TE fn.ntmps ((args.map SV.val).toArray ++ Array.replicate (fn.ntmps - (args.map SV.val).toArray.size) undef) (fun i => args.getD i .und) := by
            refine ⟨by simp; omega, fun i => ?_⟩
            rw [Array.getD_eq_getD_getElem?, Array.getElem?_append]
            simp only [List.size_toArray, List.length_map, List.getElem?_toArray, List.getElem?_map, List.getD_eq_getElem?_getD]
            split
            · rename_i hi
              rw [List.getElem?_eq_getElem hi]
              exact .inr rfl
            · rename_i hi
              rw [List.getElem?_eq_none (by omega)]
              rw [Array.getElem?_replicate]
              split <;> exact .inr rfl
          have sd := codeH_sd (k := k) hrec hdraw c (fun x hx => by rw [hpc x hx, hN]; exact hrg) ht hh
          refine calls_of_wp hfn hc (sd ι w _ _ r (init_rel ha) ?_)
          rintro e t' h1 ⟨⟨env', k1, k2⟩, _⟩ ι' a' w' q1 q2 q3 q4
          have fin : ((resT (XC P rec k (Value × H)) env' h1 fn.results.toList [] fun vs => some (res1 vs, h1)) = some (v, h')) → ∃ _ : Value, (e = .normal ∨ e = .ret) → (∃ v0, res P fn t' h1 = some v0 ∧ v0 = v ∧ h1 = h') := by
            intro h3
            obtain ⟨vs, h4, h5⟩ := resT_some k1 _ _ h3
            refine ⟨undef, fun _ => ?_⟩
            cases h5
            refine ⟨res1 vs, ?_, rfl, rfl⟩
            unfold res
            rw [h4]
            unfold res1
            cases vs with
            | nil => rfl
            | cons v vs => cases vs <;> rfl
          have hd : a'.defers = [] := q4
          cases e with
          | exit i => cases k2
          | normal =>
            obtain ⟨_, h5⟩ := fin k2
            obtain ⟨v0, hr, rfl, rfl⟩ := h5 (.inl rfl)
            obtain ⟨v', g1, g2⟩ := res_run q2 q3 hr
            exact ⟨hd, v', g1, v', ι', rfl, q1, q2, g2⟩
          | ret =>
            obtain ⟨_, h5⟩ := fin k2
            obtain ⟨v0, hr, rfl, rfl⟩ := h5 (.inr rfl)
            obtain ⟨v', g1, g2⟩ := res_run q2 q3 hr
            exact ⟨hd, v', g1, v', ι', rfl, q1, q2, g2⟩
        · cases hh
    · cases hh
  · cases hh
def rqB (P : Program) (f : FuncId) (hk : Nat) : Code :=
  match rqOf P f hk with
  | some (s, _) => s.bd
  | none => .skip
def rqN (P : Program) (f : FuncId) (hk : Nat) : Nat :=
  match rqOf P f hk with
  | some (_, n) => n
  | none => 0
/-- The staged form of the loop's body, from some slots on. -/
def pieceQ (P : Program) (E : Env) (S : Sc) (X : (R : Type) → Xs R) (f : FuncId) (hk : Nat) (ins : List Nat) (ws : List Value) (h : H) : Option (Ex × List Value × H) :=
  codeT P E S X (rqN P f hk) (rqB P f hk) [] (Ex × List Value × H) (fun i => match posn i ins 0 with
    | some j => .opq (S.gv ws j)
    | none => .top) h fun e _ h => (X (Ex × List Value × H)).out e [] h
theorem pieceQ_some {f : FuncId} {hk : Nat} {ins : List Nat} {ws : List Value} {h h' : H} {e : Ex} {o : List Value} {s : RqS} {N : Nat} (hs : rqOf P f hk = some (s, N)) (hh : pieceQ P E SC (XC P rec k) f hk ins ws h = some (e, o, h')) {t : Array Value} (hsz : t.size = N) (hin : ∀ i j, posn i ins 0 = some j → t.getD i undef = gv ws j) :
    ∃ t', code P E rec k s.bd t h = some (e, t', h') ∧ t'.size = N ∧ ∀ i, i ∉ writ s.bd → t'.getD i undef = t.getD i undef := by
  unfold pieceQ rqB rqN at hh
  rw [hs] at hh
  simp only at hh
  have ht : TE N t (fun i => match posn i ins 0 with
    | some j => .opq (SC.gv ws j)
    | none => .top) := by
    refine ⟨hsz, fun i => ?_⟩
    simp only
    split
    · rename_i j hj
      exact .inr (hin i j hj).symm
    · exact .inl rfl
  obtain ⟨e1, t1, env1, h1, g1, g2, g3⟩ := codeT_some s.bd ht hh
  replace g3 : some (e1, ([] : List Value), h1) = some (e, o, h') := g3
  cases g3
  exact ⟨t1, g1, g2.1, fun i hi => code_writ s.bd hi g1⟩
end
end Go.AM
end

section
namespace Go.AM
open Go.Proofs
noncomputable def p114H (_rec : Rec) (_k : Nat) (ws0 : List Value) (h0 : H) : Option (Ex × List Value × H) :=
  al h0 144 [(.int .i64 0), (.int .i64 0)] fun h1 =>
  st Tryd.prog h1 144 (nx h0) 0 (gv ws0 1) fun h2 =>
  ld Tryd.prog h2 3 (nx h0) 0 fun v0 =>
  asI .i64 v0 fun n0 =>
  nil (gv ws0 0) (
    asP (gv ws0 0) fun b0 b1 =>
    ld Tryd.prog h2 3 b0 (off b1 1) fun v1 =>
    asI .i64 v1 fun n1 =>
    ifB (eq n0 n1) (
      nil (gv ws0 0) (
        asP (gv ws0 0) fun b2 b3 =>
        ld Tryd.prog h2 3 b2 (off b3 3) fun v2 =>
        asI .i64 v2 fun n2 =>
        ld Tryd.prog h2 3 (nx h0) (off 0 1) fun v3 =>
        asI .i64 v3 fun n3 =>
        nn n3 (
          nil (gv ws0 0) (
            asP (gv ws0 0) fun b4 b5 =>
            st Tryd.prog h2 3 b4 (off b5 3) (.int .i64 (or .i64 n2 (shl .i64 1 n3))) fun h3 =>
            nil (gv ws0 0) (
              asP (gv ws0 0) fun b6 b7 =>
              ld Tryd.prog h3 22 b6 (off b7 5) fun v4 =>
              ld Tryd.prog h3 3 (nx h0) (off 0 1) fun v5 =>
              asI .i64 v5 fun n4 =>
              ld Tryd.prog h3 3 (nx h0) 0 fun v6 =>
              asI .i64 v6 fun n5 =>
              six v4 n4 1 fun b8 b9 =>
              st Tryd.prog h3 3 b8 b9 (.int .i64 n5) fun h4 =>
              out .normal [] h4))))) (
      nil (gv ws0 0) (
        asP (gv ws0 0) fun b10 b11 =>
        ld Tryd.prog h2 22 b10 (off b11 4) fun v7 =>
        ld Tryd.prog h2 3 (nx h0) 0 fun v8 =>
        asI .i64 v8 fun n6 =>
        ld Tryd.prog h2 3 (nx h0) (off 0 1) fun v9 =>
        asI .i64 v9 fun n7 =>
        six v7 n6 1 fun b12 b13 =>
        st Tryd.prog h2 3 b12 b13 (.int .i64 n7) fun h5 =>
        nil (gv ws0 0) (
          asP (gv ws0 0) fun b14 b15 =>
          ld Tryd.prog h5 22 b14 (off b15 5) fun v10 =>
          ld Tryd.prog h5 3 (nx h0) (off 0 1) fun v11 =>
          asI .i64 v11 fun n8 =>
          ld Tryd.prog h5 3 (nx h0) 0 fun v12 =>
          asI .i64 v12 fun n9 =>
          six v10 n8 1 fun b16 b17 =>
          st Tryd.prog h5 3 b16 b17 (.int .i64 n9) fun h6 =>
          out .normal [] h6))))
noncomputable def f114H_l1 (_rec : Rec) (_k : Nat) (v1 : Value) (h0 : H) (ws0 : List Value) (h5 : H) : Option (Ex × List Value × H) :=
  asP (gv ws0 2) fun b0 b1 =>
  ld Tryd.prog h5 129 b0 b1 fun v5 =>
  ld Tryd.prog h5 129 (nx h0) 0 fun v6 =>
  eqv Tryd.prog 129 v5 v6 fun q0 =>
  ifB (not q0) (
    asP (gv ws0 2) fun b2 b3 =>
    ld Tryd.prog h5 129 b2 b3 fun v7 =>
    lok Tryd.prog h5 127 v1 v7 false fun v8 =>
    al h5 129 [(.int .i64 0), (.bool false)] fun h6 =>
    st Tryd.prog h6 129 (nx h5) 0 v8 fun h7 =>
    asP (gv ws0 2) fun b4 b5 =>
    ld Tryd.prog h7 4 b4 (off b5 1) fun v9 =>
    asB v9 fun q1 =>
    ifB q1 (
      asP (gv ws0 2) fun b6 b7 =>
      ld Tryd.prog h7 3 b6 b7 fun v10 =>
      asI .i64 v10 fun n0 =>
      ld Tryd.prog h7 3 (nx h5) 0 fun v11 =>
      asI .i64 v11 fun n1 =>
      bld Tryd.prog 144 [(0, (.int .i64 n0)), (1, (.int .i64 n1))] fun v12 =>
      bls Tryd.prog h7 142 1 [(0, v12)] fun v13 h8 =>
      app Tryd.prog h8 142 142 (gv ws0 0) v13 fun v14 h9 =>
      asP (gv ws0 2) fun b8 b9 =>
      ld Tryd.prog h9 129 b8 b9 fun v15 =>
      al h9 129 [(.int .i64 0), (.bool false)] fun h10 =>
      st Tryd.prog h10 129 (nx h9) 0 v15 fun h11 =>
      ld Tryd.prog h11 129 (nx h9) 0 fun v16 =>
      lok Tryd.prog h11 127 v1 v16 false fun v17 =>
      st Tryd.prog h11 129 (nx h9) 0 v17 fun h12 =>
      out .normal [v14, gv ws0 1, (pt (nx h9) 0)] h12) (
      ld Tryd.prog h7 3 (nx h5) 0 fun v18 =>
      asI .i64 v18 fun n2 =>
      asP (gv ws0 2) fun b10 b11 =>
      ld Tryd.prog h7 3 b10 b11 fun v19 =>
      asI .i64 v19 fun n3 =>
      bld Tryd.prog 144 [(0, (.int .i64 n2)), (1, (.int .i64 n3))] fun v20 =>
      bls Tryd.prog h7 142 1 [(0, v20)] fun v21 h13 =>
      app Tryd.prog h13 142 142 (gv ws0 1) v21 fun v22 h14 =>
      asP (gv ws0 2) fun b12 b13 =>
      ld Tryd.prog h14 129 b12 b13 fun v23 =>
      al h14 129 [(.int .i64 0), (.bool false)] fun h15 =>
      st Tryd.prog h15 129 (nx h14) 0 v23 fun h16 =>
      ld Tryd.prog h16 129 (nx h14) 0 fun v24 =>
      lok Tryd.prog h16 127 v1 v24 false fun v25 =>
      st Tryd.prog h16 129 (nx h14) 0 v25 fun h17 =>
      out .normal [gv ws0 0, v22, (pt (nx h14) 0)] h17)) (
    out (.exit 0) [gv ws0 0, gv ws0 1, gv ws0 2] h5)
noncomputable def f114H_l2 (_rec : Rec) (_k : Nat) (v0 : Value) (h18 : H) (v27 : Value) (n5 : Int) (ws2 : List Value) (h21 : H) : Option (Ex × List Value × H) :=
  asI .i64 (gv ws2 0) fun n6 =>
  ifB (lt n6 n5) (
    asK (gv ws2 0) fun n7 =>
    six v27 n7 1 fun b16 b17 =>
    ld Tryd.prog h21 3 b16 b17 fun v28 =>
    asI .i64 v28 fun n8 =>
    nil v0 (
      asP v0 fun b18 b19 =>
      ld Tryd.prog h21 3 b18 (off b19 1) fun v29 =>
      asI .i64 v29 fun n9 =>
      bld Tryd.prog 144 [(0, (.int .i64 n9)), (1, (.int .i64 n8))] fun v30 =>
      mup Tryd.prog h21 145 (.map (some (nx h18))) v30 (.bool true) fun h22 =>
      asI .i64 (gv ws2 0) fun n10 =>
      out .normal [(.int .i64 (add .i64 n10 1))] h22)) (
    out (.exit 2) [gv ws2 0] h21)
noncomputable def f114H_l3 (_rec : Rec) (_k : Nat) (h18 : H) (v31 : Value) (n11 : Int) (ws4 : List Value) (h24 : H) : Option (Ex × List Value × H) :=
  asI .i64 (gv ws4 0) fun n12 =>
  ifB (lt n12 n11) (
    asK (gv ws4 0) fun n13 =>
    six v31 n13 1 fun b22 b23 =>
    ld Tryd.prog h24 3 b22 b23 fun v32 =>
    asI .i64 v32 fun n14 =>
    ifB (le 0 n14) (
      bld Tryd.prog 144 [(0, gv ws4 0), (1, (.int .i64 n14))] fun v33 =>
      mup Tryd.prog h24 145 (.map (some (nx h18))) v33 (.bool true) fun h25 =>
      asI .i64 (gv ws4 0) fun n15 =>
      out .normal [(.int .i64 (add .i64 n15 1))] h25) (
      asI .i64 (gv ws4 0) fun n16 =>
      out .normal [(.int .i64 (add .i64 n16 1))] h24)) (
    out (.exit 4) [gv ws4 0] h24)
noncomputable def f114H_l4 (_rec : Rec) (_k : Nat) (ws1 : List Value) (h18 : H) (n17 : Int) (ws6 : List Value) (h27 : H) : Option (Ex × List Value × H) :=
  asI .i64 (gv ws6 0) fun n18 =>
  ifB (lt n18 n17) (
    asK (gv ws6 0) fun n19 =>
    six (gv ws1 0) n19 2 fun b24 b25 =>
    ld Tryd.prog h27 144 b24 b25 fun v34 =>
    al h27 144 [(.int .i64 0), (.int .i64 0)] fun h28 =>
    st Tryd.prog h28 144 (nx h27) 0 v34 fun h29 =>
    ld Tryd.prog h29 144 (nx h27) 0 fun v35 =>
    del Tryd.prog h29 145 (.map (some (nx h18))) v35 fun h30 =>
    asI .i64 (gv ws6 0) fun n20 =>
    out .normal [(.int .i64 (add .i64 n20 1))] h30) (
    out (.exit 6) [gv ws6 0] h27)
noncomputable def f114H_l5 (_rec : Rec) (_k : Nat) (ws1 : List Value) (h18 : H) (n21 : Int) (ws8 : List Value) (h32 : H) : Option (Ex × List Value × H) :=
  asI .i64 (gv ws8 0) fun n22 =>
  ifB (lt n22 n21) (
    asK (gv ws8 0) fun n23 =>
    six (gv ws1 1) n23 2 fun b26 b27 =>
    ld Tryd.prog h32 144 b26 b27 fun v36 =>
    al h32 144 [(.int .i64 0), (.int .i64 0)] fun h33 =>
    st Tryd.prog h33 144 (nx h32) 0 v36 fun h34 =>
    ld Tryd.prog h34 144 (nx h32) 0 fun v37 =>
    mup Tryd.prog h34 145 (.map (some (nx h18))) v37 (.bool true) fun h35 =>
    asI .i64 (gv ws8 0) fun n24 =>
    out .normal [(.int .i64 (add .i64 n24 1))] h35) (
    out (.exit 8) [gv ws8 0] h32)
noncomputable def f114H_l6 (_rec : Rec) (_k : Nat) (v0 : Value) (n25 : Int) (ws10 : List Value) (h38 : H) : Option (Ex × List Value × H) :=
  asI .i64 (gv ws10 0) fun n26 =>
  ifB (lt n26 n25) (
    nil v0 (
      asP v0 fun b32 b33 =>
      ld Tryd.prog h38 22 b32 (off b33 4) fun v39 =>
      nil v0 (
        asP v0 fun b34 b35 =>
        ld Tryd.prog h38 22 b34 (off b35 5) fun v40 =>
        asK (gv ws10 0) fun n27 =>
        six v39 n27 1 fun b36 b37 =>
        st Tryd.prog h38 3 b36 b37 (.int .i64 (-1)) fun h39 =>
        asK (gv ws10 0) fun n28 =>
        six v40 n28 1 fun b38 b39 =>
        st Tryd.prog h39 3 b38 b39 (.int .i64 (-1)) fun h40 =>
        asI .i64 (gv ws10 0) fun n29 =>
        out .normal [(.int .i64 (add .i64 n29 1))] h40))) (
    out (.exit 10) [gv ws10 0] h38)
noncomputable def f114H (RG : List Value → H → Option (Ex × List Value × H)) (rec : Rec) (k : Nat) (v0 : Value) (v1 : Value) (v2 : Value) (v3 : Value) (h0 : H) : Option (Value × H) :=
  bx h0 129 v2 fun h1 =>
  bx h1 129 v3 fun h2 =>
  ld Tryd.prog h2 129 (nx h1) 0 fun v4 =>
  al h2 129 [(.int .i64 0), (.bool false)] fun h3 =>
  st Tryd.prog h3 129 (nx h2) 0 v4 fun h4 =>
  lp k (f114H_l1 rec k v1 h0) [(.slice none 0 0), (.slice none 0 0), (pt (nx h2) 0)] h4 fun e0 ws1 h18 =>
  onE e0 0 (
    mkm h18 fun h19 =>
    nil v0 (
      asP v0 fun b14 b15 =>
      ld Tryd.prog h19 3 b14 (off b15 3) fun v26 =>
      asI .i64 v26 fun n4 =>
      calls rec h19 76 [(.int .i64 n4)] fun v27 h20 =>
      len v27 fun n5 =>
      lp k (f114H_l2 rec k v0 h18 v27 n5) [(.int .i64 0)] h20 fun e1 _ h23 =>
      onE e1 2 (
        nil v0 (
          asP v0 fun b20 b21 =>
          ld Tryd.prog h23 22 b20 (off b21 4) fun v31 =>
          len v31 fun n11 =>
          lp k (f114H_l3 rec k h18 v31 n11) [(.int .i64 0)] h23 fun e2 _ h26 =>
          onE e2 4 (
            len (gv ws1 0) fun n17 =>
            lp k (f114H_l4 rec k ws1 h18 n17) [(.int .i64 0)] h26 fun e3 _ h31 =>
            onE e3 6 (
              len (gv ws1 1) fun n21 =>
              lp k (f114H_l5 rec k ws1 h18 n21) [(.int .i64 0)] h31 fun e4 _ h36 =>
              onE e4 8 (
                nil v0 (
                  asP v0 fun b28 b29 =>
                  st Tryd.prog h36 3 b28 (off b29 3) (.int .i64 0) fun h37 =>
                  nil v0 (
                    asP v0 fun b30 b31 =>
                    ld Tryd.prog h37 22 b30 (off b31 4) fun v38 =>
                    len v38 fun n25 =>
                    lp k (f114H_l6 rec k v0 n25) [(.int .i64 0)] h37 fun e5 _ h41 =>
                    onE e5 10 (
                      lp k RG [v0, (.map (some (nx h18)))] h41 fun _ _ h42 =>
                      some (undef, h42)) (
                      none)))) (
                none)) (
              none)) (
            none))) (
        none))) (
    none)
theorem e114H (RG : List Value → H → Option (Ex × List Value × H)) (rec : Rec) (k : Nat) (v0 v1 v2 v3 : Value) (h : H) :
    bodyH Tryd.prog E0 SC (XC Tryd.prog rec k) 39 [0, 12] RG 114 (Value × H) [.opq v0, .opq v1, .opq v2, .opq v3] h (fun v h => some (v, h)) = f114H RG rec k v0 v1 v2 v3 h := by kernel_rfl
theorem ep114H (rec : Rec) (k : Nat) (ws : List Value) (h : H) : pieceQ Tryd.prog E0 SC (XC Tryd.prog rec k) 114 39 [0, 135] ws h = p114H rec k ws h := by kernel_rfl
theorem rq114 : (rqOf Tryd.prog 114 39).isSome = true := by kernel_rfl
theorem rq114f : (rqOf Tryd.prog 114 39).map (fun x => (x.2, x.1.qt, x.1.d1, x.1.d2, x.1.d3, x.1.d4, (AM.writ x.1.code).contains 0, (AM.writ x.1.code).contains 12)) = some (171, 131, 132, 133, 134, 135, false, false) := by kernel_rfl
theorem rq114q : (rqOf Tryd.prog 114 39).map (fun x => (AM.writ x.1.bd).contains 131) = some false := by kernel_rfl
theorem rq114o : (rqOf Tryd.prog 114 39).map (fun x => (x.1.o1.op, Tryd.prog.underlying x.1.T)) = some (.move (.tmp 12), some (.map 144 4)) := by kernel_rfl
theorem rq114_is : ∃ s, rqOf Tryd.prog 114 39 = some (s, 171) ∧ s.qt = 131 ∧ (s.d1 = 132 ∧ s.d2 = 133 ∧ s.d3 = 134 ∧ s.d4 = 135) ∧ 0 ∉ AM.writ s.code ∧ 12 ∉ AM.writ s.code ∧ 131 ∉ AM.writ s.bd ∧ s.o1.op = .move (.tmp 12) ∧ Tryd.prog.underlying s.T = some (.map 144 4) := by
  have h1 := rq114
  have h2 := rq114f
  have h3 := rq114q
  have h4 := rq114o
  revert h1 h2 h3 h4
  generalize rqOf Tryd.prog 114 39 = o
  cases o with
  | none => intro h; cases h
  | some x =>
    obtain ⟨s, n⟩ := x
    intro _ h2 h3 h4
    simp only [Option.map_some, Option.some.injEq, Prod.mk.injEq] at h2 h3 h4
    obtain ⟨rfl, h5, h6, h7, h8, h9, h10, h11⟩ := h2
    exact ⟨s, rfl, h5, ⟨h6, h7, h8, h9⟩, by simpa using h10, by simpa using h11, by simpa using h3, h4.1, h4.2⟩
end Go.AM
end

section
namespace Go.AM
section
variable {P : Program} {E : Env} {rec : Rec} {k : Nat}
theorem calls_over {F f : FuncId} {g : Array Value → H → Option (Value × H)} {h : H} {xs : List Value} {R : Type} {K : Value → H → Option R} (hf : f ≠ F) : calls (over rec F g) h f xs K = calls rec h f xs K := by
  unfold calls
  rw [over_ne hf]
theorem calls_at {F : FuncId} {g : Array Value → H → Option (Value × H)} {h h' : H} {v : Value} {xs : List Value} {R : Type} {K : Value → H → Option R} (e : g xs.toArray h = some (v, h')) : calls (over rec F g) h F xs K = K v h' := by
  unfold calls
  rw [over_at, e]
  rfl
end
end Go.AM
end

section
namespace Go.AM
section
variable {P : Program} {E : Env}
/-- Less is known: blocks are left out, and one number of an own row may be any. -/
structure Wk (E : Env) (h h' : H) : Prop where
  nx : h'.nx = h.nx
  blk : ∀ b k', h'.blk b = some k' → h.blk b = some k' ∨ ∃ c i k x e, h.blk b = some (.row c e true) ∧ c[i]? = some (.int k x) ∧ k' = .row (c.set i (.chan none)) e true
  same : ∀ b, h'.blk b = h.blk b ∨ (∃ k, h.blk b = some k ∧ k.own = true) ∨ E.NG ≤ b
theorem Wk.old {h h' : H} (s : Wk E h h') {b : Nat} {k' : Blk} (hb : h'.blk b = some k') : ∃ k, h.blk b = some k ∧ k.own = k'.own := by
  rcases s.blk b k' hb with h1 | ⟨c, i, k, x, e, h1, _, rfl⟩
  · exact ⟨k', h1, rfl⟩
  · exact ⟨_, h1, rfl⟩
theorem Wk.rel {h h' : H} (s : Wk E h h') {ι : Nat → Emb} {w : World} (r : Rel P E ι h w) : Rel P E ι h' w where
  dom := fun b k hb => by
    obtain ⟨k0, h1, _⟩ := s.old hb
    rw [s.nx]; exact r.dom b k0 h1
  blk := fun b k' hb => by
    rw [s.nx]
    rcases s.blk b k' hb with h1 | ⟨c, i, k, x, e, h1, h2, rfl⟩
    · exact r.blk b k' h1
    · obtain ⟨C, E', q1, q2, q3, q4, q5⟩ := r.blk b _ h1
      refine ⟨C, E', q1, q2, by rw [List.length_set]; exact q3, q4, fun j v hv => ?_⟩
      rw [List.getElem?_set] at hv
      by_cases hij : i = j
      · subst hij
        rw [if_pos rfl] at hv
        obtain ⟨v', g1, g2⟩ := q5 i _ h2
        cases g2
        split at hv
        · cases hv
          exact ⟨_, g1, .any _ _⟩
        · cases hv
      · rw [if_neg hij] at hv
        exact q5 j v hv
  inj := fun b b' k k' h1 h2 hne ho => by
    obtain ⟨k0, g1, g2⟩ := s.old h1
    obtain ⟨k0', g3, _⟩ := s.old h2
    exact r.inj b b' k0 k0' g1 g3 hne (g2.trans ho)
  ng := by rw [s.nx]; exact r.ng
  glob := r.glob
  globB := fun g hg => by
    rcases s.same g with h1 | ⟨k, h1, h2⟩ | h1
    · rw [h1]; exact r.globB g hg
    · exfalso
      have h3 := r.globB g hg
      rw [h1] at h3
      have := (r.globO g k hg h3.symm).1
      rw [h2] at this
      cases this
    · omega
  globO := r.globO
theorem Wk.tr {h h' : H} (s : Wk E h h') {ι0 ι : Nat → Emb} {h0 : H} {w0 w : World} (t : Tr ι0 h0 w0 ι h w) : Tr ι0 h0 w0 ι h' w :=
  ⟨by rw [s.nx]; exact t.nx, t.ext, t.os, t.tape, t.output, t.size, t.fr, fun b k hb ho => by
    obtain ⟨k0, h1, h2⟩ := s.old hb
    exact t.own b k0 h1 (h2.trans ho)⟩
theorem Sd.weak {c : Code} {t : Array Value} {h : H} {K K' : Ex → Array Value → H → Prop} (s : Sd P E c t h K) (hk : ∀ e t' h1, K e t' h1 → ∃ h2, Wk E h1 h2 ∧ K' e t' h2) : Sd P E c t h K' := by
  intro ι w a Q r ht hQ
  refine s ι w a Q r ht fun e t' h1 k => ?_
  obtain ⟨h2, wk, k'⟩ := hk e t' h1 k
  intro ι' a' w' q1 q2 q3 q4
  exact hQ e t' h2 k' ι' a' w' (wk.tr q1) (wk.rel q2) (by rw [wk.nx]; exact q3) q4
open Classical in
/-- What a piece does, told at one place. -/
noncomputable def onePt (ws0 : List Value) (h0 h1 : H) : List Value → H → Option (Ex × List Value × H) := fun ws h => if ws = ws0 ∧ h = h0 then some (.ret, [], h1) else none
theorem onePt_at (ws0 : List Value) (h0 h1 : H) : onePt ws0 h0 h1 ws0 h0 = some (.ret, [], h1) := by
  unfold onePt
  exact if_pos ⟨rfl, rfl⟩
theorem onePt_some {ws0 ws ws' : List Value} {h0 h1 h h' : H} {e : Ex} (r : onePt ws0 h0 h1 ws h = some (e, ws', h')) : ws = ws0 ∧ h = h0 ∧ e = .ret ∧ h' = h1 := by
  unfold onePt at r
  split at r
  · rename_i hx
    simp only [Option.some.injEq, Prod.mk.injEq] at r
    obtain ⟨rfl, _, rfl⟩ := r
    exact ⟨hx.1, hx.2, rfl, rfl⟩
  · cases r
variable {s : RqS} {N : Nat}
theorem RqS.Ok.writ (ok : s.Ok N) {i : Nat} (hi : i ∉ AM.writ s.code) : i ≠ s.d0 ∧ i ≠ s.qt ∧ i ≠ s.d1 ∧ i ≠ s.d2 ∧ i ≠ s.d3 ∧ i ≠ s.d4 ∧ i ∉ AM.writ s.bd := by
  simp only [RqS.code, AM.writ, List.mem_eraseDups, List.mem_append, List.mem_filterMap, List.mem_cons, List.not_mem_nil, or_false, not_or] at hi
  simp only [exists_eq_or_imp, exists_eq_left, ok.o1.1, ok.rg.1, ok.nx.1, ok.x1.1, ok.en.1, ok.x2.1, Option.some.injEq, not_or, or_and_right, exists_or] at hi
  obtain ⟨⟨h1, h2⟩, ⟨h3, h4⟩, h5, ⟨h6, h7, h8⟩, h9⟩ := hi
  refine ⟨Ne.symm h1, Ne.symm h2, Ne.symm h3, Ne.symm h4, Ne.symm h6, Ne.symm h7, ?_⟩
  simp only [RqS.bd, AM.writ, List.mem_eraseDups, List.mem_append, List.mem_filterMap, not_or]
  exact ⟨fun ⟨o, ho, e⟩ => h8 ⟨o, ho, e⟩, h9⟩
theorem entQ_other (ok : s.Ok N) {t : Array Value} {e : MapEntry} {i : Nat} (hi : i ∉ AM.writ s.code) : (entQ s t e).getD i undef = t.getD i undef := by
  obtain ⟨_, _, h1, h2, h3, h4, _⟩ := ok.writ hi
  unfold entQ
  rw [put_other h4, put_other h3, put_other h2, put_other h1]
theorem entQ_key (ok : s.Ok N) {t : Array Value} (ht : t.size = N) {e : MapEntry} : (entQ s t e).getD s.d4 undef = e.key := by
  unfold entQ
  exact put_at (by simp only [put_size]; rw [ht]; exact ok.lt.2.2.2.2.2)
theorem entQ_size {t : Array Value} {e : MapEntry} : (entQ s t e).size = t.size := by
  unfold entQ; simp only [put_size]
theorem endQ_other (ok : s.Ok N) {t : Array Value} {i : Nat} (hi : i ∉ AM.writ s.code) : (endQ s t).getD i undef = t.getD i undef := by
  obtain ⟨_, _, h1, h2, _⟩ := ok.writ hi
  unfold endQ
  rw [put_other h2, put_other h1]
theorem endQ_size {t : Array Value} : (endQ s t).size = t.size := by unfold endQ; simp only [put_size]
end
end Go.AM
end

section
namespace Go.AM
open Go.Proofs
variable {R : Type}
theorem ag144 : aggT Tryd.prog 144 = some true := by kernel_rfl
theorem sz144 : size? Tryd.prog 144 = some 2 := by kernel_rfl
theorem d144 {h : H} {b o : Nat} {K : Value → Option R} : ld Tryd.prog h 144 b o K = (h.rd b o 2).bind fun l => K (.agg l.toArray) := ld_agS ag144 sz144
def arcV (a : Nat × Nat) : Value := .agg #[iv (a.1 : Nat), iv (a.2 : Nat)]
def arcE (x : (Nat × Nat) × Nat) : MapEntry := { key := arcV x.1, val := .bool true, born := x.2 }
/-- The state's three rows. -/
structure FlB (s t : Nat) (tv : Value) (fb nb bb : Nat) (first : Nat) (nxt : List Int) (bf : List Value) (h : H) : Prop where
  f : h.blk fb = some (.row [tv, iv s, iv t, iv first, .slice (some ⟨nb, 0, none⟩) nxt.length nxt.length, .slice (some ⟨bb, 0, none⟩) bf.length bf.length] 115 true)
  n : h.blk nb = some (.row (nxt.map iv) 3 true)
  b : h.blk bb = some (.row bf 3 true)
  ne : fb ≠ nb ∧ fb ≠ bb ∧ nb ≠ bb
  lt : fb < h.nx ∧ nb < h.nx ∧ bb < h.nx
section
variable {g : List Nat} {s t lo fb nb bb first : Nat} {tv : Value} {nxt : List Int} {bf : List Value} {h : H}
theorem FlH.toB (a : FlH g s t lo tv fb nb bb first nxt bf h) : FlB s t tv fb nb bb first nxt bf h := ⟨a.f, a.n, a.b, a.ne, a.lt⟩
theorem FlB.keep (a : FlB s t tv fb nb bb first nxt bf h) {h' : H} (hn : h.nx ≤ h'.nx) (hb : ∀ b, b < h.nx → h'.blk b = h.blk b) : FlB s t tv fb nb bb first nxt bf h' :=
  ⟨(hb _ a.lt.1).trans a.f, (hb _ a.lt.2.1).trans a.n, (hb _ a.lt.2.2).trans a.b, a.ne, Nat.lt_of_lt_of_le a.lt.1 hn, Nat.lt_of_lt_of_le a.lt.2.1 hn, Nat.lt_of_lt_of_le a.lt.2.2 hn⟩
theorem FlB.lds (a : FlB s t tv fb nb bb first nxt bf h) (K : Value → Option R) : ld Tryd.prog h 3 fb (off 0 1) K = K (iv s) := by rw [d3, cell_of a.f]; rfl
theorem FlB.ldf (a : FlB s t tv fb nb bb first nxt bf h) (K : Value → Option R) : ld Tryd.prog h 3 fb (off 0 3) K = K (iv first) := by rw [d3, cell_of a.f]; rfl
theorem FlB.ldn (a : FlB s t tv fb nb bb first nxt bf h) (K : Value → Option R) : ld Tryd.prog h 22 fb (off 0 4) K = K (.slice (some ⟨nb, 0, none⟩) nxt.length nxt.length) := by rw [d22, cell_of a.f]; rfl
theorem FlB.ldb (a : FlB s t tv fb nb bb first nxt bf h) (K : Value → Option R) : ld Tryd.prog h 22 fb (off 0 5) K = K (.slice (some ⟨bb, 0, none⟩) bf.length bf.length) := by rw [d22, cell_of a.f]; rfl
/-- Out of s there are these. -/
theorem FlB.stF (a : FlB s t tv fb nb bb first nxt bf h) (x : Nat) : ∃ h', (∀ (K : H → Option R), st Tryd.prog h 3 fb (off 0 3) (iv (x : Nat)) K = K h') ∧ FlB s t tv fb nb bb x nxt bf h' ∧ h'.nx = h.nx ∧ ∀ b, b ≠ fb → h'.blk b = h.blk b := by
  refine ⟨h.set fb (.row [tv, iv s, iv t, iv x, .slice (some ⟨nb, 0, none⟩) nxt.length nxt.length, .slice (some ⟨bb, 0, none⟩) bf.length bf.length] 115 true), fun K => ?_, ⟨blk_set_self _ _ _, ?_, ?_, a.ne, a.lt⟩, rfl, fun b hb => blk_set_ne _ _ _ hb⟩
  · rw [w3, wrc_one a.f rfl rfl (by simp [off])]
    rfl
  · rw [blk_set_ne _ _ _ (Ne.symm a.ne.1)]; exact a.n
  · rw [blk_set_ne _ _ _ (Ne.symm a.ne.2.1)]; exact a.b
theorem FlB.stN (a : FlB s t tv fb nb bb first nxt bf h) {v : Nat} (hv : v < nxt.length) (x : Int) : ∃ h', (∀ (K : H → Option R), (six (.slice (some ⟨nb, 0, none⟩) nxt.length nxt.length) (v : Int) 1 fun b o => st Tryd.prog h 3 b o (iv x) K) = K h') ∧ FlB s t tv fb nb bb first (nxt.set v x) bf h' ∧ h'.nx = h.nx ∧ ∀ b, b ≠ nb → h'.blk b = h.blk b := by
  refine ⟨h.set nb (.row ((nxt.set v x).map iv) 3 true), fun K => ?_, ⟨?_, blk_set_self _ _ _, ?_, a.ne, a.lt⟩, rfl, fun b hb => blk_set_ne _ _ _ hb⟩
  · rw [six_at hv, w3, wrc_one a.n rfl rfl (by simpa using hv), List.map_set]
    rfl
  · rw [blk_set_ne _ _ _ a.ne.1, List.length_set]; exact a.f
  · rw [blk_set_ne _ _ _ (Ne.symm a.ne.2.2)]; exact a.b
theorem FlB.stB (a : FlB s t tv fb nb bb first nxt bf h) {u : Nat} (hu : u < bf.length) (x : Int) : ∃ h', (∀ (K : H → Option R), (six (.slice (some ⟨bb, 0, none⟩) bf.length bf.length) (u : Int) 1 fun b o => st Tryd.prog h 3 b o (iv x) K) = K h') ∧ FlB s t tv fb nb bb first nxt (bf.set u (iv x)) h' ∧ h'.nx = h.nx ∧ ∀ b, b ≠ bb → h'.blk b = h.blk b := by
  refine ⟨h.set bb (.row (bf.set u (iv x)) 3 true), fun K => ?_, ⟨?_, ?_, blk_set_self _ _ _, a.ne, a.lt⟩, rfl, fun b hb => blk_set_ne _ _ _ hb⟩
  · rw [six_at hu, w3, wrc_one a.b rfl rfl hu]
    rfl
  · rw [blk_set_ne _ _ _ a.ne.2.1, List.length_set]; exact a.f
  · rw [blk_set_ne _ _ _ a.ne.2.2]; exact a.n
theorem p114H_run (a : FlB s t tv fb nb bb first nxt bf h) {v u n : Nat} (hn : n ≤ 10) (hl : nxt.length = n ∧ bf.length = n) (hf : first < 2 ^ n) (hv : v < n) (hu : u < n) :
    ∃ h', p114H rn 0 [pt fb 0, arcV (v, u)] h = some (.normal, [], h') ∧ FlB s t tv fb nb bb (if v = s then first ||| 2 ^ u else first) (if v = s then nxt else nxt.set v (u : Int)) (bf.set u (iv v)) h' ∧ h'.nx = h.nx + 1 ∧
      (∀ b, b ≠ fb → b ≠ nb → b ≠ bb → b ≠ h.nx → h'.blk b = h.blk b) ∧ h'.blk h.nx = some (.row [iv v, iv u] 144 true) := by
  obtain ⟨h1, hh1⟩ : ∃ h1, h1 = h.var (.row [iv (v : Nat), iv (u : Nat)] 144 true) := ⟨_, rfl⟩
  have n1 : h1.nx = h.nx + 1 := by rw [hh1]; rfl
  have b1 : h1.blk h.nx = some (.row [iv (v : Nat), iv (u : Nat)] 144 true) := by rw [hh1]; exact var_at _ _
  have f1 : ∀ b, b ≠ h.nx → h1.blk b = h.blk b := fun b hb => by rw [hh1]; exact if_neg hb
  have a1 := a.keep (h' := h1) (by omega) fun b hb => f1 b (by omega)
  have hlt := a.lt
  have l0 : ∀ {T : Type} {g' : H}, g'.blk h.nx = some (.row [iv (v : Nat), iv (u : Nat)] 144 true) → ∀ (K : Value → Option T), ld Tryd.prog g' 3 h.nx 0 K = K (iv (v : Int)) := fun x K => by rw [d3, cell_of x]; rfl
  have l1 : ∀ {T : Type} {g' : H}, g'.blk h.nx = some (.row [iv (v : Nat), iv (u : Nat)] 144 true) → ∀ (K : Value → Option T), ld Tryd.prog g' 3 h.nx (off 0 1) K = K (iv (u : Int)) := fun x K => by rw [d3, cell_of x]; rfl
  unfold p114H
  rw [show gv [pt fb 0, arcV (v, u)] 1 = .agg #[iv (v : Nat), iv (u : Nat)] from rfl, show gv [pt fb 0, arcV (v, u)] 0 = pt fb 0 from rfl, al_two sz144 rfl rfl, ← hh1, nx_eq, l0 b1, asI_int, nilp, asP_ptr, a1.lds, asI_int, eqN']
  by_cases hvs : v = s
  · obtain ⟨h2, e2, a2, n2, f2⟩ := a1.stF (R := Ex × List Value × H) (first ||| 2 ^ u)
    have b2 := (f2 h.nx (by omega)).trans b1
    obtain ⟨h3, e3, a3, n3, f3⟩ := a2.stB (R := Ex × List Value × H) (u := u) (by omega) (v : Int)
    refine ⟨h3, ?_, ?_, by omega, fun b q1 q2 q3 q4 => by rw [f3 b q3, f2 b q1, f1 b q4], by rw [f3 _ (by omega)]; exact b2⟩
    · rw [decide_eq_true hvs, ifB_true, nilp, asP_ptr, a1.ldf, asI_int, l1 b1, asI_int, nn_ge (by omega), nilp, asP_ptr, or_calc2 hn hf hu, e2, nilp, asP_ptr, a2.ldb, l1 b2, asI_int, l0 b2, asI_int, e3]
      rfl
    · rw [if_pos hvs, if_pos hvs]; exact a3
  · obtain ⟨h2, e2, a2, n2, f2⟩ := a1.stN (R := Ex × List Value × H) (v := v) (by omega) (u : Int)
    have b2 := (f2 h.nx (by omega)).trans b1
    obtain ⟨h3, e3, a3, n3, f3⟩ := a2.stB (R := Ex × List Value × H) (u := u) (by omega) (v : Int)
    refine ⟨h3, ?_, ?_, by omega, fun b q1 q2 q3 q4 => by rw [f3 b q3, f2 b q2, f1 b q4], by rw [f3 _ (by omega)]; exact b2⟩
    · rw [decide_eq_false hvs, ifB_false, nilp, asP_ptr, a1.ldn, l0 b1, asI_int, l1 b1, asI_int, e2, nilp, asP_ptr, a2.ldb, l1 b2, asI_int, l0 b2, asI_int, e3]
      rfl
    · rw [if_neg hvs, if_neg hvs]; exact a3
end
end Go.AM
end
