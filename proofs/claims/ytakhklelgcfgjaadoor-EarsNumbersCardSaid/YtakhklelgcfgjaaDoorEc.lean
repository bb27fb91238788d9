/- The nodes of a set; what a node reaches; is a set connected? -/
import Derived.Test.YtakhklelgcfgjaaDoorEb
import Derived.Test.YtakhklelgcfgjaaDoorEg
namespace Go.AM
open Go.Proofs

variable {R : Type}

attribute [local simp] nx_eq nx_new nx_set blk_new blk_set asI_int asK_int asB_bool asP_ptr al_eq bx_eq len_slice onE_exit onE_ret onR_ret Value.cells d3 d22 d23 cell_new cell_set rd_new rd_set off eq lt le ifB gv out

/-- Numbers, as they stand in a row. -/
abbrev cellsN (l : List Nat) : List (List Value) := l.map fun (n : Nat) => [iv (n : Int)]

theorem cellsN_eq (l : List Nat) : cellsI (l.map Int.ofNat) = cellsN l := by rw [cellsI, List.map_map]; rfl

/-- A graph that is valid. -/
structure GrN (g : List Nat) : Prop extends GrB g where
  pos : 1 ≤ g.length
  irr : ∀ a, adj g a a = false
  sym : ∀ a b, adj g a b = adj g b a

theorem bitI_nat {a p : Nat} (ha : a < 2 ^ 63) (hp : p ≤ 64) : bitI a p = if a.testBit p then 1 else 0 := bit_nat ha hp

theorem valid_nat {l : List Int} (hv : validG l = true) : ∃ g : List Nat, l = g.map Int.ofNat ∧ GrN g := by
  have hl : 1 ≤ l.length ∧ l.length ≤ 10 := by
    unfold validG at hv
    simp only [Bool.and_eq_true, decide_eq_true_iff] at hv
    exact hv.1
  have hrow := (validG_iff hl).1 hv
  have hshl : AM.shl .i64 1 (l.length : Int) = ((2 ^ l.length : Nat) : Int) := shl1_nat (by omega)
  have hpow : 2 ^ l.length ≤ 1024 := Nat.pow_le_pow_right (n := 2) (by omega) hl.2
  have hb : ∀ (i : Nat) (x : Int), l[i]? = some x → 0 ≤ x ∧ x < (2 ^ l.length : Nat) ∧ bitI x i ≠ 1 ∧ ∀ (j : Nat) (y : Int), l[j]? = some y → bitI x j = bitI y i := by
    intro i x hx
    have := hrow i x hx
    unfold rowOk at this
    rw [hshl] at this
    simp only [Bool.and_eq_true, Bool.not_eq_true', decide_eq_false_iff_not, List.all_eq_true, List.mem_range, decide_eq_true_iff] at this
    refine ⟨by omega, by omega, this.1.2, fun j y hy => ?_⟩
    have h := this.2 j (List.getElem?_eq_some_iff.1 hy).1
    simpa [List.getD, hy] using h
  have hmap : l = (l.map Int.toNat).map Int.ofNat := by
    rw [List.map_map]
    symm
    conv => rhs; rw [← List.map_id l]
    refine List.map_congr_left fun x hx => ?_
    obtain ⟨i, hi, rfl⟩ := List.getElem_of_mem hx
    have := hb i _ (List.getElem?_eq_getElem hi)
    simp only [Function.comp_apply, id_eq]
    show ((l[i].toNat : Nat) : Int) = l[i]
    omega
  refine ⟨l.map Int.toNat, hmap, ⟨⟨by simpa using hl.2, fun x hx => ?_⟩, by simpa using hl.1, fun a => ?_, fun a b => ?_⟩⟩
  · obtain ⟨y, hy, rfl⟩ := List.mem_map.1 hx
    obtain ⟨i, hi, rfl⟩ := List.getElem_of_mem hy
    have := hb i _ (List.getElem?_eq_getElem hi)
    rw [List.length_map]
    omega
  all_goals
    have hnb : ∀ i, (∃ x : Nat, l[i]? = some (x : Int) ∧ nb (l.map Int.toNat) i = x ∧ x < 1024) ∨ (l[i]? = none ∧ nb (l.map Int.toNat) i = 0) := by
      intro i
      unfold nb
      rw [List.getD_eq_getElem?_getD, List.getElem?_map]
      cases hx : l[i]? with
      | none => exact .inr ⟨rfl, rfl⟩
      | some x =>
        have := hb i x hx
        exact .inl ⟨x.toNat, by simp; omega, rfl, by omega⟩
  · unfold adj
    rcases hnb a with ⟨x, h1, h2, h3⟩ | ⟨_, h2⟩
    · rw [h2]
      have := (hb a x h1).2.2.1
      rw [bitI_nat (by omega) (by have := (List.getElem?_eq_some_iff.1 h1).1; omega)] at this
      cases hq : x.testBit a with
      | false => rfl
      | true => rw [hq] at this; simp at this
    · rw [h2]; simp
  · unfold adj
    rcases hnb a with ⟨x, h1, h2, h3⟩ | ⟨h1, h2⟩
    · rcases hnb b with ⟨y, h4, h5, h6⟩ | ⟨h4, h5⟩
      · rw [h2, h5]
        have := (hb a x h1).2.2.2 b y h4
        rw [bitI_nat (by omega) (by have := (List.getElem?_eq_some_iff.1 h4).1; omega), bitI_nat (by omega) (by have := (List.getElem?_eq_some_iff.1 h1).1; omega)] at this
        cases hq : x.testBit b <;> cases hr : y.testBit a <;> simp [hq, hr] at this ⊢
      · rw [h5]
        have hbl : l.length ≤ b := by
          refine Classical.byContradiction fun hc => ?_
          rw [List.getElem?_eq_getElem (by omega)] at h4
          cases h4
        have hxl : x < 2 ^ l.length := by have := (hb a x h1).2.1; omega
        rw [h2, big_bit hxl hbl]; simp
    · rw [h2]
      have hal : l.length ≤ a := by
        refine Classical.byContradiction fun hc => ?_
        rw [List.getElem?_eq_getElem (by omega)] at h1
        cases h1
      rcases hnb b with ⟨y, h4, h5, h6⟩ | ⟨h4, h5⟩
      · have hyl : y < 2 ^ l.length := by have := (hb b y h4).2.1; omega
        rw [h5, big_bit hyl hal]; simp
      · rw [h5]; simp

theorem wr64u {n : Nat} (h : n < 1024) : wr .u64 (n : Int) = n := by
  unfold wr IntKind.wrap
  show (n : Int) % 2 ^ 64 = n
  omega

theorem getN {h : H} {v : Value} {g : List Nat} (hs : SlR h 3 1 v (cellsN g)) {i : Nat} (hi : i < g.length) (K : Value → Option R) : (six v (i : Int) 1 fun b o => (h.cell b o).bind K) = K (iv (nb g i : Nat)) := by
  have : g[i]? = some (nb g i) := by unfold nb; rw [List.getD_eq_getElem?_getD, List.getElem?_eq_getElem hi]; rfl
  exact hs.c0 (by omega) (x := [iv (nb g i : Nat)]) (by simp [this]) rfl K

/-- The nodes of a set. -/
theorem s76 {S : Nat} (hS : S < 1024) (h : H) : ∃ v' h', rn 76 #[iv S] h = some (v', h') ∧ Exw h h' ∧ SlR h' 3 1 v' (cellsN (elts S)) := by
  obtain ⟨e, ws', h', hl, rfl, xg, v, w, hap, rfl⟩ := lpGo_inv (F := f76_l1 rn 2000)
    (fun d ws g => Ext h g ∧ ∃ (v : Value) (x : Nat) (L : List Nat), ws = [v, iv x] ∧ d = x ∧ x < 1024 ∧ L ++ elts x = elts S ∧ AqR h.nx g 3 1 v (cellsN L))
    (fun e ws g => e = .exit 0 ∧ Ext h g ∧ ∃ v w, AqR h.nx g 3 1 v (cellsN (elts S)) ∧ ws = [v, w])
    (by
      rintro d ws g ⟨xg, v, x, L, rfl, rfl, hx, hL, hap⟩
      by_cases hx0 : d = 0
      · subst hx0
        rw [elts_zero, List.append_nil] at hL
        subst hL
        exact ⟨.exit 0, [v, iv 0], _, by simp [f76_l1], .inr ⟨by simp, rfl, xg, v, iv 0, hap, rfl⟩⟩
      · have h0 : 0 < d := Nat.pos_of_ne_zero hx0
        obtain ⟨h1, h2⟩ := elts_next h0 hx
        have c89 := fun (K : Value → H → Option (Ex × List Value × H)) => calls_eq (K := K) (xs := [.int .u64 d]) (s89 h0 hx g)
        have hsub : sub .i64 (d : Int) 1 = ((d - 1 : Nat) : Int) := by rw [sub64 (by omega) (by omega)]; omega
        have hand : AM.and .i64 (d : Int) ((d - 1 : Nat) : Int) = ((d &&& (d - 1) : Nat) : Int) := and_nat (by omega) (by omega)
        have hLl : L.length ≤ 10 := by
          have h3 := congrArg List.length hL
          rw [List.length_append, elts_len S] at h3
          have := pop_le_n (Nat.le_refl 10) hS
          omega
        obtain ⟨v', g2, e2, a2, n2, k2, b2, hb2, hb2'⟩ := hap.push app22 app22 (bls22 (low d : Int)) rfl rfl (by simp; omega) xg.nx
        have ee : ∀ (K : Value → H → Option (Ex × List Value × H)), (bls Tryd.prog g 22 1 [(0, iv (low d : Nat))] fun y h2 => app Tryd.prog h2 22 22 v y K) = K v' g2 := fun K => e2 K
        refine ⟨.normal, [v', iv (d &&& (d - 1) : Nat)], g2, ?_, .inl ⟨rfl, d &&& (d - 1), h2, ⟨by have := xg.nx; omega, fun b hb => ?_⟩, v', d &&& (d - 1), L ++ [low d], rfl, rfl, by omega, ?_, ?_⟩⟩
        · unfold f76_l1
          rw [show AM.gv [v, iv d] 1 = iv d from rfl, show AM.gv [v, iv d] 0 = v from rfl, asI_int, show AM.eq (d : Int) 0 = false by simp; omega, show (!false) = true from rfl, ifB_true, asI_int, wr64u hx, c89, asI_int, ee, asI_int, asI_int, hsub, hand]
          rfl
        · rw [k2 b (by have := xg.nx; omega) (fun e => by have := (hap.blkOf e).1; omega)]
          exact xg.blk b hb
        · rw [← hL, h1]; simp
        · have : cellsN (L ++ [low d]) = cellsN L ++ [[iv (low d : Int)]] := by simp
          rw [this]; exact a2)
    S 2000 (by omega) ⟨.refl _, .slice none 0 0, S, [], rfl, rfl, hS, rfl, .nil⟩
  obtain ⟨h2, e2, m2, w2⟩ := x76 (k := 2000) (n0 := S) (h := h) (h1 := h') (v := v) (by
    unfold f76
    exact (lp_eq hl).trans rfl) (by obtain ⟨x, y, z, hz⟩ := hap.isSl; rw [hz]; rfl)
  exact ⟨v, h2, e2, w2 xg, hap.slR.ext m2.ext⟩

/-- What a node reaches within a set. -/
theorem s78 {tv : Value} {g : List Nat} {W v : Nat} {h : H} (hg : GrB g) (hs : SlR h 3 1 tv (cellsN g)) (hv : v < g.length) (hW : W < 2 ^ g.length) : rn 78 #[tv, iv v, iv W] h = some (iv (rch g W v : Nat), h) := by
  have hlen := hg.len
  have hpow := hg.pow
  have hW' : W < 1024 := Nat.lt_of_lt_of_le hW hpow
  have hinner : ∀ (S : Nat) (nv : Value) (h2 : H), Ext h h2 → S < 2 ^ g.length → SlR h2 3 1 nv (cellsN (elts S)) →
      lpGo (f78_l2 rn 2000 tv W nv (elts S).length) 2000 [iv S, iv 0] h2 = some (.exit 2, [iv (grow g W S : Nat), iv (elts S).length], h2) := by
    intro S nv h2 x2 hS hn
    have hS' : S < 1024 := Nat.lt_of_lt_of_le hS hpow
    have hpl : (elts S).length ≤ 10 := by rw [elts_len]; exact pop_le_n (Nat.le_refl 10) hS'
    have hl := lp_same (σ := Nat) (ρ := Empty) (F := f78_l2 rn 2000 tv W nv (elts S).length) (k := 2000) (l := elts S) (h := h2) (fun i s => [iv s, iv i])
      (fun _ i s => .inl (s ||| (nb g i &&& W))) (fun _ s => s < 1024) (fun _ => .ret) (fun _ => []) 2 (fun s => [iv s, iv (elts S).length]) (ws := [iv S, iv 0]) (s0 := S) rfl hS' (by omega) (by simp)
      (fun _ _ => by simp [f78_l2])
      (by
        intro i x s hx hI
        have hi := (List.getElem?_eq_some_iff.1 hx).1
        have hxS := (mem_elts hS').1 (List.mem_of_getElem? hx)
        have hxl : x < g.length := bit_lt hS hxS
        have hnw : nb g x &&& W < 1024 := Nat.and_lt_two_pow (n := 10) _ hW'
        refine ⟨fun s' hs' => by cases hs'; exact Nat.or_lt_two_pow (n := 10) hI hnw, ?_⟩
        have e1 : ∀ (K : Value → Option (Ex × List Value × H)), (six nv (i : Int) 1 fun b o => (h2.cell b o).bind K) = K (iv x) := fun K => hn.c0 (by omega) (x := [iv x]) (by simp [hx]) rfl K
        have e2 := fun (K : Value → Option (Ex × List Value × H)) => getN (hs.ext x2) hxl K
        have hand : AM.and .i64 (nb g x : Int) (W : Int) = ((nb g x &&& W : Nat) : Int) := and_nat (by have := hg.nb_lt x; omega) (by omega)
        have hor : AM.or .i64 (s : Int) ((nb g x &&& W : Nat) : Int) = ((s ||| (nb g x &&& W) : Nat) : Int) := or_nat (by omega) (by omega)
        have hadd : add .i64 (i : Int) 1 = (i : Int) + 1 := add64 (by omega) (by omega)
        simp [f78_l2, hi, e1, e2, hand, hor, hadd, rnd])
    rw [itL_inl (fun _ i s => s ||| (nb g i &&& W)), foldI_foldl (fun i s => s ||| (nb g i &&& W))] at hl
    exact hl.1
  obtain ⟨e, ws', h', hl, rfl, xg, w, rfl⟩ := lpGo_inv (F := f78_l1 rn 2000 tv W)
    (fun d ws h2 => Ext h h2 ∧ ∃ S : Nat, ws = [iv 0, iv S] ∧ S < 2 ^ g.length ∧ d + pop S = 10 ∧ S.testBit v = true ∧ ∀ u, S.testBit u = true → Rch g W v u)
    (fun e ws h2 => e = .ret ∧ Ext h h2 ∧ ∃ w, ws = [iv (rch g W v : Nat), w])
    (by
      rintro d ws h2 ⟨x2, S, rfl, hS, hd, hSv, hSr⟩
      have hS' : S < 1024 := Nat.lt_of_lt_of_le hS hpow
      obtain ⟨nv, h3, e76, x3w, hn⟩ := s76 hS' h2
      have x3 := x3w.toExt
      have hl := hinner S nv h3 (x2.trans x3) hS hn
      have hnl : ∀ {T : Type} (K : Int → Option T), len nv K = K ((elts S).length : Int) := fun K => by rw [hn.len]; simp
      have start : f78_l1 rn 2000 tv W [iv 0, iv S] h2 = if grow g W S = S then some (.ret, [iv S, iv S], h3) else some (.normal, [iv 0, iv (grow g W S : Nat)], h3) := by
        unfold f78_l1
        rw [show AM.gv [iv 0, iv S] 1 = iv S from rfl, calls_eq (xs := [iv S]) e76, hnl]
        refine (lp_eq hl).trans ?_
        rw [onE_exit, if_pos rfl, show AM.gv [iv (grow g W S : Nat), iv (elts S).length] 0 = iv (grow g W S : Nat) from rfl, asI_int, asI_int]
        by_cases hq : grow g W S = S
        · rw [if_pos hq, hq, show AM.eq (S : Int) (S : Int) = true by simp, ifB_true]; rfl
        · rw [if_neg hq, show AM.eq (grow g W S : Int) (S : Int) = false by simp; omega, ifB_false]; rfl
      rw [start]
      by_cases hq : grow g W S = S
      · rw [if_pos hq]
        refine ⟨_, _, _, rfl, .inr ⟨by simp, rfl, x2.trans x3, iv S, ?_⟩⟩
        rw [rch_eq (g := g) (W := W) (v := v) (by omega) hW' hS' hSv hSr fun a b ha hab hb => by
          rw [← hq, grow_bit hS']
          exact .inr ⟨a, ha, hab, hb⟩]
      · rw [if_neg hq]
        have hsub : ∀ u, S.testBit u = true → (grow g W S).testBit u = true := fun u hu => (grow_bit hS').2 (.inl hu)
        have hglt : grow g W S < 2 ^ g.length := by
          have key : ∀ (L : List Nat) (s : Nat), s < 2 ^ g.length → L.foldl (fun s i => s ||| (nb g i &&& W)) s < 2 ^ g.length := by
            intro L
            induction L with
            | nil => intro s h; exact h
            | cons i L ih => intro s h; exact ih _ (Nat.or_lt_two_pow h (Nat.and_lt_two_pow _ hW))
          exact key _ _ hS
        obtain ⟨i, hi⟩ : ∃ i, (grow g W S).testBit i ≠ S.testBit i := by
          refine Classical.byContradiction fun hc => hq (Nat.eq_of_testBit_eq fun i => Classical.byContradiction fun h => hc ⟨i, h⟩)
        have hSi : S.testBit i = false := by
          cases hh : S.testBit i with
          | false => rfl
          | true => rw [hh, hsub i hh] at hi; exact absurd rfl hi
        have hGi : (grow g W S).testBit i = true := by
          cases hh : (grow g W S).testBit i with
          | true => rfl
          | false => rw [hh, hSi] at hi; exact absurd rfl hi
        have hp := pop_lt (Nat.lt_of_lt_of_le hglt hpow) hsub hGi hSi
        have hp2 := pop_le_n (Nat.le_refl 10) (Nat.lt_of_lt_of_le hglt hpow)
        refine ⟨_, _, _, rfl, .inl ⟨rfl, 10 - pop (grow g W S), by omega, x2.trans x3, grow g W S, rfl, hglt, by omega, hsub v hSv, fun u hu => ?_⟩⟩
        rcases (grow_bit hS').1 hu with h | ⟨a, ha, hab, hb⟩
        · exact hSr u h
        · exact .step (hSr a ha) hab hb)
    (10 - pop (2 ^ v)) 2000 (by omega) ⟨.refl _, 2 ^ v, rfl, Nat.pow_lt_pow_right (by omega) hv, by
      have := pop_le_n (Nat.le_refl 10) (show 2 ^ v < 2 ^ 10 from Nat.pow_lt_pow_right (by omega) (by omega))
      omega, by simp [Nat.testBit_two_pow], fun u hu => by
      rw [Nat.testBit_two_pow] at hu
      have : v = u := by simpa using hu
      subst this
      exact .base⟩
  refine p78 (k := 2000) (h1 := h') ?_ rfl xg
  unfold f78
  rw [nn_ge (by omega), shl1_nat (by omega)]
  refine (lp_eq hl).trans ?_
  rw [onR_ret]
  rfl

/-- The document's Reached. -/
theorem s33 {tv : Value} {g : List Nat} {W v : Nat} {h : H} (hg : GrB g) (hs : SlR h 3 1 tv (cellsN g)) (hv : v < g.length) (hW : W < 2 ^ g.length) : rn 33 #[tv, iv W, iv v] h = some (iv (rch g W v : Nat), h) := by
  have hlen := hg.len
  have hpow := hg.pow
  have hW' : W < 1024 := Nat.lt_of_lt_of_le hW hpow
  have hn : ∀ {T : Type} (K : Int → Option T), len tv K = K (g.length : Int) := fun K => by rw [hs.len]; simp
  have hinner : ∀ (m : Nat), m < 1024 → lpGo (f33_l2 rn 200 tv W g.length) 200 [iv m, iv 0] h = some (.exit 2, [iv (roundD g W m : Nat), iv g.length], h) := by
    intro m hm
    have hl := lp_same (σ := Nat) (ρ := Empty) (F := f33_l2 rn 200 tv W g.length) (k := 200) (l := List.range g.length) (h := h) (fun i s => [iv s, iv i])
      (fun _ i s => .inl (stepD g W s i)) (fun _ s => s < 1024) (fun _ => .ret) (fun _ => []) 2 (fun s => [iv s, iv g.length]) (ws := [iv m, iv 0]) (s0 := m) rfl hm (by simp; omega) (by simp)
      (fun _ _ => by rw [List.length_range]; simp [f33_l2])
      (by
        intro i x s hx hI
        obtain ⟨hi, rfl⟩ := range_get hx
        have hnw : nb g x &&& W < 1024 := Nat.and_lt_two_pow (n := 10) _ hW'
        have hst : stepD g W s x < 1024 := by
          unfold stepD
          split
          · exact Nat.or_lt_two_pow (n := 10) hI hnw
          · exact hI
        refine ⟨fun s' hs' => by cases hs'; exact hst, ?_⟩
        have e2 := fun (K : Value → Option (Ex × List Value × H)) => getN hs hi K
        have hand : AM.and .i64 (nb g x : Int) (W : Int) = ((nb g x &&& W : Nat) : Int) := and_nat (by have := hg.nb_lt x; omega) (by omega)
        have hor : AM.or .i64 (s : Int) ((nb g x &&& W : Nat) : Int) = ((s ||| (nb g x &&& W) : Nat) : Int) := or_nat (by omega) (by omega)
        have hadd : add .i64 (x : Int) 1 = (x : Int) + 1 := add64 (by omega) (by omega)
        have hbit : AM.and .i64 (shr .i64 (s : Int) (x : Int)) 1 = if s.testBit x then 1 else 0 := bit_nat (by omega) (by omega)
        unfold stepD
        by_cases hb : s.testBit x = true
        · simp [f33_l2, hi, nn_ge (show (0 : Int) ≤ (x : Int) by omega), hbit, hb, e2, hand, hor, hadd, rnd]
        · simp [f33_l2, hi, nn_ge (show (0 : Int) ≤ (x : Int) by omega), hbit, hb, hadd, rnd])
    rw [itL_inl (fun _ i s => stepD g W s i), foldI_foldl (fun i s => stepD g W s i)] at hl
    exact hl.1
  have hl := lp_same (σ := Nat) (ρ := Empty) (F := f33_l1 rn 200 tv W g.length) (k := 200) (l := List.range g.length) (h := h) (fun i s => [iv s, iv i])
    (fun _ _ s => .inl (roundD g W s)) (fun _ s => s < 1024) (fun _ => .ret) (fun _ => []) 0 (fun s => [iv s, iv g.length]) (ws := [iv (2 ^ v : Nat), iv 0]) (s0 := 2 ^ v) rfl (Nat.lt_of_lt_of_le (Nat.pow_lt_pow_right (by omega) hv) hpow) (by simp; omega) (by simp)
    (fun _ _ => by rw [List.length_range]; simp [f33_l1])
    (by
      intro i x s hx hI
      obtain ⟨hi, rfl⟩ := range_get hx
      refine ⟨fun s' hs' => by cases hs'; exact foldD_lt (n := 10) hW' _ _ hI, ?_⟩
      have hadd : add .i64 (x : Int) 1 = (x : Int) + 1 := add64 (by omega) (by omega)
      have hlq := fun (K : Ex → List Value → H → Option (Ex × List Value × H)) => lp_eq (K := K) (hinner s hI)
      simp [f33_l1, hi, hn, hlq, hadd, rnd])
  rw [itL_inl (fun _ _ s => roundD g W s), foldI_foldl (fun _ s => roundD g W s)] at hl
  have hfin := reachD hg hv hW
  rw [hfin] at hl
  refine p33 (k := 200) ?_ rfl (.refl _)
  unfold f33
  rw [nn_ge (by omega), hn, shl1_nat (by omega)]
  refine (lp_eq hl.1).trans ?_
  rfl

/-- All nodes. -/
def allN (g : List Nat) : Nat := 2 ^ g.length - 1

theorem allN_lt (g : List Nat) : allN g < 2 ^ g.length := by have := Nat.two_pow_pos g.length; unfold allN; omega
theorem allN_bit (g : List Nat) (i : Nat) : (allN g).testBit i = decide (i < g.length) := by unfold allN; rw [Nat.testBit_two_pow_sub_one]

theorem shl_all {n : Nat} (h : n ≤ 10) : sub .i64 (AM.shl .i64 1 (n : Int)) 1 = ((2 ^ n - 1 : Nat) : Int) := by
  have h1 : 2 ^ n ≤ 2 ^ 10 := Nat.pow_le_pow_right (by omega) h
  have h2 := Nat.two_pow_pos n
  rw [shl1_nat (by omega), sub64 (by omega) (by omega)]
  omega

theorem s65 {tv : Value} {g : List Nat} {h : H} (hg : GrB g) (hs : SlR h 3 1 tv (cellsN g)) : rn 65 #[tv] h = some (iv (allN g : Nat), h) := by
  have hn : ∀ {T : Type} (K : Int → Option T), len tv K = K (g.length : Int) := fun K => by rw [hs.len]; simp
  refine p65 (k := 0) ?_ rfl (.refl _)
  simp [f65, hn, nn_ge, shl_all hg.len, allN]

theorem s68 {tv : Value} {g : List Nat} {h : H} (hg : GrB g) (hs : SlR h 3 1 tv (cellsN g)) : rn 68 #[tv] h = some (iv (allN g : Nat), h) := by
  have hn : ∀ {T : Type} (K : Int → Option T), len tv K = K (g.length : Int) := fun K => by rw [hs.len]; simp
  refine p68 (k := 0) ?_ rfl (.refl _)
  simp [f68, hn, nn_ge, shl_all hg.len, allN]

/-- Is a set connected, if it is not empty? -/
noncomputable def connS (g : List Nat) (S : Nat) : Bool := decide (S = 0) || decide (rch g S (low S) = S)

theorem low_lt {g : List Nat} {S : Nat} (hg : GrB g) (hS : S < 2 ^ g.length) (h0 : S ≠ 0) : low S < g.length := bit_lt hS (low_bit (Nat.pos_of_ne_zero h0) (Nat.lt_of_lt_of_le hS hg.pow))

theorem s64 {tv : Value} {g : List Nat} {S : Nat} {h : H} (hg : GrB g) (hs : SlR h 3 1 tv (cellsN g)) (hS : S < 2 ^ g.length) : rn 64 #[tv, iv S] h = some (.bool (connS g S), h) := by
  have hS' : S < 1024 := Nat.lt_of_lt_of_le hS hg.pow
  refine p64 (k := 0) ?_ rfl (.refl _)
  unfold f64 connS
  by_cases h0 : S = 0
  · subst h0; simp
  · have c89 := fun (K : Value → H → Option (Value × H)) => calls_eq (K := K) (xs := [.int .u64 S]) (s89 (Nat.pos_of_ne_zero h0) hS' h)
    have c78 := fun (K : Value → H → Option (Value × H)) => calls_eq (K := K) (xs := [tv, iv (low S : Nat), iv S]) (s78 hg hs (low_lt hg hS h0) hS)
    rw [show AM.eq (S : Int) 0 = false by simp; omega, ifB_false, wr64u hS', c89, asI_int, c78, asI_int]
    have : AM.eq (rch g S (low S) : Int) (S : Int) = decide (rch g S (low S) = S) := by
      rw [Bool.eq_iff_iff]; simp; omega
    rw [this, decide_eq_false h0]
    rfl

theorem s67 {tv : Value} {g : List Nat} {S : Nat} {h : H} (hg : GrB g) (hs : SlR h 3 1 tv (cellsN g)) (hS : S < 2 ^ g.length) : rn 67 #[tv, iv S] h = some (.bool (decide (S ≠ 0) && connS g S), h) := by
  have hlen := hg.len
  have hpow := hg.pow
  have hS' : S < 1024 := Nat.lt_of_lt_of_le hS hpow
  have hn : ∀ {T : Type} (K : Int → Option T), len tv K = K (g.length : Int) := fun K => by rw [hs.len]; simp
  by_cases h0 : S = 0
  · subst h0
    exact p67 (k := 0) (by simp [f67]) rfl (.refl _)
  · have hpos : 0 < S := Nat.pos_of_ne_zero h0
    have hlb := low_bit hpos hS'
    have hll := low_lt hg hS h0
    obtain ⟨e, ws', h', hl, rfl, rfl, rfl⟩ := lpGo_inv (F := f67_l1 rn 200 S)
      (fun d ws g' => g' = h ∧ ∃ i : Nat, ws = [iv i] ∧ i + d = low S)
      (fun e ws g' => e = .exit 0 ∧ g' = h ∧ ws = [iv (low S : Nat)])
      (by
        rintro d ws g' ⟨rfl, i, rfl, hd⟩
        have hbit : AM.and .i64 (shr .i64 (S : Int) (i : Int)) 1 = if S.testBit i then 1 else 0 := bit_nat (by omega) (by omega)
        by_cases hb : S.testBit i = true
        · have := low_min hS' hb
          have hi : i = low S := by omega
          subst hi
          refine ⟨.exit 0, [iv (low S : Nat)], g', ?_, .inr ⟨by simp, rfl, rfl, rfl⟩⟩
          simp [f67_l1, nn_ge, hbit, hb]
        · have hne : i ≠ low S := fun e => hb (e ▸ hlb)
          have hadd : add .i64 (i : Int) 1 = ((i + 1 : Nat) : Int) := by rw [add64 (by omega) (by omega)]; omega
          refine ⟨.normal, [iv ((i + 1 : Nat) : Int)], g', ?_, .inl ⟨rfl, d - 1, by omega, rfl, i + 1, rfl, by omega⟩⟩
          simp [f67_l1, nn_ge, hbit, hb, hadd])
      (low S) 200 (by omega) ⟨rfl, 0, rfl, by omega⟩
    have c33 := fun (K : Value → H → Option (Value × H)) => calls_eq (K := K) (xs := [tv, iv S, iv (low S : Nat)]) (s33 hg hs hll hS)
    refine p67 (k := 200) ?_ rfl (.refl _)
    unfold f67
    rw [show AM.le (S : Int) 0 = false by simp; omega, ifB_false, hn, nn_ge (by omega), shl1_nat (by omega), show AM.le ((2 ^ g.length : Nat) : Int) (S : Int) = false by rw [AM.le, decide_eq_false_iff_not]; omega, ifB_false]
    refine (lp_eq hl).trans ?_
    rw [onE_exit, if_pos rfl, show AM.gv [iv (low S : Nat)] 0 = iv (low S : Nat) from rfl, c33, asI_int]
    have : AM.eq (rch g S (low S) : Int) (S : Int) = decide (rch g S (low S) = S) := by
      rw [Bool.eq_iff_iff]; simp; omega
    rw [this]
    unfold connS
    rw [decide_eq_true h0, decide_eq_false h0]
    rfl

end Go.AM
