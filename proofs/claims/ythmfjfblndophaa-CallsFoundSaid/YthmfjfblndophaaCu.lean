/- Arrivals. -/
import Derived.Test.YthmfjfblndophaaCt
namespace Go.AM
open Go.Proofs

variable {R : Type}

attribute [local simp] nx_eq nx_new nx_set blk_new blk_set asI_int asK_int asB_bool asP_ptr al_eq bx_eq len_slice onE_exit onE_ret onR_ret Value.cells d3 d29 d31 d56 d24 d59 d22 d25 w3 cell_new cell_set rd_new rd_set off eq lt le ifB gv out eqF1 eqF2 eqF3 eqF4 eqF5 eqF6 eqF7 eqF8 ext20 ext21 k42 k72 k73 k74

theorem u64_small {a : Int} (h1 : 0 ≤ a) (h2 : a < 18446744073709551616) : IntKind.u64.wrap a = a := by
  simp only [IntKind.wrap, IntKind.signed, IntKind.bits, Bool.false_and]
  exact Int.emod_eq_of_lt h1 h2

theorem and_u64 {a b : Nat} (ha : a < 2 ^ 64) (hb : b < 2 ^ 64) : AM.and .u64 (a : Int) (b : Int) = ((a &&& b : Nat) : Int) := by
  unfold AM.and
  show IntKind.u64.wrap ((BitVec.ofInt 64 (a : Int) &&& BitVec.ofInt 64 (b : Int)).toNat : Nat) = _
  have e : ∀ {x : Nat}, x < 2 ^ 64 → (BitVec.ofInt 64 (x : Int)).toNat = x := fun {x} hx => by
    rw [ofInt_nat, BitVec.toNat_ofNat]
    exact Nat.mod_eq_of_lt hx
  rw [BitVec.toNat_and, e ha, e hb]
  have := Nat.and_lt_two_pow a hb
  exact u64_small (by omega) (by omega)

/-- Once a small number. -/
theorem s116 {n : Nat} (hn : n < 2 ^ 31) (h : H) : rn 116 #[.int .u64 1, .int .u64 n] h = some (.tuple #[.int .u64 0, .int .u64 n], h) := by
  refine p116 (k := 0) (h1 := h) ?_ rfl (.refl _)
  have a1 : AM.and .u64 1 4294967295 = 1 := by decide
  have a2 : AM.and .u64 (n : Int) 4294967295 = n := by
    have := and_u64 (a := n) (b := 4294967295) (by omega) (by decide)
    rw [show ((4294967295 : Nat) : Int) = 4294967295 from rfl] at this
    rw [this, show (4294967295 : Nat) = 2 ^ 32 - 1 from rfl, Nat.and_two_pow_sub_one_eq_mod]
    congr 1
    exact Nat.mod_eq_of_lt (by omega)
  have a3 : shr .u64 1 32 = 0 := by decide
  have a4 : shr .u64 (n : Int) 32 = 0 := by
    unfold shr
    rw [show min (32 : Int).toNat IntKind.u64.bits = 32 from rfl, Int.fdiv_eq_ediv_of_nonneg _ (by decide)]
    exact Int.ediv_eq_zero_of_lt (by omega) (by omega)
  have m1 : mul .u64 1 (n : Int) = n := by unfold mul; rw [Int.one_mul]; exact u64_small (by omega) (by omega)
  have m2 : ∀ x : Int, mul .u64 0 x = 0 := fun x => by unfold mul; rw [Int.zero_mul]; rfl
  have m3 : mul .u64 1 0 = 0 := by decide
  have p1 : add .u64 0 0 = 0 := by decide
  have q0 : AM.and .u64 0 4294967295 = 0 := by decide
  have q1 : shr .u64 0 32 = 0 := by decide
  simp [f116, nn, a1, a2, a3, a4, m1, m2, m3, p1, q0, q1]

theorem s112 {n : Nat} (hn : n < 2 ^ 31) (h : H) : rn 112 #[.int .u64 1, .int .u64 n] h = some (.tuple #[.int .u64 0, .int .u64 n], h) := by
  refine p112 (k := 0) (h1 := h) ?_ rfl (.refl _)
  have c1 := fun (K : Value → H → Option (Value × H)) => calls_eq (K := K) (xs := [_, _]) (s116 hn h)
  simp [f112, c1]

/-- A copy from the beginning of a row to a later place in it, and to its beginning. -/
theorem cpy_row {h : H} {b n c k m : Nat} {src : Value} {l : List Int} {xs : List Int} {bs : Option Addr} {cs : Nat} (hb : h.blk b = some (.row (l.map iv) 3 true)) (hs : srcCells 1 (.slice bs (min k n) cs) h = some (xs.map iv)) (hsrc : src = .slice bs k cs) (h0 : 0 < min k n)
    (hx : xs.length = min k n) (hm : m + xs.length ≤ l.length) (K : Int → H → Option R) :
    cpy Try.prog h 25 (.slice (some ⟨b, m, none⟩) n c) src K = K (min k n : Nat) (h.set b (.row (setAt (l.map iv) m (xs.map iv)) 3 true)) := by
  subst hsrc
  unfold cpy copyS
  simp only [under25, sz3, Option.bind_some]
  rw [if_neg (by omega), hs, Option.bind_some, hb]
  simp only
  rw [if_pos ⟨by simpa using hm, by rw [List.all_map, List.all_eq_true]; intro x _; rfl⟩]

theorem setAt_ints (l xs : List Int) (m : Nat) (h : m + xs.length ≤ l.length) : setAt (l.map iv) m (xs.map iv) = (l.take m ++ xs ++ l.drop (m + xs.length)).map iv := by
  have e : l = l.take m ++ ((l.drop m).take xs.length ++ l.drop (m + xs.length)) := by
    rw [show l.drop (m + xs.length) = (l.drop m).drop xs.length by rw [List.drop_drop], List.take_append_drop, List.take_append_drop]
  conv => lhs; rw [e]
  rw [List.map_append, List.map_append]
  have hm : ((l.take m).map iv).length = m := by simp; omega
  have := setAt_mid (xs.map iv) ((l.take m).map iv) (((l.drop m).take xs.length).map iv) ((l.drop (m + xs.length)).map iv) (by simp; omega)
  rw [hm] at this
  rw [this]
  simp

theorem s101 {v : Value} {x : Int} {n : Nat} {h : H} (hv : SlR h 3 1 v (cellsI [x])) (h1 : 1 ≤ n) (hn : n < 2 ^ 20) : ∃ v' h' b, rn 101 #[v, iv n] h = some (v', h') ∧ Ext h h' ∧ h.nx ≤ b ∧ blkOf v' = some b ∧ IA h' b v' (List.replicate n x) := by
  obtain ⟨bs, cs, hsv, hsrc0⟩ : ∃ bs cs, v = .slice bs 1 cs ∧ srcCells 1 v h = some [iv x] := by
    have := hv.srcAll (by decide)
    generalize hL : cellsI [x] = L at hv
    cases hv with
    | nil => cases hL
    | at_ => subst hL; exact ⟨_, _, rfl, this⟩
  let h2 := h.new (.row ((List.replicate n (0 : Int)).map iv) 3 true)
  have x2 : Ext h h2 := .new _ _
  have b2 : h2.blk h.nx = some (.row ((List.replicate n (0 : Int)).map iv) 3 true) := blk_new_self _ _
  have hv2 := hv.ext x2
  have hsrc2 : srcCells 1 (.slice bs (min 1 n) cs) h2 = some ([x].map iv) := by
    rw [show min 1 n = 1 by omega, ← hsv]
    exact hv2.srcAll (by decide)
  have kmk : ∀ (K : Value → H → Option (Value × H)), mks Try.prog h 25 n n K = K (.slice (some ⟨h.nx, 0, none⟩) n n) h2 := fun K => mks_ints app25 zero3 (by omega) K
  have kc1 : ∀ (K : Int → H → Option (Value × H)), cpy Try.prog h2 25 (.slice (some ⟨h.nx, 0, none⟩) n n) v K = K 1 (h2.set h.nx (.row (setAt ((List.replicate n (0 : Int)).map iv) 0 ([x].map iv)) 3 true)) := fun K => by
    rw [cpy_row (k := 1) (xs := [x]) (l := List.replicate n 0) b2 hsrc2 hsv (by omega) (by simp; omega) (by simp; omega), show min 1 n = 1 by omega]
    rfl
  rw [setAt_ints _ _ _ (by simp; omega)] at kc1
  let row (i : Nat) : List Int := List.replicate i x ++ List.replicate (n - i) 0
  have hrow1 : (List.replicate n (0 : Int)).take 0 ++ [x] ++ (List.replicate n 0).drop (0 + [x].length) = row 1 := by simp [row]
  rw [hrow1] at kc1
  generalize hH3 : h2.set h.nx (.row ((row 1).map iv) 3 true) = h3 at kc1
  have n3 : h3.nx = h.nx + 1 := by rw [← hH3]; rfl
  have f3 : ∀ q, q < h.nx → h3.blk q = h.blk q := fun q hq => by rw [← hH3, blk_set_ne _ _ _ (by omega)]; exact x2.blk q hq
  have b3 : h3.blk h.nx = some (.row ((row 1).map iv) 3 true) := by rw [← hH3]; exact blk_set_self _ _ _
  -- the rounds
  have rounds : ∃ ws' g, lpGo (f101_l1 rn (n + 2) (.slice (some ⟨h.nx, 0, none⟩) n n)) (n + 2) [iv 1] h3 = some (.exit 0, ws', g) ∧ g.nx = h.nx + 1 ∧ (∀ q, q < h.nx → g.blk q = h.blk q) ∧ g.blk h.nx = some (.row ((row n).map iv) 3 true) := by
    obtain ⟨e, ws', g, hl, rfl, q1, q2, q3⟩ := lpGo_inv (F := f101_l1 rn (n + 2) (.slice (some ⟨h.nx, 0, none⟩) n n))
      (fun d ws g => ∃ i : Nat, ws = [iv i] ∧ 1 ≤ i ∧ i ≤ n ∧ d = n - i ∧ g.nx = h.nx + 1 ∧ (∀ q, q < h.nx → g.blk q = h.blk q) ∧ g.blk h.nx = some (.row ((row i).map iv) 3 true))
      (fun e ws g => e = .exit 0 ∧ g.nx = h.nx + 1 ∧ (∀ q, q < h.nx → g.blk q = h.blk q) ∧ g.blk h.nx = some (.row ((row n).map iv) 3 true))
      (by
        rintro d ws g ⟨i, rfl, hi1, hin, rfl, gn, gf, gb⟩
        by_cases hend : i = n
        · subst hend
          exact ⟨.exit 0, [iv i], g, by simp [f101_l1], .inr ⟨by simp, rfl, gn, gf, gb⟩⟩
        · have hcap : capK n = n := by
            have h30 : (2 : Nat) ^ 30 < U := by decide
            unfold capK; rw [if_pos (by omega)]
          have hnU : n < U := by
            have h30 : (2 : Nat) ^ 30 < U := by decide
            omega
          have s1 : ∀ (K : Value → Option (Ex × List Value × H)), sli Try.prog g 25 (.slice (some ⟨h.nx, 0, none⟩) n n) (some (iv i)) none none K = K (.slice (some ⟨h.nx, i, none⟩) (n - i) (n - i)) := fun K => by
            unfold sli slice
            simp only [under25, gb]
            rw [if_pos ⟨trivial, by omega, rfl⟩]
            simp only [sz3, Option.bind_some, bound, hcap]
            rw [if_pos ⟨by omega, by omega⟩]
            simp only [Option.bind_some]
            rw [if_pos (.inr hnU)]
            simp [show ¬ n = i by omega]
          have s2 : ∀ (K : Value → Option (Ex × List Value × H)), sli Try.prog g 25 (.slice (some ⟨h.nx, 0, none⟩) n n) none (some (iv i)) none K = K (.slice (some ⟨h.nx, 0, none⟩) i n) := fun K => by
            unfold sli slice
            simp only [under25, gb]
            rw [if_pos ⟨trivial, by omega, rfl⟩]
            simp only [sz3, Option.bind_some, bound, hcap]
            rw [if_pos ⟨by omega, by omega⟩]
            simp only [Option.bind_some]
            rw [if_pos (.inr hnU)]
            simp
          have hmin : 0 < min i (n - i) := by omega
          have hsrc : srcCells 1 (.slice (some ⟨h.nx, 0, none⟩) (min i (n - i)) n) g = some ((List.replicate (min i (n - i)) x).map iv) := by
            simp only [srcCells, Nat.mul_one]
            rw [if_neg (by omega)]
            simp only [H.rd, gb]
            rw [if_pos (by simp [row]; omega)]
            rw [List.drop_zero, ← List.map_take]
            congr 2
            simp only [row]
            rw [List.take_append_of_le_length (by simp; omega), List.take_replicate]
            congr 1
            omega
          have kc : ∀ (K : Int → H → Option (Ex × List Value × H)), cpy Try.prog g 25 (.slice (some ⟨h.nx, i, none⟩) (n - i) (n - i)) (.slice (some ⟨h.nx, 0, none⟩) i n) K = K (min i (n - i) : Nat) (g.set h.nx (.row ((row (i + min i (n - i))).map iv) 3 true)) := fun K => by
            rw [cpy_row (k := i) (xs := List.replicate (min i (n - i)) x) (l := row i) gb hsrc rfl hmin (by simp) (by simp [row]; omega), setAt_ints _ _ _ (by simp [row]; omega)]
            have hrow : (row i).take i ++ List.replicate (min i (n - i)) x ++ (row i).drop (i + (List.replicate (min i (n - i)) x).length) = row (i + min i (n - i)) := by
              simp only [row, List.take_append, List.drop_append, List.length_replicate, List.take_replicate, List.drop_replicate, Nat.min_self, Nat.sub_self, Nat.min_zero, Nat.zero_min, List.replicate_zero, List.append_nil]
              rw [show i - (i + min i (n - i)) = 0 by omega, List.replicate_zero, List.nil_append, List.replicate_append_replicate]
              congr 2
              omega
            rw [hrow]
          refine ⟨.normal, [iv ((i + min i (n - i) : Nat) : Int)], g.set h.nx (.row ((row (i + min i (n - i))).map iv) 3 true), ?_, .inl ⟨rfl, n - (i + min i (n - i)), by omega, i + min i (n - i), rfl, by omega, by omega, rfl, ?_, ?_, blk_set_self _ _ _⟩⟩
          · have hadd : add .i64 (i : Int) ((min i (n - i) : Nat) : Int) = ((i + min i (n - i) : Nat) : Int) := by rw [add64 (by omega) (by omega)]; omega
            simp only [f101_l1, gv, List.getD_cons_zero, AM.len, asI_int, lt_t (show (i : Int) < n by omega), ifB, if_true, s1, s2, kc, hadd, out]
          · rw [nx_set]; exact gn
          · intro q hq
            rw [blk_set_ne _ _ _ (by omega)]
            exact gf q hq)
      (n - 1) (n + 2) (by omega) ⟨1, rfl, Nat.le_refl _, h1, rfl, n3, f3, b3⟩
    exact ⟨ws', g, hl, q1, q2, q3⟩
  obtain ⟨ws', g, hl, q1, q2, q3⟩ := rounds
  have hrn : row n = List.replicate n x := by simp [row]
  rw [hrn] at q3
  have ia : IA g h.nx (.slice (some ⟨h.nx, 0, none⟩) n n) (List.replicate n x) := by
    have h30 : (2 : Nat) ^ 30 < U := by decide
    have hcap : capK n = n := by unfold capK; rw [if_pos (by omega)]
    exact ⟨⟨n, by simp, by simp [hcap], by omega⟩, by omega, q3⟩
  refine ⟨.slice (some ⟨h.nx, 0, none⟩) n n, g, h.nx, x101 (k := n + 2) ?_ rfl, ⟨by omega, q2⟩, Nat.le_refl _, rfl, ia⟩
  have hlv : ∀ (K : Int → Option (Value × H)), len v K = K 1 := fun K => by rw [hsv]; rfl
  have w1 : wr .u64 1 = 1 := by decide
  have w2 : wr .u64 (n : Int) = n := u64_small (by omega) (by omega)
  have w3' : wr .i64 (n : Int) = n := wrap64 (by omega) (by omega)
  have c1 := fun (K : Value → H → Option (Value × H)) => calls_eq (K := K) (xs := [_, _]) (s112 (n := n) (by omega) h)
  unfold f101
  rw [lt_f (by omega), ifB_false, hlv, w1, w2, c1, ext20, asI_int, ext21, asI_int, lt_f (by omega), ifB_false, lt_f (by omega), ifB_false, w3', kmk, kc1]
  refine (lp_eq hl).trans ?_
  rw [onE_exit, if_pos rfl]

/-- A call, as arrivals go. -/
def arrG (c : Cl) (A : List Int) : List Int :=
  if A.getD c.a.toNat 0 ≠ -1 ∧ A.getD c.b.toNat 0 = -1 then A.set c.b.toNat c.t
  else if A.getD c.b.toNat 0 ≠ -1 ∧ A.getD c.a.toNat 0 = -1 then A.set c.a.toNat c.t else A

def arr0 (n : Nat) (s : Int) : List Int := (List.replicate n (-1)).set s.toNat 0
def arriveP (n : Nat) (l : List Cl) (s : Int) : List Int := l.foldl (fun A c => arrG c A) (arr0 n s)

theorem arrG_len (c : Cl) (A : List Int) : (arrG c A).length = A.length := by
  unfold arrG
  split
  · simp
  · split <;> simp

theorem s81 {n s : Int} {sl : Value} {l : List Cl} {h : H} (hs : SlR h 56 3 sl (l.map Cl.cells)) (hv : validP n l = true) (hp : 0 ≤ s ∧ s < n) :
    ∃ v h' b, rn 81 #[.agg #[iv n, sl], iv s, iv 0] h = some (v, h') ∧ Ext h h' ∧ h.nx ≤ b ∧ IA h' b v (arriveP n.toNat l s) := by
  obtain ⟨hn1, hn7, hl24, hok⟩ := validP_ok hv
  obtain ⟨m, rfl⟩ := Int.eq_ofNat_of_zero_le (show 0 ≤ n by omega)
  have x1 : Ext h (h.new (.row [iv m, sl] 31 true)) := .new _ _
  have x2 := Ext.new (h.new (.row [iv m, sl] 31 true)) (.row [iv (-1)] 3 true)
  have x12 := x1.trans x2
  have a2 : SlR ((h.new (.row [iv m, sl] 31 true)).new (.row [iv (-1)] 3 true)) 3 1 (.slice (some ⟨h.nx + 1, 0, none⟩) 1 1) (cellsI [-1]) := (AqR.lit (lo := 0) (l := cellsI [-1]) (Nat.zero_le _) rfl (by simp) (by simp)).slR
  obtain ⟨v3, h3, b, e101, x3, hlo, _, ia3⟩ := s101 a2 (show 1 ≤ m by omega) (show m < 2 ^ 20 by omega)
  have hlo' : h.nx + 2 ≤ b := hlo
  have w3' := ia3.wrc (i := s.toNat) (by simp; omega) 0
  have ia4 := ia3.set s.toNat 0
  have hb2 : ((h.new (.row [iv m, sl] 31 true)).new (.row [iv (-1)] 3 true)).blk h.nx = some (.row [iv m, sl] 31 true) := (x2.blk _ (Nat.lt_succ_self _)).trans (blk_new_self _ _)
  have hb3 : h3.blk h.nx = some (.row [iv m, sl] 31 true) := (x3.blk h.nx (by simp only [nx_new]; omega)).trans hb2
  generalize hH4 : h3.set b (.row (((List.replicate m (-1)).set s.toNat 0).map iv) 3 true) = h4 at *
  have x4 : Ext h h4 := by
    rw [← hH4]
    exact (x12.trans x3).set (by omega) _
  have hb4 : h4.blk h.nx = some (.row [iv m, sl] 31 true) := by rw [← hH4, blk_set_ne _ _ _ (by omega)]; exact hb3
  obtain ⟨ws', h', hl, hx, hia, hlen, rfl⟩ := lp_for (F := f81_l1 rn (l.length + 1) 0 v3 sl l.length) (k := l.length + 1) (l := l) (fun _ c (A : List Int) => arrG c A)
    (fun i A ws g => Ext h g ∧ IA g b v3 A ∧ A.length = m ∧ ws = [iv i]) 0 (ws := [iv 0]) (h := h4) (s0 := arr0 m s)
    ⟨x4, ia4, by simp [arr0], rfl⟩ (by omega)
    (by
      rintro A ws g ⟨_, _, _, rfl⟩
      simp [f81_l1])
    (by
      rintro i c A ws g hc ⟨hx, hia, hlen, rfl⟩
      have hil := (List.getElem?_eq_some_iff.1 hc).1
      obtain ⟨ha, hb⟩ := ok_range hv hc
      have y7 := (Ext.refl g).fresh 56 [iv 0, iv 0, iv 0] c.cells
      have hcb := blk_fresh g 56 [iv 0, iv 0, iv 0] c.cells
      have ia7 := hia.ext y7
      have x7 := hx.trans y7
      have hA : A[c.a.toNat]? = some (A.getD c.a.toNat 0) := by simp [show c.a.toNat < A.length by omega]
      have hB : A[c.b.toNat]? = some (A.getD c.b.toNat 0) := by simp [show c.b.toNat < A.length by omega]
      have hadd : add .i64 (i : Int) 1 = (i : Int) + 1 := add64 (by omega) (by omega)
      have z1 : AM.and .i64 (shr .i64 0 c.a) 1 = 0 := by
        obtain ⟨a, hca⟩ := Int.eq_ofNat_of_zero_le ha.1
        rw [hca]
        have := bit_nat (a := 0) (p := a) (by decide) (by omega)
        simpa using this
      have z2 : AM.and .i64 (shr .i64 0 c.b) 1 = 0 := by
        obtain ⟨a, hca⟩ := Int.eq_ofNat_of_zero_le hb.1
        rw [hca]
        have := bit_nat (a := 0) (p := a) (by decide) (by omega)
        simpa using this
      have hF : ∃ g', Ext h g' ∧ IA g' b v3 (arrG c A) ∧ f81_l1 rn (l.length + 1) 0 v3 sl l.length [iv i] g = some (.normal, [iv ((i : Int) + 1)], g') := by
        unfold f81_l1
        rw [show gv [iv i] 0 = iv i from rfl, asI_int, lt_t (by omega), ifB_true, asK_int, (hs.ext hx).ldA ag56 sz56 (by omega) (x := c.cells) (by simp [hc])]
        rw [al_st (zs := [iv 0, iv 0, iv 0]) (xs := c.cells) sz56 rfl rfl]
        generalize g.fresh 56 [iv 0, iv 0, iv 0] c.cells = h7 at *
        simp only [Cl.cells] at hcb
        have gA : ∀ (K : Value → Option (Ex × List Value × H)), (six v3 c.a 1 fun b o => (h7.cell b o).bind K) = K (iv (A.getD c.a.toNat 0)) := fun K => ia7.get ha.1 hA K
        have gB : ∀ (K : Value → Option (Ex × List Value × H)), (six v3 c.b 1 fun b o => (h7.cell b o).bind K) = K (iv (A.getD c.b.toNat 0)) := fun K => ia7.get hb.1 hB K
        have wA := ia7.wrc (i := c.a.toNat) (by omega) c.t
        have wB := ia7.wrc (i := c.b.toNat) (by omega) c.t
        have pA : ∀ (K : H → Option (Ex × List Value × H)), (six v3 c.a 1 fun b o => (wrc 1 h7 b o (.int .i64 c.t)).bind K) = K (h7.set b (.row ((A.set c.a.toNat c.t).map iv) 3 true)) := fun K => by rw [ia7.put ha.1 (by omega), wA]; rfl
        have pB : ∀ (K : H → Option (Ex × List Value × H)), (six v3 c.b 1 fun b o => (wrc 1 h7 b o (.int .i64 c.t)).bind K) = K (h7.set b (.row ((A.set c.b.toNat c.t).map iv) 3 true)) := fun K => by rw [ia7.put hb.1 (by omega), wB]; rfl
        have sA := ia7.set c.a.toNat c.t
        have sB := ia7.set c.b.toNat c.t
        unfold arrG
        generalize hx0 : A.getD c.a.toNat 0 = x at *
        generalize hy0 : A.getD c.b.toNat 0 = y at *
        by_cases h1 : x ≠ -1 ∧ y = -1
        · rw [if_pos h1]
          refine ⟨_, x7.set (by omega) _, sB, ?_⟩
          simp [cell_of hcb, z1, z2, nn_ge ha.1, nn_ge hb.1, gA, gB, pA, pB, h1.1, h1.2, hadd]
        · rw [if_neg h1]
          by_cases h2 : y ≠ -1 ∧ x = -1
          · rw [if_pos h2]
            refine ⟨_, x7.set (by omega) _, sA, ?_⟩
            simp [cell_of hcb, z1, z2, nn_ge ha.1, nn_ge hb.1, gA, gB, pA, pB, h2.1, h2.2, hadd]
          · rw [if_neg h2]
            refine ⟨_, x7, ia7, ?_⟩
            simp [cell_of hcb, z1, z2, nn_ge ha.1, nn_ge hb.1, gA, gB, pA, pB, hadd]
            grind
      obtain ⟨g', q1, q2, q3⟩ := hF
      exact ⟨_, g', q3, q1, q2, by rw [arrG_len]; exact hlen, rfl⟩)
  rw [foldI_foldl] at hia
  refine ⟨v3, h', b, x81 (k := l.length + 1) ?_ hia.slR.notR, hx, by omega, hia⟩
  have c1 := fun (K : Value → H → Option (Value × H)) => calls_eq (K := K) (xs := [_, _]) e101
  have kbls : ∀ (K : Value → H → Option (Value × H)), bls Try.prog (h.new (.row [iv m, sl] 31 true)) 25 1 [(0, .int .i64 (-1))] K = K (.slice (some ⟨h.nx + 1, 0, none⟩) 1 1) ((h.new (.row [iv m, sl] 31 true)).new (.row [iv (-1)] 3 true)) := fun K => bls_some (bls25 (-1) _)
  have p3 : ∀ (K : H → Option (Value × H)), (six v3 s 1 fun b o => (wrc 1 h3 b o (.int .i64 0)).bind K) = K h4 := fun K => by rw [ia3.put hp.1 (by simp; omega), w3']; rfl
  simp [f81, kbls, c1, p3, cell_of hb4, hs.len, lp_eq hl]

theorem s45 {n s : Int} {sl : Value} {l : List Cl} {h : H} (hs : SlR h 56 3 sl (l.map Cl.cells)) (hv : validP n l = true) (hp : 0 ≤ s ∧ s < n) :
    ∃ v h' b, rn 45 #[.agg #[iv n, sl], iv s] h = some (.tuple #[v, iv 0], h') ∧ Ext h h' ∧ h.nx ≤ b ∧ IA h' b v (arriveP n.toNat l s) := by
  have x1 : Ext h (h.new (.row [iv n, sl] 31 true)) := .new _ _
  obtain ⟨v, h', b, e, x, hlo, ia⟩ := s81 (hs.ext x1) hv hp
  have c1 := fun (K : Value → H → Option (Value × H)) => calls_eq (K := K) (xs := [_, _, _]) e
  refine ⟨v, h', b, x45 (k := 0) ?_ ia.slR.notR2, x1.trans x, Nat.le_trans x1.nx hlo, ia⟩
  simp [f45, k71 (hs.ext x1), hv, hp, c1]

theorem s45_bad {n s : Int} {sl : Value} {l : List Cl} {h : H} (hs : SlR h 56 3 sl (l.map Cl.cells)) (hv : (validP n l && decide (0 ≤ s ∧ s < n)) = false) : ∃ h', rn 45 #[.agg #[iv n, sl], iv s] h = some (.tuple #[.slice none 0 0, iv 2], h') ∧ Ext h h' := by
  have x1 : Ext h (h.new (.row [iv n, sl] 31 true)) := .new _ _
  refine ⟨h.new (.row [iv n, sl] 31 true), x45 (k := 0) ?_ rfl, x1⟩
  cases h1 : validP n l with
  | false => simp [f45, k71 (hs.ext x1), h1]
  | true =>
    have : ¬ (0 ≤ s ∧ s < n) := by simpa [h1] using hv
    simp [f45, k71 (hs.ext x1), h1]
    grind

end Go.AM
