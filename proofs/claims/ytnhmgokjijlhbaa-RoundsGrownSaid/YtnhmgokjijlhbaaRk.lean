/- Repeat. -/
import Derived.Test.YtnhmgokjijlhbaaRh
import Derived.Test.YtnhmgokjijlhbaaF4
namespace Go.AM
open Go.Proofs

variable {R : Type}

attribute [local simp] nx_eq nx_new nx_set blk_new blk_set asI_int asK_int asB_bool asP_ptr al_eq bx_eq len_slice onE_exit onE_ret onR_ret Value.cells d3 d22 d31 w3 cell_new cell_set rd_new rd_set off eq lt le ifB gv out eqF1 eqF2 eqF3 eqF4 eqF5 eqF6 eqF7 eqF8 ext20 ext21

theorem u64_small {a : Int} (h1 : 0 ≤ a) (h2 : a < 18446744073709551616) : IntKind.u64.wrap a = a := by
  simp only [IntKind.wrap, IntKind.signed, IntKind.bits, Bool.false_and]
  exact Int.emod_eq_of_lt h1 h2

theorem and_u64 {a b : Nat} (ha : a < 2 ^ 64) (hb : b < 2 ^ 64) : AM.and .u64 (a : Int) (b : Int) = ((a &&& b : Nat) : Int) := by
  unfold AM.and
  show IntKind.u64.wrap ((BitVec.ofInt 64 (a : Int) &&& BitVec.ofInt 64 (b : Int)).toNat : Nat) = _
  have e : ∀ {x : Nat}, x < 2 ^ 64 → (BitVec.ofInt 64 (x : Int)).toNat = x := fun {x} hx => by
    rw [ofInt_nat, BitVec.toNat_ofNat]
    exact Nat.mod_eq_of_lt hx
  rw [BitVec.toNat_and, e ha, e hb]
  have := Nat.and_lt_two_pow a hb
  exact u64_small (by omega) (by omega)

/-- Once a small number. -/
theorem s104 {n : Nat} (hn : n < 2 ^ 31) (h : H) : rn 104 #[.int .u64 1, .int .u64 n] h = some (.tuple #[.int .u64 0, .int .u64 n], h) := by
  refine p104 (k := 0) (h1 := h) ?_ rfl (.refl _)
  have a1 : AM.and .u64 1 4294967295 = 1 := by decide
  have a2 : AM.and .u64 (n : Int) 4294967295 = n := by
    have := and_u64 (a := n) (b := 4294967295) (by omega) (by decide)
    rw [show ((4294967295 : Nat) : Int) = 4294967295 from rfl] at this
    rw [this, show (4294967295 : Nat) = 2 ^ 32 - 1 from rfl, Nat.and_two_pow_sub_one_eq_mod]
    congr 1
    exact Nat.mod_eq_of_lt (by omega)
  have a3 : shr .u64 1 32 = 0 := by decide
  have a4 : shr .u64 (n : Int) 32 = 0 := by
    unfold shr
    rw [show min (32 : Int).toNat IntKind.u64.bits = 32 from rfl, Int.fdiv_eq_ediv_of_nonneg _ (by decide)]
    exact Int.ediv_eq_zero_of_lt (by omega) (by omega)
  have m1 : mul .u64 1 (n : Int) = n := by unfold mul; rw [Int.one_mul]; exact u64_small (by omega) (by omega)
  have m2 : ∀ x : Int, mul .u64 0 x = 0 := fun x => by unfold mul; rw [Int.zero_mul]; rfl
  have m3 : mul .u64 1 0 = 0 := by decide
  have p1 : add .u64 0 0 = 0 := by decide
  have q0 : AM.and .u64 0 4294967295 = 0 := by decide
  have q1 : shr .u64 0 32 = 0 := by decide
  simp [f104, nn, a1, a2, a3, a4, m1, m2, m3, p1, q0, q1]

theorem s102 {n : Nat} (hn : n < 2 ^ 31) (h : H) : rn 102 #[.int .u64 1, .int .u64 n] h = some (.tuple #[.int .u64 0, .int .u64 n], h) := by
  refine p102 (k := 0) (h1 := h) ?_ rfl (.refl _)
  have c1 := fun (K : Value → H → Option (Value × H)) => calls_eq (K := K) (xs := [_, _]) (s104 hn h)
  simp [f102, c1]

/-- A copy from the beginning of a row to a later place in it, and to its beginning. -/
theorem cpy_row {h : H} {b n c k m : Nat} {src : Value} {l : List Int} {xs : List Int} {bs : Option Addr} {cs : Nat} (hb : h.blk b = some (.row (l.map iv) 3 true)) (hs : srcCells 1 (.slice bs (min k n) cs) h = some (xs.map iv)) (hsrc : src = .slice bs k cs) (h0 : 0 < min k n)
    (hx : xs.length = min k n) (hm : m + xs.length ≤ l.length) (K : Int → H → Option R) :
    cpy Try.prog h 22 (.slice (some ⟨b, m, none⟩) n c) src K = K (min k n : Nat) (h.set b (.row (setAt (l.map iv) m (xs.map iv)) 3 true)) := by
  subst hsrc
  unfold cpy copyS
  simp only [under22, sz3, Option.bind_some]
  rw [if_neg (by omega), hs, Option.bind_some, hb]
  simp only
  rw [if_pos ⟨by simpa using hm, by rw [List.all_map, List.all_eq_true]; intro x _; rfl⟩]

theorem setAt_ints (l xs : List Int) (m : Nat) (h : m + xs.length ≤ l.length) : setAt (l.map iv) m (xs.map iv) = (l.take m ++ xs ++ l.drop (m + xs.length)).map iv := by
  have e : l = l.take m ++ ((l.drop m).take xs.length ++ l.drop (m + xs.length)) := by
    rw [show l.drop (m + xs.length) = (l.drop m).drop xs.length by rw [List.drop_drop], List.take_append_drop, List.take_append_drop]
  conv => lhs; rw [e]
  rw [List.map_append, List.map_append]
  have hm : ((l.take m).map iv).length = m := by simp; omega
  have := setAt_mid (xs.map iv) ((l.take m).map iv) (((l.drop m).take xs.length).map iv) ((l.drop (m + xs.length)).map iv) (by simp; omega)
  rw [hm] at this
  rw [this]
  simp

theorem s90 {v : Value} {x : Int} {n : Nat} {h : H} (hv : SlR h 3 1 v (cellsI [x])) (h1 : 1 ≤ n) (hn : n < 2 ^ 20) : ∃ v' h' b, rn 90 #[v, iv n] h = some (v', h') ∧ Ext h h' ∧ h.nx ≤ b ∧ blkOf v' = some b ∧ IA h' b v' (List.replicate n x) := by
  obtain ⟨bs, cs, hsv, hsrc0⟩ : ∃ bs cs, v = .slice bs 1 cs ∧ srcCells 1 v h = some [iv x] := by
    have := hv.srcAll (by decide)
    generalize hL : cellsI [x] = L at hv
    cases hv with
    | nil => cases hL
    | at_ => subst hL; exact ⟨_, _, rfl, this⟩
  let h2 := h.new (.row ((List.replicate n (0 : Int)).map iv) 3 true)
  have x2 : Ext h h2 := .new _ _
  have b2 : h2.blk h.nx = some (.row ((List.replicate n (0 : Int)).map iv) 3 true) := blk_new_self _ _
  have hv2 := hv.ext x2
  have hsrc2 : srcCells 1 (.slice bs (min 1 n) cs) h2 = some ([x].map iv) := by
    rw [show min 1 n = 1 by omega, ← hsv]
    exact hv2.srcAll (by decide)
  have kmk : ∀ (K : Value → H → Option (Value × H)), mks Try.prog h 22 n n K = K (.slice (some ⟨h.nx, 0, none⟩) n n) h2 := fun K => mks_ints app22 zero3 (by omega) K
  have kc1 : ∀ (K : Int → H → Option (Value × H)), cpy Try.prog h2 22 (.slice (some ⟨h.nx, 0, none⟩) n n) v K = K 1 (h2.set h.nx (.row (setAt ((List.replicate n (0 : Int)).map iv) 0 ([x].map iv)) 3 true)) := fun K => by
    rw [cpy_row (k := 1) (xs := [x]) (l := List.replicate n 0) b2 hsrc2 hsv (by omega) (by simp; omega) (by simp; omega), show min 1 n = 1 by omega]
    rfl
  rw [setAt_ints _ _ _ (by simp; omega)] at kc1
  let row (i : Nat) : List Int := List.replicate i x ++ List.replicate (n - i) 0
  have hrow1 : (List.replicate n (0 : Int)).take 0 ++ [x] ++ (List.replicate n 0).drop (0 + [x].length) = row 1 := by simp [row]
  rw [hrow1] at kc1
  generalize hH3 : h2.set h.nx (.row ((row 1).map iv) 3 true) = h3 at kc1
  have n3 : h3.nx = h.nx + 1 := by rw [← hH3]; rfl
  have f3 : ∀ q, q < h.nx → h3.blk q = h.blk q := fun q hq => by rw [← hH3, blk_set_ne _ _ _ (by omega)]; exact x2.blk q hq
  have b3 : h3.blk h.nx = some (.row ((row 1).map iv) 3 true) := by rw [← hH3]; exact blk_set_self _ _ _
  -- the rounds
  have rounds : ∃ ws' g, lpGo (f90_l1 rn (n + 2) (.slice (some ⟨h.nx, 0, none⟩) n n)) (n + 2) [iv 1] h3 = some (.exit 0, ws', g) ∧ g.nx = h.nx + 1 ∧ (∀ q, q < h.nx → g.blk q = h.blk q) ∧ g.blk h.nx = some (.row ((row n).map iv) 3 true) := by
    obtain ⟨e, ws', g, hl, rfl, q1, q2, q3⟩ := lpGo_inv (F := f90_l1 rn (n + 2) (.slice (some ⟨h.nx, 0, none⟩) n n))
      (fun d ws g => ∃ i : Nat, ws = [iv i] ∧ 1 ≤ i ∧ i ≤ n ∧ d = n - i ∧ g.nx = h.nx + 1 ∧ (∀ q, q < h.nx → g.blk q = h.blk q) ∧ g.blk h.nx = some (.row ((row i).map iv) 3 true))
      (fun e ws g => e = .exit 0 ∧ g.nx = h.nx + 1 ∧ (∀ q, q < h.nx → g.blk q = h.blk q) ∧ g.blk h.nx = some (.row ((row n).map iv) 3 true))
      (by
        rintro d ws g ⟨i, rfl, hi1, hin, rfl, gn, gf, gb⟩
        by_cases hend : i = n
        · subst hend
          exact ⟨.exit 0, [iv i], g, by simp [f90_l1], .inr ⟨by simp, rfl, gn, gf, gb⟩⟩
        · have hcap : capK n = n := by
            have h30 : (2 : Nat) ^ 30 < U := by decide
            unfold capK; rw [if_pos (by omega)]
          have hnU : n < U := by
            have h30 : (2 : Nat) ^ 30 < U := by decide
            omega
          have s1 : ∀ (K : Value → Option (Ex × List Value × H)), sli Try.prog g 22 (.slice (some ⟨h.nx, 0, none⟩) n n) (some (iv i)) none none K = K (.slice (some ⟨h.nx, i, none⟩) (n - i) (n - i)) := fun K => by
            unfold sli slice
            simp only [under22, gb]
            rw [if_pos ⟨trivial, by omega, rfl⟩]
            simp only [sz3, Option.bind_some, bound, hcap]
            rw [if_pos ⟨by omega, by omega⟩]
            simp only [Option.bind_some]
            rw [if_pos (.inr hnU)]
            simp [show ¬ n = i by omega]
          have s2 : ∀ (K : Value → Option (Ex × List Value × H)), sli Try.prog g 22 (.slice (some ⟨h.nx, 0, none⟩) n n) none (some (iv i)) none K = K (.slice (some ⟨h.nx, 0, none⟩) i n) := fun K => by
            unfold sli slice
            simp only [under22, gb]
            rw [if_pos ⟨trivial, by omega, rfl⟩]
            simp only [sz3, Option.bind_some, bound, hcap]
            rw [if_pos ⟨by omega, by omega⟩]
            simp only [Option.bind_some]
            rw [if_pos (.inr hnU)]
            simp
          have hmin : 0 < min i (n - i) := by omega
          have hsrc : srcCells 1 (.slice (some ⟨h.nx, 0, none⟩) (min i (n - i)) n) g = some ((List.replicate (min i (n - i)) x).map iv) := by
            simp only [srcCells, Nat.mul_one]
            rw [if_neg (by omega)]
            simp only [H.rd, gb]
            rw [if_pos (by simp [row]; omega)]
            rw [List.drop_zero, ← List.map_take]
            congr 2
            simp only [row]
            rw [List.take_append_of_le_length (by simp; omega), List.take_replicate]
            congr 1
            omega
          have kc : ∀ (K : Int → H → Option (Ex × List Value × H)), cpy Try.prog g 22 (.slice (some ⟨h.nx, i, none⟩) (n - i) (n - i)) (.slice (some ⟨h.nx, 0, none⟩) i n) K = K (min i (n - i) : Nat) (g.set h.nx (.row ((row (i + min i (n - i))).map iv) 3 true)) := fun K => by
            rw [cpy_row (k := i) (xs := List.replicate (min i (n - i)) x) (l := row i) gb hsrc rfl hmin (by simp) (by simp [row]; omega), setAt_ints _ _ _ (by simp [row]; omega)]
            have hrow : (row i).take i ++ List.replicate (min i (n - i)) x ++ (row i).drop (i + (List.replicate (min i (n - i)) x).length) = row (i + min i (n - i)) := by
              simp only [row, List.take_append, List.drop_append, List.length_replicate, List.take_replicate, List.drop_replicate, Nat.min_self, Nat.sub_self, Nat.min_zero, Nat.zero_min, List.replicate_zero, List.append_nil]
              rw [show i - (i + min i (n - i)) = 0 by omega, List.replicate_zero, List.nil_append, List.replicate_append_replicate]
              congr 2
              omega
            rw [hrow]
          refine ⟨.normal, [iv ((i + min i (n - i) : Nat) : Int)], g.set h.nx (.row ((row (i + min i (n - i))).map iv) 3 true), ?_, .inl ⟨rfl, n - (i + min i (n - i)), by omega, i + min i (n - i), rfl, by omega, by omega, rfl, ?_, ?_, blk_set_self _ _ _⟩⟩
          · have hadd : add .i64 (i : Int) ((min i (n - i) : Nat) : Int) = ((i + min i (n - i) : Nat) : Int) := by rw [add64 (by omega) (by omega)]; omega
            simp only [f90_l1, gv, List.getD_cons_zero, AM.len, asI_int, lt_t (show (i : Int) < n by omega), ifB, if_true, s1, s2, kc, hadd, out]
          · rw [nx_set]; exact gn
          · intro q hq
            rw [blk_set_ne _ _ _ (by omega)]
            exact gf q hq)
      (n - 1) (n + 2) (by omega) ⟨1, rfl, Nat.le_refl _, h1, rfl, n3, f3, b3⟩
    exact ⟨ws', g, hl, q1, q2, q3⟩
  obtain ⟨ws', g, hl, q1, q2, q3⟩ := rounds
  have hrn : row n = List.replicate n x := by simp [row]
  rw [hrn] at q3
  have ia : IA g h.nx (.slice (some ⟨h.nx, 0, none⟩) n n) (List.replicate n x) := by
    have h30 : (2 : Nat) ^ 30 < U := by decide
    have hcap : capK n = n := by unfold capK; rw [if_pos (by omega)]
    exact ⟨⟨n, by simp, by simp [hcap], by omega⟩, by omega, q3⟩
  refine ⟨.slice (some ⟨h.nx, 0, none⟩) n n, g, h.nx, x90 (k := n + 2) ?_ rfl, ⟨by omega, q2⟩, Nat.le_refl _, rfl, ia⟩
  have hlv : ∀ (K : Int → Option (Value × H)), len v K = K 1 := fun K => by rw [hsv]; rfl
  have w1 : wr .u64 1 = 1 := by decide
  have w2 : wr .u64 (n : Int) = n := u64_small (by omega) (by omega)
  have w3' : wr .i64 (n : Int) = n := wrap64 (by omega) (by omega)
  have c1 := fun (K : Value → H → Option (Value × H)) => calls_eq (K := K) (xs := [_, _]) (s102 (n := n) (by omega) h)
  unfold f90
  rw [lt_f (by omega), ifB_false, hlv, w1, w2, c1, ext20, asI_int, ext21, asI_int, lt_f (by omega), ifB_false, lt_f (by omega), ifB_false, w3', kmk, kc1]
  refine (lp_eq hl).trans ?_
  rw [onE_exit, if_pos rfl]


end Go.AM
