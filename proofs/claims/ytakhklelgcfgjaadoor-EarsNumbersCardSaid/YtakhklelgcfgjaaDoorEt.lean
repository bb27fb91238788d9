/- Renaming the nodes: the law. -/
import Derived.Test.YtakhklelgcfgjaaDoorEr
import Derived.Test.YtakhklelgcfgjaaDoorEs
namespace Go.AM
open Go.Proofs

variable {R : Type}

attribute [local simp] nx_eq nx_new nx_set blk_new blk_set asI_int asK_int asB_bool asP_ptr al_eq bx_eq len_slice onE_exit onE_ret onR_ret Value.cells d3 d22 d23 d32 d78 w3 w32 cell_new cell_set rd_new rd_set off eq lt le ifB gv out ext20 ext21

/-- A graph is valid. -/
theorem valid_of {g : List Nat} (hg : GrN g) : validG (g.map Int.ofNat) = true := by
  have hlen := hg.len
  have hpos := hg.pos
  have hpow := hg.pow
  rw [validG_iff (by simpa using ⟨hpos, hlen⟩)]
  intro i x hx
  have hi : i < g.length := by have := (List.getElem?_eq_some_iff.1 hx).1; simpa using this
  obtain rfl := nb_eq hx
  have hlt := hg.nb_lt i
  unfold rowOk
  simp only [Bool.and_eq_true, Bool.not_eq_true', decide_eq_false_iff_not, List.all_eq_true, List.mem_range, decide_eq_true_iff, List.length_map]
  refine ⟨⟨⟨by omega, ?_⟩, ?_⟩, fun j hj => ?_⟩
  · rw [shl1_nat (by omega)]; omega
  · rw [bitI_nat (by omega) (by omega)]
    have : (nb g i).testBit i = false := hg.irr i
    rw [this]; simp
  · have h1 : (List.map Int.ofNat g).getD j 0 = ((nb g j : Nat) : Int) := by
      rw [List.getD_eq_getElem?_getD, nb_get hj]; rfl
    have hlt' := hg.nb_lt j
    rw [h1, bitI_nat (by omega) (by omega), bitI_nat (by omega) (by omega)]
    have : (nb g i).testBit j = (nb g j).testBit i := hg.sym i j
    rw [this]

/-! ### Turning round -/

def rotF (n by_ i : Nat) : Nat := (i + by_) % n
def rotB (n by_ j : Nat) : Nat := (j + (n - by_)) % n

theorem rot_inv {n b i : Nat} (hb : b < n) (hi : i < n) : rotB n b (rotF n b i) = i := by
  unfold rotB rotF
  rcases Nat.lt_or_ge (i + b) n with h | h
  · rw [Nat.mod_eq_of_lt h, show i + b + (n - b) = i + n by omega, Nat.add_mod_right, Nat.mod_eq_of_lt hi]
  · rw [Nat.mod_eq_sub_mod h, Nat.mod_eq_of_lt (show i + b - n < n by omega), show i + b - n + (n - b) = i by omega, Nat.mod_eq_of_lt hi]

theorem rot_inv' {n b j : Nat} (hb : b < n) (hj : j < n) : rotF n b (rotB n b j) = j := by
  unfold rotB rotF
  rcases Nat.lt_or_ge (j + (n - b)) n with h | h
  · rw [Nat.mod_eq_of_lt h, show j + (n - b) + b = j + n by omega, Nat.add_mod_right, Nat.mod_eq_of_lt hj]
  · rw [Nat.mod_eq_sub_mod h, Nat.mod_eq_of_lt (show j + (n - b) - n < n by omega), show j + (n - b) - n + b = j by omega, Nat.mod_eq_of_lt hj]

theorem rotF_lt {n b i : Nat} (hb : b < n) : rotF n b i < n := Nat.mod_lt _ (by omega)
theorem rotB_lt {n b i : Nat} (hb : b < n) : rotB n b i < n := Nat.mod_lt _ (by omega)

theorem imgr_bit {n b S i : Nat} (hb : b < n) (hi : i < n) : (img n (rotB n b) S).testBit (rotF n b i) = S.testBit i := by
  unfold img
  rw [mkS_bit, decide_eq_true (rotF_lt hb), Bool.true_and, rot_inv hb hi]

/-- The machine's turning. -/
theorem rot_calc {n b S : Nat} (hn : n ≤ 10) (hb : b < n) (hS : S < 2 ^ n) :
    AM.and .i64 (AM.or .i64 (AM.shl .i64 (S : Int) (b : Int)) (shr .i64 (S : Int) (sub .i64 (n : Int) (b : Int)))) (sub .i64 (AM.shl .i64 1 (n : Int)) 1) = ((img n (rotB n b) S : Nat) : Int) := by
  have hp : 2 ^ n ≤ 2 ^ 10 := Nat.pow_le_pow_right (by omega) hn
  have hpb : 2 ^ b ≤ 2 ^ 10 := Nat.pow_le_pow_right (by omega) (by omega)
  have hmul : S * 2 ^ b < 2 ^ 20 := by
    have : S * 2 ^ b ≤ 1023 * 2 ^ 10 := Nat.mul_le_mul (by omega) hpb
    omega
  have hsh : S >>> (n - b) ≤ S := by rw [Nat.shiftRight_eq_div_pow]; exact Nat.div_le_self _ _
  have h2 := Nat.two_pow_pos n
  rw [show sub .i64 (n : Int) (b : Int) = ((n - b : Nat) : Int) by rw [sub64 (by omega) (by omega)]; omega, shr_nat (by omega), shl_nat (by omega) (by omega), shl_all hn, or_nat (by omega) (by omega)]
  have hor : S * 2 ^ b ||| S >>> (n - b) < 2 ^ 20 := Nat.or_lt_two_pow hmul (by omega)
  rw [and_nat (by omega) (by omega)]
  congr 1
  refine set_ext (n := n) (Nat.lt_of_le_of_lt Nat.and_le_right (by omega)) (img_lt _ _ _) fun j hj => ?_
  rw [Nat.testBit_and, Nat.testBit_two_pow_sub_one, decide_eq_true hj, Bool.and_true, Nat.testBit_or, Nat.testBit_shiftRight]
  unfold img
  rw [mkS_bit, decide_eq_true hj, Bool.true_and, ← Nat.shiftLeft_eq, Nat.testBit_shiftLeft]
  unfold rotB
  rcases Nat.lt_or_ge j b with h | h
  · rw [decide_eq_false (by omega), Bool.false_and, Bool.false_or, Nat.mod_eq_of_lt (by omega), Nat.add_comm]
  · rw [decide_eq_true h, Bool.true_and, big_bit hS (show n ≤ n - b + j by omega), Bool.or_false, Nat.mod_eq_sub_mod (by omega), Nat.mod_eq_of_lt (by omega)]
    congr 1
    omega

theorem s51 {q1 q2 n b S : Nat} {h : H} (hn : n ≤ 10) (hb : b < n) (hS : S < 2 ^ n) (h1 : h.cell q1 0 = some (iv b)) (h2 : h.cell q2 0 = some (iv n)) : rn 51 #[iv S, pt q1 0, pt q2 0] h = some (iv (img n (rotB n b) S : Nat), h) := by
  have hsub : sub .i64 (n : Int) (b : Int) = ((n - b : Nat) : Int) := by rw [sub64 (by omega) (by omega)]; omega
  refine p51 (k := 0) (h1 := h) ?_ rfl (.refl _)
  unfold f51
  simp only [asP_ptr, d3, h1, h2, Option.bind_some, asI_int, nn_ge (show (0 : Int) ≤ (b : Int) by omega), nn_ge (show (0 : Int) ≤ (n : Int) by omega)]
  rw [show nn (sub .i64 (n : Int) (b : Int)) = fun (x : Option (Value × H)) => x from funext fun x => nn_ge (by rw [hsub]; omega) x]
  simp only [rot_calc hn hb hS]

theorem rem_nat {a n : Nat} (_ : n ≠ 0) : rem .i64 (a : Int) (n : Int) = ((a % n : Nat) : Int) := rfl

theorem s53 {q1 q2 n b : Nat} {e : Nat × Nat} {h : H} (hn : n ≤ 10) (hb : b < n) (he1 : e.1 < n) (he2 : e.2 < n) (hq1 : q1 < h.nx) (hq2 : q2 < h.nx) (h1 : h.cell q1 0 = some (iv b)) (h2 : h.cell q2 0 = some (iv n)) :
    rn 53 #[.agg #[iv e.1, iv e.2], pt q1 0, pt q2 0] h = some (.agg #[iv (pairI (rotF n b) e).1, iv (pairI (rotF n b) e).2], h) := by
  obtain ⟨a1, a2⟩ := e
  simp only at he1 he2
  have x1 : Ext h (h.new (.row [iv a1, iv a2] 32 true)) := .new _ _
  have x2 := x1.new' (.row [.int .i64 0, .int .i64 0] 32 true)
  have x3 := x2.set (b := h.nx + 1) (by omega) (.row [iv (pairI (rotF n b) (a1, a2)).1, iv (pairI (rotF n b) (a1, a2)).2] 32 true)
  have ha1 : add .i64 (a1 : Int) (b : Int) = ((a1 + b : Nat) : Int) := by rw [add64 (by omega) (by omega)]; omega
  have ha2 : add .i64 (a2 : Int) (b : Int) = ((a2 + b : Nat) : Int) := by rw [add64 (by omega) (by omega)]; omega
  have r1 := rem_nat (a := a1 + b) (n := n) (by omega)
  have r2 := rem_nat (a := a2 + b) (n := n) (by omega)
  have hmn : ∀ x y : Nat, imin (x : Int) (y : Int) = ((min x y : Nat) : Int) := by intro x y; unfold imin; split <;> omega
  have hmx : ∀ x y : Nat, imax (x : Int) (y : Int) = ((max x y : Nat) : Int) := by intro x y; unfold imax; split <;> omega
  have c1 : ((h.new (.row [iv a1, iv a2] 32 true)).new (.row [.int .i64 0, .int .i64 0] 32 true)).cell q1 0 = some (iv b) := by rw [cell_new, if_neg (by rw [nx_new]; omega), cell_new, if_neg (by omega)]; exact h1
  have c2 : ((h.new (.row [iv a1, iv a2] 32 true)).new (.row [.int .i64 0, .int .i64 0] 32 true)).cell q2 0 = some (iv n) := by rw [cell_new, if_neg (by rw [nx_new]; omega), cell_new, if_neg (by omega)]; exact h2
  have c0 : ((h.new (.row [iv a1, iv a2] 32 true)).new (.row [.int .i64 0, .int .i64 0] 32 true)).blk h.nx = some (.row [iv a1, iv a2] 32 true) := by rw [blk_new_ne _ _ (by rw [nx_new]; omega)]; exact blk_new_self _ _
  refine p53 (k := 0) (h1 := ((h.new (.row [iv a1, iv a2] 32 true)).new (.row [.int .i64 0, .int .i64 0] 32 true)).set (h.nx + 1) (.row [iv (pairI (rotF n b) (a1, a2)).1, iv (pairI (rotF n b) (a1, a2)).2] 32 true)) ?_ rfl x3
  unfold f53
  rw [bx_eq, show (Value.agg #[iv (a1 : Int), iv (a2 : Int)]).cells.toList = [iv a1, iv a2] from rfl, al_eq]
  simp only [aix_in (show (0 : Int) ≤ 0 by omega) (show (0 : Int) < ((2 : Nat) : Int) by omega), aix_in (show (0 : Int) ≤ 1 by omega) (show (1 : Int) < ((2 : Nat) : Int) by omega), nx_eq, d3, at_, cell_of c0, asP_ptr]
  rw [show ([iv (a1 : Int), iv (a2 : Int)] : List Value)[0 + (0 : Int).toNat * 1]? = some (iv a1) from rfl, show ([iv (a1 : Int), iv (a2 : Int)] : List Value)[0 + (1 : Int).toNat * 1]? = some (iv a2) from rfl]
  simp only [Option.bind_some, asI_int, c1, c2, nz_ne (show (n : Int) ≠ 0 by omega), ha1, ha2, r1, r2, hmn, hmx, kbld32, w32]
  have hw : wrc 2 ((h.new (.row [iv a1, iv a2] 32 true)).new (.row [.int .i64 0, .int .i64 0] 32 true)) (h.new (.row [iv a1, iv a2] 32 true)).nx 0 (.agg #[iv (pairI (rotF n b) (a1, a2)).1, iv (pairI (rotF n b) (a1, a2)).2]) =
      some (((h.new (.row [iv a1, iv a2] 32 true)).new (.row [.int .i64 0, .int .i64 0] 32 true)).set (h.nx + 1) (.row [iv (pairI (rotF n b) (a1, a2)).1, iv (pairI (rotF n b) (a1, a2)).2] 32 true)) := by
    unfold wrc
    rw [blk_new_self]
    rfl
  have hpi : (Value.agg #[.int .i64 ((min ((a1 + b) % n) ((a2 + b) % n) : Nat) : Int), .int .i64 ((max ((a1 + b) % n) ((a2 + b) % n) : Nat) : Int)]) = .agg #[iv (pairI (rotF n b) (a1, a2)).1, iv (pairI (rotF n b) (a1, a2)).2] := rfl
  rw [hpi, hw, Option.bind_some, d32]
  have hrd : (((h.new (.row [iv a1, iv a2] 32 true)).new (.row [.int .i64 0, .int .i64 0] 32 true)).set (h.nx + 1) (.row [iv (pairI (rotF n b) (a1, a2)).1, iv (pairI (rotF n b) (a1, a2)).2] 32 true)).rd (h.new (.row [iv a1, iv a2] 32 true)).nx 0 2 = some [iv (pairI (rotF n b) (a1, a2)).1, iv (pairI (rotF n b) (a1, a2)).2] := rd_all (blk_set_self _ _ _) rfl
  rw [hrd]
  rfl

/-- The graph that is built. -/
theorem rot_iso {g hh : List Nat} {b : Nat} (hg : GrN g) (hb : b < g.length) (hl : hh.length = g.length) (hr : ∀ i, i < g.length → nb hh (rotF g.length b i) = img g.length (rotB g.length b) (nb g i)) : Iso g hh (rotF g.length b) (rotB g.length b) ∧ GrN hh := by
  have hadj : ∀ x y, x < g.length → y < g.length → adj hh (rotF g.length b x) (rotF g.length b y) = adj g x y := by
    intro x y hx hy
    unfold adj
    rw [hr x hx, imgr_bit hb hy]
  have hadj' : ∀ x y, x < g.length → y < g.length → adj hh x y = adj g (rotB g.length b x) (rotB g.length b y) := by
    intro x y hx hy
    rw [← hadj _ _ (rotB_lt hb) (rotB_lt hb), rot_inv' hb hx, rot_inv' hb hy]
  have hgb : GrB hh := by
    refine ⟨by rw [hl]; exact hg.len, fun x hx => ?_⟩
    obtain ⟨j, hj, rfl⟩ := List.getElem_of_mem hx
    rw [hl] at hj ⊢
    have h1 := hr _ (rotB_lt (i := j) hb)
    rw [rot_inv' hb hj] at h1
    have h2 : nb hh j = hh[j] := by unfold nb; rw [List.getD_eq_getElem?_getD, List.getElem?_eq_getElem (by omega)]; rfl
    rw [← h2, h1]
    exact img_lt _ _ _
  refine ⟨⟨hl, fun i _ => rotF_lt hb, fun i _ => rotB_lt hb, fun i hi => rot_inv hb hi, fun i hi => rot_inv' hb hi, hadj⟩, ⟨hgb, by rw [hl]; exact hg.pos, fun a => ?_, fun a c => ?_⟩⟩
  · by_cases ha : a < g.length
    · rw [hadj' a a ha ha]; exact hg.irr _
    · rw [Bool.eq_false_iff]; intro h; have := (hgb.adj_lt h).1; omega
  · by_cases ha : a < g.length
    · by_cases hc : c < g.length
      · rw [hadj' a c ha hc, hadj' c a hc ha]; exact hg.sym _ _
      · have h1 : adj hh a c = false := by rw [Bool.eq_false_iff]; intro h; have := (hgb.adj_lt h).2; omega
        have h2 : adj hh c a = false := by rw [Bool.eq_false_iff]; intro h; have := (hgb.adj_lt h).1; omega
        rw [h1, h2]
    · have h1 : adj hh a c = false := by rw [Bool.eq_false_iff]; intro h; have := (hgb.adj_lt h).1; omega
      have h2 : adj hh c a = false := by rw [Bool.eq_false_iff]; intro h; have := (hgb.adj_lt h).2; omega
      rw [h1, h2]

theorem wr_by (z : Int) (n : Nat) (hn : 0 < n) (hn' : n ≤ 10) : wr .u64 (n : Int) = n ∧ ∃ b : Nat, b < n ∧ wr .i64 (rem .u64 (wr .u64 z) (n : Int)) = (b : Int) := by
  refine ⟨wr64u (by omega), ?_⟩
  obtain ⟨m, hm⟩ : ∃ m : Nat, wr .u64 z = (m : Int) := by
    unfold wr IntKind.wrap
    refine ⟨(z % 2 ^ 64).toNat, ?_⟩
    show z % 2 ^ 64 = _
    omega
  refine ⟨m % n, Nat.mod_lt _ hn, ?_⟩
  rw [hm]
  have h1 : rem .u64 (m : Int) (n : Int) = ((m % n : Nat) : Int) := rfl
  have h2 := Nat.mod_lt m hn
  rw [h1]
  exact wrap64 (by omega) (by omega)

end Go.AM
