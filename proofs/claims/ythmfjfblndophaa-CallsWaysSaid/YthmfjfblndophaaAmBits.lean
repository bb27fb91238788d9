/- Whole numbers as sets: the machine's operations on them. -/
import Derived.Test.YthmfjfblndophaaAmKit
namespace Go.AM

theorem ofInt_nat (a : Nat) : BitVec.ofInt 64 (a : Int) = BitVec.ofNat 64 a := BitVec.ofInt_natCast 64 a

theorem toNat_ofInt {a : Nat} (h : a < 2 ^ 63) : (BitVec.ofInt 64 (a : Int)).toNat = a := by
  rw [ofInt_nat, BitVec.toNat_ofNat]
  exact Nat.mod_eq_of_lt (by omega)

theorem or_nat {a b : Nat} (ha : a < 2 ^ 63) (hb : b < 2 ^ 63) : AM.or .i64 (a : Int) (b : Int) = ((a ||| b : Nat) : Int) := by
  unfold AM.or
  show IntKind.i64.wrap ((BitVec.ofInt 64 (a : Int) ||| BitVec.ofInt 64 (b : Int)).toNat : Nat) = _
  rw [BitVec.toNat_or, toNat_ofInt ha, toNat_ofInt hb]
  have := Nat.or_lt_two_pow ha hb
  exact wrap64 (by omega) (by omega)

theorem and_nat {a b : Nat} (ha : a < 2 ^ 63) (hb : b < 2 ^ 63) : AM.and .i64 (a : Int) (b : Int) = ((a &&& b : Nat) : Int) := by
  unfold AM.and
  show IntKind.i64.wrap ((BitVec.ofInt 64 (a : Int) &&& BitVec.ofInt 64 (b : Int)).toNat : Nat) = _
  rw [BitVec.toNat_and, toNat_ofInt ha, toNat_ofInt hb]
  have := Nat.and_lt_two_pow a hb
  exact wrap64 (by omega) (by omega)

/-- What is in a and not in b. -/
def without (a b : Nat) : Nat := a ^^^ (a &&& b)

theorem testBit_without (a b i : Nat) : (without a b).testBit i = (a.testBit i && !b.testBit i) := by
  unfold without
  rw [Nat.testBit_xor, Nat.testBit_and]
  cases a.testBit i <;> cases b.testBit i <;> rfl

theorem without_le (a b : Nat) {n : Nat} (ha : a < 2 ^ n) : without a b < 2 ^ n := Nat.xor_lt_two_pow ha (Nat.lt_of_le_of_lt Nat.and_le_left ha)

theorem andNot_nat {a b : Nat} (ha : a < 2 ^ 63) (hb : b < 2 ^ 63) : AM.andNot .i64 (a : Int) (b : Int) = ((without a b : Nat) : Int) := by
  unfold AM.andNot
  show IntKind.i64.wrap ((BitVec.ofInt 64 (a : Int) &&& ~~~ BitVec.ofInt 64 (b : Int)).toNat : Nat) = _
  have e : (BitVec.ofInt 64 (a : Int) &&& ~~~ BitVec.ofInt 64 (b : Int)).toNat = without a b := by
    apply Nat.eq_of_testBit_eq
    intro i
    rw [testBit_without, BitVec.testBit_toNat, BitVec.getLsbD_and, BitVec.getLsbD_not, ← BitVec.testBit_toNat, ← BitVec.testBit_toNat, toNat_ofInt ha, toNat_ofInt hb]
    by_cases hi : i < 64
    · simp [hi]
    · have : a.testBit i = false := Nat.testBit_lt_two_pow (Nat.lt_of_lt_of_le ha (Nat.pow_le_pow_right (by omega) (by omega)))
      simp [this]
  rw [e]
  have := without_le a b ha
  exact wrap64 (by omega) (by omega)

theorem shl_nat {a p : Nat} (h : a * 2 ^ p < 2 ^ 63) (hp : p ≤ 64) : AM.shl .i64 (a : Int) (p : Int) = ((a * 2 ^ p : Nat) : Int) := by
  unfold AM.shl
  rw [show min (p : Int).toNat IntKind.i64.bits = p by
    rw [Int.toNat_natCast]
    exact Nat.min_eq_left hp]
  have e : (a : Int) * 2 ^ p = ((a * 2 ^ p : Nat) : Int) := by
    rw [Int.natCast_mul, Int.natCast_pow]
    rfl
  rw [e]
  exact wrap64 (by omega) (by omega)

theorem shl1_nat {p : Nat} (hp : p < 63) : AM.shl .i64 1 (p : Int) = ((2 ^ p : Nat) : Int) := by
  have := shl_nat (a := 1) (p := p) (by rw [Nat.one_mul]; exact Nat.pow_lt_pow_right (by omega) hp) (by omega)
  rw [Nat.one_mul] at this
  exact this

theorem shr_nat {a p : Nat} (hp : p ≤ 64) : AM.shr .i64 (a : Int) (p : Int) = ((a >>> p : Nat) : Int) := by
  unfold AM.shr
  rw [show min (p : Int).toNat IntKind.i64.bits = p by
    rw [Int.toNat_natCast]
    exact Nat.min_eq_left hp]
  rw [Nat.shiftRight_eq_div_pow]
  have e : (2 : Int) ^ p = ((2 ^ p : Nat) : Int) := by
    rw [Int.natCast_pow]; rfl
  rw [e, Int.fdiv_eq_ediv_of_nonneg _ (Int.natCast_nonneg _)]
  exact (Int.natCast_ediv a (2 ^ p)).symm

/-- Is a number in a set? -/
theorem bit_nat {a p : Nat} (ha : a < 2 ^ 63) (hp : p ≤ 64) : AM.and .i64 (AM.shr .i64 (a : Int) (p : Int)) 1 = if a.testBit p then 1 else 0 := by
  rw [shr_nat hp]
  have h1 : a >>> p < 2 ^ 63 := by
    rw [Nat.shiftRight_eq_div_pow]
    exact Nat.lt_of_le_of_lt (Nat.div_le_self _ _) ha
  have := and_nat (b := 1) h1 (by decide)
  rw [show ((1 : Nat) : Int) = 1 from rfl] at this
  rw [this, Nat.and_one_is_mod]
  rw [Nat.testBit_eq_decide_div_mod_eq, Nat.shiftRight_eq_div_pow]
  have h2 : a / 2 ^ p % 2 = 0 ∨ a / 2 ^ p % 2 = 1 := by omega
  rcases h2 with h2 | h2 <;> rw [h2] <;> rfl

theorem bit_eq1 {a p : Nat} (ha : a < 2 ^ 63) (hp : p ≤ 64) : (AM.and .i64 (AM.shr .i64 (a : Int) (p : Int)) 1 = 1) ↔ a.testBit p = true := by
  rw [bit_nat ha hp]
  cases a.testBit p <;> simp

theorem testBit_big {a n i : Nat} (ha : a < 2 ^ n) (hi : n ≤ i) : a.testBit i = false :=
  Nat.testBit_lt_two_pow (Nat.lt_of_lt_of_le ha (Nat.pow_le_pow_right (by omega) hi))

theorem testBit_pow (p i : Nat) : (2 ^ p).testBit i = decide (p = i) := Nat.testBit_two_pow

end Go.AM
