/- The seat's environment, and what its types are. -/
import Derived.Test.YthmfjfblndophaaAmKit
import Derived.Test.YthmfjfblndophaaProg
import Derived.KernelRfl
namespace Go.AM
open Go.Proofs

/-- No package-level variables; the calls that are made by themselves. -/
def E0 : Env := ⟨0, fun _ => none, fun f => f == 22⟩

variable {R : Type}
theorem ag3 : aggT Try.prog 3 = some false := by kernel_rfl
theorem sz3 : size? Try.prog 3 = some 1 := by kernel_rfl
theorem ld3 {h : H} {b o : Nat} {K : Value → Option R} {c : List Value} {e : TypeId} {own : Bool} {v : Value} (hb : h.blk b = some (.row c e own)) (hv : c[o]? = some v) : ld Try.prog h 3 b o K = K v := ld_sc ag3 hb hv
theorem ag4 : aggT Try.prog 4 = some false := by kernel_rfl
theorem sz4 : size? Try.prog 4 = some 1 := by kernel_rfl
theorem ld4 {h : H} {b o : Nat} {K : Value → Option R} {c : List Value} {e : TypeId} {own : Bool} {v : Value} (hb : h.blk b = some (.row c e own)) (hv : c[o]? = some v) : ld Try.prog h 4 b o K = K v := ld_sc ag4 hb hv
theorem ag22 : aggT Try.prog 22 = some false := by kernel_rfl
theorem sz22 : size? Try.prog 22 = some 1 := by kernel_rfl
theorem ld22 {h : H} {b o : Nat} {K : Value → Option R} {c : List Value} {e : TypeId} {own : Bool} {v : Value} (hb : h.blk b = some (.row c e own)) (hv : c[o]? = some v) : ld Try.prog h 22 b o K = K v := ld_sc ag22 hb hv
theorem ag23 : aggT Try.prog 23 = some true := by kernel_rfl
theorem sz23 : size? Try.prog 23 = some 2 := by kernel_rfl
theorem ld23 {h : H} {b o : Nat} {K : Value → Option R} {c : List Value} {e : TypeId} {own : Bool} (hb : h.blk b = some (.row c e own)) (hle : o + 2 ≤ c.length) : ld Try.prog h 23 b o K = K (.agg ((c.drop o).take 2).toArray) := ld_ag ag23 sz23 hb hle
theorem ldA23 {h : H} {b : Nat} {K : Value → Option R} {c : List Value} {e : TypeId} {own : Bool} (hb : h.blk b = some (.row c e own)) (hle : c.length = 2) : ld Try.prog h 23 b 0 K = K (.agg c.toArray) := by
  rw [ld23 hb (by omega), List.drop_zero, List.take_of_length_le (by omega)]
theorem ag24 : aggT Try.prog 24 = some true := by kernel_rfl
theorem sz24 : size? Try.prog 24 = some 2 := by kernel_rfl
theorem ld24 {h : H} {b o : Nat} {K : Value → Option R} {c : List Value} {e : TypeId} {own : Bool} (hb : h.blk b = some (.row c e own)) (hle : o + 2 ≤ c.length) : ld Try.prog h 24 b o K = K (.agg ((c.drop o).take 2).toArray) := ld_ag ag24 sz24 hb hle
theorem ldA24 {h : H} {b : Nat} {K : Value → Option R} {c : List Value} {e : TypeId} {own : Bool} (hb : h.blk b = some (.row c e own)) (hle : c.length = 2) : ld Try.prog h 24 b 0 K = K (.agg c.toArray) := by
  rw [ld24 hb (by omega), List.drop_zero, List.take_of_length_le (by omega)]
theorem ag25 : aggT Try.prog 25 = some false := by kernel_rfl
theorem sz25 : size? Try.prog 25 = some 1 := by kernel_rfl
theorem ld25 {h : H} {b o : Nat} {K : Value → Option R} {c : List Value} {e : TypeId} {own : Bool} {v : Value} (hb : h.blk b = some (.row c e own)) (hv : c[o]? = some v) : ld Try.prog h 25 b o K = K v := ld_sc ag25 hb hv
theorem ag26 : aggT Try.prog 26 = some false := by kernel_rfl
theorem sz26 : size? Try.prog 26 = some 1 := by kernel_rfl
theorem ld26 {h : H} {b o : Nat} {K : Value → Option R} {c : List Value} {e : TypeId} {own : Bool} {v : Value} (hb : h.blk b = some (.row c e own)) (hv : c[o]? = some v) : ld Try.prog h 26 b o K = K v := ld_sc ag26 hb hv
theorem ag29 : aggT Try.prog 29 = some false := by kernel_rfl
theorem sz29 : size? Try.prog 29 = some 1 := by kernel_rfl
theorem ld29 {h : H} {b o : Nat} {K : Value → Option R} {c : List Value} {e : TypeId} {own : Bool} {v : Value} (hb : h.blk b = some (.row c e own)) (hv : c[o]? = some v) : ld Try.prog h 29 b o K = K v := ld_sc ag29 hb hv
theorem ag31 : aggT Try.prog 31 = some true := by kernel_rfl
theorem sz31 : size? Try.prog 31 = some 2 := by kernel_rfl
theorem ld31 {h : H} {b o : Nat} {K : Value → Option R} {c : List Value} {e : TypeId} {own : Bool} (hb : h.blk b = some (.row c e own)) (hle : o + 2 ≤ c.length) : ld Try.prog h 31 b o K = K (.agg ((c.drop o).take 2).toArray) := ld_ag ag31 sz31 hb hle
theorem ldA31 {h : H} {b : Nat} {K : Value → Option R} {c : List Value} {e : TypeId} {own : Bool} (hb : h.blk b = some (.row c e own)) (hle : c.length = 2) : ld Try.prog h 31 b 0 K = K (.agg c.toArray) := by
  rw [ld31 hb (by omega), List.drop_zero, List.take_of_length_le (by omega)]
theorem ag56 : aggT Try.prog 56 = some true := by kernel_rfl
theorem sz56 : size? Try.prog 56 = some 3 := by kernel_rfl
theorem ld56 {h : H} {b o : Nat} {K : Value → Option R} {c : List Value} {e : TypeId} {own : Bool} (hb : h.blk b = some (.row c e own)) (hle : o + 3 ≤ c.length) : ld Try.prog h 56 b o K = K (.agg ((c.drop o).take 3).toArray) := ld_ag ag56 sz56 hb hle
theorem ldA56 {h : H} {b : Nat} {K : Value → Option R} {c : List Value} {e : TypeId} {own : Bool} (hb : h.blk b = some (.row c e own)) (hle : c.length = 3) : ld Try.prog h 56 b 0 K = K (.agg c.toArray) := by
  rw [ld56 hb (by omega), List.drop_zero, List.take_of_length_le (by omega)]
theorem ag58 : aggT Try.prog 58 = some false := by kernel_rfl
theorem sz58 : size? Try.prog 58 = some 1 := by kernel_rfl
theorem ld58 {h : H} {b o : Nat} {K : Value → Option R} {c : List Value} {e : TypeId} {own : Bool} {v : Value} (hb : h.blk b = some (.row c e own)) (hv : c[o]? = some v) : ld Try.prog h 58 b o K = K v := ld_sc ag58 hb hv
theorem ag59 : aggT Try.prog 59 = some true := by kernel_rfl
theorem sz59 : size? Try.prog 59 = some 3 := by kernel_rfl
theorem ld59 {h : H} {b o : Nat} {K : Value → Option R} {c : List Value} {e : TypeId} {own : Bool} (hb : h.blk b = some (.row c e own)) (hle : o + 3 ≤ c.length) : ld Try.prog h 59 b o K = K (.agg ((c.drop o).take 3).toArray) := ld_ag ag59 sz59 hb hle
theorem ldA59 {h : H} {b : Nat} {K : Value → Option R} {c : List Value} {e : TypeId} {own : Bool} (hb : h.blk b = some (.row c e own)) (hle : c.length = 3) : ld Try.prog h 59 b 0 K = K (.agg c.toArray) := by
  rw [ld59 hb (by omega), List.drop_zero, List.take_of_length_le (by omega)]
theorem ag61 : aggT Try.prog 61 = some false := by kernel_rfl
theorem sz61 : size? Try.prog 61 = some 1 := by kernel_rfl
theorem ld61 {h : H} {b o : Nat} {K : Value → Option R} {c : List Value} {e : TypeId} {own : Bool} {v : Value} (hb : h.blk b = some (.row c e own)) (hv : c[o]? = some v) : ld Try.prog h 61 b o K = K v := ld_sc ag61 hb hv
theorem ag89 : aggT Try.prog 89 = some false := by kernel_rfl
theorem sz89 : size? Try.prog 89 = some 1 := by kernel_rfl
theorem ld89 {h : H} {b o : Nat} {K : Value → Option R} {c : List Value} {e : TypeId} {own : Bool} {v : Value} (hb : h.blk b = some (.row c e own)) (hv : c[o]? = some v) : ld Try.prog h 89 b o K = K v := ld_sc ag89 hb hv
theorem ag121 : aggT Try.prog 121 = some false := by kernel_rfl
theorem sz121 : size? Try.prog 121 = some 1 := by kernel_rfl
theorem ld121 {h : H} {b o : Nat} {K : Value → Option R} {c : List Value} {e : TypeId} {own : Bool} {v : Value} (hb : h.blk b = some (.row c e own)) (hv : c[o]? = some v) : ld Try.prog h 121 b o K = K v := ld_sc ag121 hb hv

end Go.AM
