/- The staged forms of functions 104, and what calls of these answer. -/
import Derived.Test.YtnhmgokjijlhbaaSx
namespace Go.AM
open Go.Proofs

noncomputable def f104 (_rec : Rec) (_k : Nat) (v0 : Value) (v1 : Value) (h0 : H) : Option (Value × H) :=
  asI .u64 v0 fun n0 =>
  asI .u64 v0 fun n1 =>
  nn 32 (
    asI .u64 v1 fun n2 =>
    asI .u64 v1 fun n3 =>
    nn 32 (
      nn 32 (
        nn 32 (
          nn 32 (
            asI .u64 v0 fun n4 =>
            asI .u64 v1 fun n5 =>
            some ((.tuple #[(.int .u64 (add .u64 (add .u64 (mul .u64 (shr .u64 n1 32) (shr .u64 n3 32)) (shr .u64 (add .u64 (mul .u64 (shr .u64 n1 32) (and .u64 n2 4294967295)) (shr .u64 (mul .u64 (and .u64 n0 4294967295) (and .u64 n2 4294967295)) 32)) 32)) (shr .u64 (add .u64 (and .u64 (add .u64 (mul .u64 (shr .u64 n1 32) (and .u64 n2 4294967295)) (shr .u64 (mul .u64 (and .u64 n0 4294967295) (and .u64 n2 4294967295)) 32)) 4294967295) (mul .u64 (and .u64 n0 4294967295) (shr .u64 n3 32))) 32))), (.int .u64 (mul .u64 n4 n5))]), h0))))))

theorem e104 (rec : Rec) (k : Nat) (v0 : Value) (v1 : Value) (h : H) : bodyT Try.prog E0 SC (XC Try.prog rec k) 104 (Value × H) [.opq v0, .opq v1] h (fun v h => some (v, h)) = f104 rec k v0 v1 h := by kernel_rfl
theorem t104 {k : Nat} {v0 : Value} {v1 : Value} {h h1 : H} {v : Value} (hh : f104 rn k v0 v1 h = some (v, h1)) : rn 104 #[v0, v1] h = some (v, trunc Try.prog h h1 v) :=
  run_of_bodyT (args := [.opq v0, .opq v1]) rfl ((e104 _ _ _ _ _).trans hh)
theorem p104 {k : Nat} {v0 : Value} {v1 : Value} {h h1 : H} {v : Value} (hh : f104 rn k v0 v1 h = some (v, h1)) (hp : plainO v = true) (x : Ext h h1) : rn 104 #[v0, v1] h = some (v, h) := by rw [t104 hh, trunc_pure hp x]
theorem x104 {k : Nat} {v0 : Value} {v1 : Value} {h h1 : H} {v : Value} (hh : f104 rn k v0 v1 h = some (v, h1)) (hp : plainO v = false) : rn 104 #[v0, v1] h = some (v, h1) := by rw [t104 hh, trunc_not hp]

end Go.AM
