/- The staged forms of functions 78, 79, and what calls of these answer. -/
import Derived.Test.YtnhmgokjijlhbaaSx
namespace Go.AM
open Go.Proofs

noncomputable def f78_l1 (_rec : Rec) (_k : Nat) (v0 : Value) (ws0 : List Value) (h1 : H) : Option (Ex × List Value × H) :=
  len v0 fun n2 =>
  asI .i64 (gv ws0 1) fun n3 =>
  ifB (lt n3 n2) (
    asK (gv ws0 1) fun n4 =>
    six v0 n4 1 fun b2 b3 =>
    ld Try.prog h1 3 b2 b3 fun v2 =>
    asI .i64 v2 fun n5 =>
    asI .i64 (gv ws0 0) fun n6 =>
    asI .i64 (gv ws0 1) fun n7 =>
    out .normal [(.int .i64 (imin n6 n5)), (.int .i64 (add .i64 n7 1))] h1) (
    out (.exit 0) [gv ws0 0, gv ws0 1] h1)

noncomputable def f78 (rec : Rec) (k : Nat) (v0 : Value) (h0 : H) : Option (Value × H) :=
  len v0 fun n0 =>
  ifB (lt n0 1) (
    none) (
    six v0 0 1 fun b0 b1 =>
    ld Try.prog h0 3 b0 b1 fun v1 =>
    asI .i64 v1 fun n1 =>
    lp k (f78_l1 rec k v0) [(.int .i64 n1), (.int .i64 1)] h0 fun e0 ws1 h2 =>
    onE e0 0 (
      some (gv ws1 0, h2)) (
      none))

theorem e78 (rec : Rec) (k : Nat) (v0 : Value) (h : H) : bodyT Try.prog E0 SC (XC Try.prog rec k) 78 (Value × H) [.opq v0] h (fun v h => some (v, h)) = f78 rec k v0 h := by kernel_rfl
theorem t78 {k : Nat} {v0 : Value} {h h1 : H} {v : Value} (hh : f78 rn k v0 h = some (v, h1)) : rn 78 #[v0] h = some (v, trunc Try.prog h h1 v) :=
  run_of_bodyT (args := [.opq v0]) rfl ((e78 _ _ _ _).trans hh)
theorem p78 {k : Nat} {v0 : Value} {h h1 : H} {v : Value} (hh : f78 rn k v0 h = some (v, h1)) (hp : plainO v = true) (x : Ext h h1) : rn 78 #[v0] h = some (v, h) := by rw [t78 hh, trunc_pure hp x]
theorem x78 {k : Nat} {v0 : Value} {h h1 : H} {v : Value} (hh : f78 rn k v0 h = some (v, h1)) (hp : plainO v = false) : rn 78 #[v0] h = some (v, h1) := by rw [t78 hh, trunc_not hp]

noncomputable def f79_l1 (_rec : Rec) (_k : Nat) (v0 : Value) (ws0 : List Value) (h1 : H) : Option (Ex × List Value × H) :=
  len v0 fun n2 =>
  asI .i64 (gv ws0 1) fun n3 =>
  ifB (lt n3 n2) (
    asK (gv ws0 1) fun n4 =>
    six v0 n4 1 fun b2 b3 =>
    ld Try.prog h1 3 b2 b3 fun v2 =>
    asI .i64 v2 fun n5 =>
    asI .i64 (gv ws0 0) fun n6 =>
    asI .i64 (gv ws0 1) fun n7 =>
    out .normal [(.int .i64 (imax n6 n5)), (.int .i64 (add .i64 n7 1))] h1) (
    out (.exit 0) [gv ws0 0, gv ws0 1] h1)

noncomputable def f79 (rec : Rec) (k : Nat) (v0 : Value) (h0 : H) : Option (Value × H) :=
  len v0 fun n0 =>
  ifB (lt n0 1) (
    none) (
    six v0 0 1 fun b0 b1 =>
    ld Try.prog h0 3 b0 b1 fun v1 =>
    asI .i64 v1 fun n1 =>
    lp k (f79_l1 rec k v0) [(.int .i64 n1), (.int .i64 1)] h0 fun e0 ws1 h2 =>
    onE e0 0 (
      some (gv ws1 0, h2)) (
      none))

theorem e79 (rec : Rec) (k : Nat) (v0 : Value) (h : H) : bodyT Try.prog E0 SC (XC Try.prog rec k) 79 (Value × H) [.opq v0] h (fun v h => some (v, h)) = f79 rec k v0 h := by kernel_rfl
theorem t79 {k : Nat} {v0 : Value} {h h1 : H} {v : Value} (hh : f79 rn k v0 h = some (v, h1)) : rn 79 #[v0] h = some (v, trunc Try.prog h h1 v) :=
  run_of_bodyT (args := [.opq v0]) rfl ((e79 _ _ _ _).trans hh)
theorem p79 {k : Nat} {v0 : Value} {h h1 : H} {v : Value} (hh : f79 rn k v0 h = some (v, h1)) (hp : plainO v = true) (x : Ext h h1) : rn 79 #[v0] h = some (v, h) := by rw [t79 hh, trunc_pure hp x]
theorem x79 {k : Nat} {v0 : Value} {h h1 : H} {v : Value} (hh : f79 rn k v0 h = some (v, h1)) (hp : plainO v = false) : rn 79 #[v0] h = some (v, h1) := by rw [t79 hh, trunc_not hp]

end Go.AM
