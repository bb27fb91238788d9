/- The staged forms of functions 25, 61, 68, and what calls of these answer. -/
/- The staged forms of functions 78, 79, and what calls of these answer. -/
import Derived.Test.YtnhmgokjijlhbaaSx

namespace Go.AM
open Go.Proofs

noncomputable def f25_l2 (rec : Rec) (_k : Nat) (v0 : Value) (v1 : Value) (ws0 : List Value) (n3 : Int) (ws1 : List Value) (h5 : H) : Option (Ex × List Value × H) :=
  asI .i64 (gv ws1 2) fun n4 =>
  ifB (lt n4 n3) (
    calls rec h5 64 [v0, gv ws1 0, gv ws1 2] fun v5 h6 =>
    ext v5 0 fun v6 =>
    ext v5 1 fun v7 =>
    asB v7 fun q0 =>
    ifB (not q0) (
      asI .i64 (gv ws1 2) fun n5 =>
      out .normal [gv ws1 0, gv ws1 1, (.int .i64 (add .i64 n5 1))] h6) (
      calls rec h6 63 [v0, v6] fun v8 h7 =>
      asI .i64 v8 fun n6 =>
      six v1 n6 1 fun b2 b3 =>
      ld Try.prog h7 3 b2 b3 fun v9 =>
      asI .i64 v9 fun n7 =>
      asI .i64 (gv ws0 2) fun n8 =>
      ifB (lt n7 (sub .i64 n8 1)) (
        asI .i64 (gv ws1 2) fun n9 =>
        out .normal [gv ws1 0, gv ws1 1, (.int .i64 (add .i64 n9 1))] h7) (
        bls Try.prog h7 22 1 [(0, gv ws1 2)] fun v10 h8 =>
        app Try.prog h8 22 22 (gv ws1 1) v10 fun v11 h9 =>
        out (.exit 2) [v6, v11, gv ws1 2] h9))) (
    out (.exit 2) [gv ws1 0, gv ws1 1, gv ws1 2] h5)

noncomputable def f25_l1 (rec : Rec) (k : Nat) (v0 : Value) (v1 : Value) (ws0 : List Value) (h4 : H) : Option (Ex × List Value × H) :=
  asI .i64 (gv ws0 2) fun n2 =>
  ifB (lt 0 n2) (
    len v0 fun n3 =>
    lp k (f25_l2 rec k v0 v1 ws0 n3) [gv ws0 0, gv ws0 1, (.int .i64 0)] h4 fun e0 ws2 h10 =>
    onE e0 2 (
      asI .i64 (gv ws0 2) fun n10 =>
      out .normal [gv ws2 0, gv ws2 1, (.int .i64 (sub .i64 n10 1))] h10) (
      none)) (
    out (.exit 0) [gv ws0 0, gv ws0 1, gv ws0 2] h4)

noncomputable def f25 (rec : Rec) (k : Nat) (v0 : Value) (h0 : H) : Option (Value × H) :=
  calls rec h0 62 [v0] fun v1 h1 =>
  calls rec h1 63 [v0, v0] fun v2 h2 =>
  asI .i64 v2 fun n0 =>
  six v1 n0 1 fun b0 b1 =>
  ld Try.prog h2 3 b0 b1 fun v3 =>
  asI .i64 v3 fun n1 =>
  ifB (lt n1 0) (
    some ((.tuple #[(.slice none 0 0), (.int .i64 4)]), h2)) (
    bls Try.prog h2 22 0 [] fun v4 h3 =>
    lp k (f25_l1 rec k v0 v1) [v0, v4, (.int .i64 n1)] h3 fun e1 ws3 h11 =>
    onE e1 0 (
      some ((.tuple #[gv ws3 1, (.int .i64 0)]), h11)) (
      none))

theorem e25 (rec : Rec) (k : Nat) (v0 : Value) (h : H) : bodyT Try.prog E0 SC (XC Try.prog rec k) 25 (Value × H) [.opq v0] h (fun v h => some (v, h)) = f25 rec k v0 h := by kernel_rfl
theorem t25 {k : Nat} {v0 : Value} {h h1 : H} {v : Value} (hh : f25 rn k v0 h = some (v, h1)) : rn 25 #[v0] h = some (v, trunc Try.prog h h1 v) :=
  run_of_bodyT (args := [.opq v0]) rfl ((e25 _ _ _ _).trans hh)
theorem p25 {k : Nat} {v0 : Value} {h h1 : H} {v : Value} (hh : f25 rn k v0 h = some (v, h1)) (hp : plainO v = true) (x : Ext h h1) : rn 25 #[v0] h = some (v, h) := by rw [t25 hh, trunc_pure hp x]
theorem x25 {k : Nat} {v0 : Value} {h h1 : H} {v : Value} (hh : f25 rn k v0 h = some (v, h1)) (hp : plainO v = false) : rn 25 #[v0] h = some (v, h1) := by rw [t25 hh, trunc_not hp]

noncomputable def f61 (_rec : Rec) (_k : Nat) (n0 : Int) (v0 : Value) (v1 : Value) (h0 : H) : Option (Value × H) :=
  ifB (not (eq n0 (-1))) (
    asP v0 fun _ _ =>
    asP v0 fun b2 b3 =>
    ld Try.prog h0 70 b2 b3 fun v2 =>
    nil v2 (
      asP v2 fun b4 b5 =>
      ld Try.prog h0 22 b4 (off b5 2) fun v3 =>
      six v3 n0 1 fun b6 b7 =>
      ld Try.prog h0 3 b6 b7 fun v4 =>
      asI .i64 v4 fun n1 =>
      asP v0 fun _ _ =>
      asP v0 fun b10 b11 =>
      ld Try.prog h0 70 b10 b11 fun v5 =>
      nil v5 (
        asP v5 fun b12 b13 =>
        ld Try.prog h0 22 b12 (off b13 2) fun v6 =>
        asP v1 fun _ _ =>
        asP v1 fun b16 b17 =>
        ld Try.prog h0 3 b16 b17 fun v7 =>
        asI .i64 v7 fun n2 =>
        six v6 n2 1 fun b18 b19 =>
        ld Try.prog h0 3 b18 b19 fun v8 =>
        asI .i64 v8 fun n3 =>
        some ((.bool (eq n1 (sub .i64 n3 1))), h0)))) (
    some ((.bool false), h0))

theorem e61 (rec : Rec) (k : Nat) (n0 : Int) (v0 : Value) (v1 : Value) (h : H) : bodyT Try.prog E0 SC (XC Try.prog rec k) 61 (Value × H) [.int .i64 n0, .opq v0, .opq v1] h (fun v h => some (v, h)) = f61 rec k n0 v0 v1 h := by kernel_rfl
theorem t61 {k : Nat} {n0 : Int} {v0 : Value} {v1 : Value} {h h1 : H} {v : Value} (hh : f61 rn k n0 v0 v1 h = some (v, h1)) : rn 61 #[.int .i64 n0, v0, v1] h = some (v, trunc Try.prog h h1 v) :=
  run_of_bodyT (args := [.int .i64 n0, .opq v0, .opq v1]) rfl ((e61 _ _ _ _ _ _).trans hh)
theorem p61 {k : Nat} {n0 : Int} {v0 : Value} {v1 : Value} {h h1 : H} {v : Value} (hh : f61 rn k n0 v0 v1 h = some (v, h1)) (hp : plainO v = true) (x : Ext h h1) : rn 61 #[.int .i64 n0, v0, v1] h = some (v, h) := by rw [t61 hh, trunc_pure hp x]
theorem x61 {k : Nat} {n0 : Int} {v0 : Value} {v1 : Value} {h h1 : H} {v : Value} (hh : f61 rn k n0 v0 v1 h = some (v, h1)) (hp : plainO v = false) : rn 61 #[.int .i64 n0, v0, v1] h = some (v, h1) := by rw [t61 hh, trunc_not hp]

noncomputable def f68 (rec : Rec) (_k : Nat) (v0 : Value) (n0 : Int) (n1 : Int) (h0 : H) : Option (Value × H) :=
  len v0 fun n2 =>
  ifB (le 1 n2) (
    len v0 fun n3 =>
    ifB (le n3 n1) (
      calls rec h0 78 [v0] fun v1 h1 =>
      asI .i64 v1 fun n4 =>
      ifB (le 0 n4) (
        calls rec h1 79 [v0] fun v2 h2 =>
        asI .i64 v2 fun n5 =>
        some ((.bool (lt n5 n0)), h2)) (
        some ((.bool false), h1))) (
      some ((.bool false), h0))) (
    some ((.bool false), h0))

theorem e68 (rec : Rec) (k : Nat) (v0 : Value) (n0 : Int) (n1 : Int) (h : H) : bodyT Try.prog E0 SC (XC Try.prog rec k) 68 (Value × H) [.opq v0, .int .i64 n0, .int .i64 n1] h (fun v h => some (v, h)) = f68 rec k v0 n0 n1 h := by kernel_rfl
theorem t68 {k : Nat} {v0 : Value} {n0 : Int} {n1 : Int} {h h1 : H} {v : Value} (hh : f68 rn k v0 n0 n1 h = some (v, h1)) : rn 68 #[v0, .int .i64 n0, .int .i64 n1] h = some (v, trunc Try.prog h h1 v) :=
  run_of_bodyT (args := [.opq v0, .int .i64 n0, .int .i64 n1]) rfl ((e68 _ _ _ _ _ _).trans hh)
theorem p68 {k : Nat} {v0 : Value} {n0 : Int} {n1 : Int} {h h1 : H} {v : Value} (hh : f68 rn k v0 n0 n1 h = some (v, h1)) (hp : plainO v = true) (x : Ext h h1) : rn 68 #[v0, .int .i64 n0, .int .i64 n1] h = some (v, h) := by rw [t68 hh, trunc_pure hp x]
theorem x68 {k : Nat} {v0 : Value} {n0 : Int} {n1 : Int} {h h1 : H} {v : Value} (hh : f68 rn k v0 n0 n1 h = some (v, h1)) (hp : plainO v = false) : rn 68 #[v0, .int .i64 n0, .int .i64 n1] h = some (v, h1) := by rw [t68 hh, trunc_not hp]

end Go.AM

namespace Go.AM
open Go.Proofs

noncomputable def f78_l1 (_rec : Rec) (_k : Nat) (v0 : Value) (ws0 : List Value) (h1 : H) : Option (Ex × List Value × H) :=
  len v0 fun n2 =>
  asI .i64 (gv ws0 1) fun n3 =>
  ifB (lt n3 n2) (
    asK (gv ws0 1) fun n4 =>
    six v0 n4 1 fun b2 b3 =>
    ld Try.prog h1 3 b2 b3 fun v2 =>
    asI .i64 v2 fun n5 =>
    asI .i64 (gv ws0 0) fun n6 =>
    asI .i64 (gv ws0 1) fun n7 =>
    out .normal [(.int .i64 (imin n6 n5)), (.int .i64 (add .i64 n7 1))] h1) (
    out (.exit 0) [gv ws0 0, gv ws0 1] h1)

noncomputable def f78 (rec : Rec) (k : Nat) (v0 : Value) (h0 : H) : Option (Value × H) :=
  len v0 fun n0 =>
  ifB (lt n0 1) (
    none) (
    six v0 0 1 fun b0 b1 =>
    ld Try.prog h0 3 b0 b1 fun v1 =>
    asI .i64 v1 fun n1 =>
    lp k (f78_l1 rec k v0) [(.int .i64 n1), (.int .i64 1)] h0 fun e0 ws1 h2 =>
    onE e0 0 (
      some (gv ws1 0, h2)) (
      none))

theorem e78 (rec : Rec) (k : Nat) (v0 : Value) (h : H) : bodyT Try.prog E0 SC (XC Try.prog rec k) 78 (Value × H) [.opq v0] h (fun v h => some (v, h)) = f78 rec k v0 h := by kernel_rfl
theorem t78 {k : Nat} {v0 : Value} {h h1 : H} {v : Value} (hh : f78 rn k v0 h = some (v, h1)) : rn 78 #[v0] h = some (v, trunc Try.prog h h1 v) :=
  run_of_bodyT (args := [.opq v0]) rfl ((e78 _ _ _ _).trans hh)
theorem p78 {k : Nat} {v0 : Value} {h h1 : H} {v : Value} (hh : f78 rn k v0 h = some (v, h1)) (hp : plainO v = true) (x : Ext h h1) : rn 78 #[v0] h = some (v, h) := by rw [t78 hh, trunc_pure hp x]
theorem x78 {k : Nat} {v0 : Value} {h h1 : H} {v : Value} (hh : f78 rn k v0 h = some (v, h1)) (hp : plainO v = false) : rn 78 #[v0] h = some (v, h1) := by rw [t78 hh, trunc_not hp]

noncomputable def f79_l1 (_rec : Rec) (_k : Nat) (v0 : Value) (ws0 : List Value) (h1 : H) : Option (Ex × List Value × H) :=
  len v0 fun n2 =>
  asI .i64 (gv ws0 1) fun n3 =>
  ifB (lt n3 n2) (
    asK (gv ws0 1) fun n4 =>
    six v0 n4 1 fun b2 b3 =>
    ld Try.prog h1 3 b2 b3 fun v2 =>
    asI .i64 v2 fun n5 =>
    asI .i64 (gv ws0 0) fun n6 =>
    asI .i64 (gv ws0 1) fun n7 =>
    out .normal [(.int .i64 (imax n6 n5)), (.int .i64 (add .i64 n7 1))] h1) (
    out (.exit 0) [gv ws0 0, gv ws0 1] h1)

noncomputable def f79 (rec : Rec) (k : Nat) (v0 : Value) (h0 : H) : Option (Value × H) :=
  len v0 fun n0 =>
  ifB (lt n0 1) (
    none) (
    six v0 0 1 fun b0 b1 =>
    ld Try.prog h0 3 b0 b1 fun v1 =>
    asI .i64 v1 fun n1 =>
    lp k (f79_l1 rec k v0) [(.int .i64 n1), (.int .i64 1)] h0 fun e0 ws1 h2 =>
    onE e0 0 (
      some (gv ws1 0, h2)) (
      none))

theorem e79 (rec : Rec) (k : Nat) (v0 : Value) (h : H) : bodyT Try.prog E0 SC (XC Try.prog rec k) 79 (Value × H) [.opq v0] h (fun v h => some (v, h)) = f79 rec k v0 h := by kernel_rfl
theorem t79 {k : Nat} {v0 : Value} {h h1 : H} {v : Value} (hh : f79 rn k v0 h = some (v, h1)) : rn 79 #[v0] h = some (v, trunc Try.prog h h1 v) :=
  run_of_bodyT (args := [.opq v0]) rfl ((e79 _ _ _ _).trans hh)
theorem p79 {k : Nat} {v0 : Value} {h h1 : H} {v : Value} (hh : f79 rn k v0 h = some (v, h1)) (hp : plainO v = true) (x : Ext h h1) : rn 79 #[v0] h = some (v, h) := by rw [t79 hh, trunc_pure hp x]
theorem x79 {k : Nat} {v0 : Value} {h h1 : H} {v : Value} (hh : f79 rn k v0 h = some (v, h1)) (hp : plainO v = false) : rn 79 #[v0] h = some (v, h1) := by rw [t79 hh, trunc_not hp]

end Go.AM
