/- The staged forms of functions 13, 47, 48, 49, 50, 77, 81, 82, 83, 84, 98, and what calls of these answer. -/
import Derived.Test.YtnhmgokjijlhbaaSx
namespace Go.AM
open Go.Proofs

noncomputable def f13 (rec : Rec) (_k : Nat) (v0 : Value) (v1 : Value) (h0 : H) : Option (Value × H) :=
  bx h0 47 v0 fun h1 =>
  ld Try.prog h1 47 (nx h0) 0 fun v2 =>
  calls rec h1 37 [v2] fun v3 h2 =>
  calls rec h2 47 [v3] fun v4 h3 =>
  ext v4 0 fun v5 =>
  ext v4 1 fun v6 =>
  asI .i64 v6 fun n0 =>
  ld Try.prog h3 47 (nx h0) 0 fun v7 =>
  calls rec h3 37 [v7] fun v8 h4 =>
  calls rec h4 18 [v1] fun v9 h5 =>
  calls rec h5 48 [v8, v9] fun v10 h6 =>
  ext v10 0 fun v11 =>
  asB v11 fun q0 =>
  ext v10 1 fun v12 =>
  asI .i64 v12 fun n1 =>
  ld Try.prog h6 47 (nx h0) 0 fun v13 =>
  calls rec h6 38 [v13] fun v14 h7 =>
  asB v14 fun q1 =>
  ifB (not q1) (
    len v5 fun n2 =>
    ifB (eq n2 0) (
      ifB (not q0) (
        ifB (eq n0 2) (
          ifB (eq n1 2) (
            calls rec h7 19 [] fun v15 h8 =>
            asB v15 fun q2 =>
            some ((.bool q2), h8)) (
            some ((.bool false), h7))) (
          some ((.bool false), h7))) (
        some ((.bool false), h7))) (
      some ((.bool false), h7))) (
    ld Try.prog h7 47 (nx h0) 0 fun v16 =>
    calls rec h7 49 [v16] fun v17 h9 =>
    ext v17 0 fun v18 =>
    ext v17 1 fun v19 =>
    asI .i64 v19 fun n3 =>
    calls rec h9 26 [v5, v18] fun v20 h10 =>
    asB v20 fun q3 =>
    ifB q3 (
      ifB (eq n0 n3) (
        ld Try.prog h10 47 (nx h0) 0 fun v21 =>
        calls rec h10 50 [v21, v1] fun v22 h11 =>
        asB v22 fun q4 =>
        eqv Try.prog 4 (.bool q0) (.bool q4) fun q5 =>
        ifB q5 (
          ifB (eq n1 0) (
            calls rec h11 19 [] fun v23 h12 =>
            asB v23 fun q6 =>
            some ((.bool q6), h12)) (
            some ((.bool false), h11))) (
          some ((.bool false), h11))) (
        some ((.bool false), h10))) (
      some ((.bool false), h10)))

theorem e13 (rec : Rec) (k : Nat) (v0 : Value) (v1 : Value) (h : H) : bodyT Try.prog E0 SC (XC Try.prog rec k) 13 (Value × H) [.opq v0, .opq v1] h (fun v h => some (v, h)) = f13 rec k v0 v1 h := by kernel_rfl
theorem t13 {k : Nat} {v0 : Value} {v1 : Value} {h h1 : H} {v : Value} (hh : f13 rn k v0 v1 h = some (v, h1)) : rn 13 #[v0, v1] h = some (v, trunc Try.prog h h1 v) :=
  run_of_bodyT (args := [.opq v0, .opq v1]) rfl ((e13 _ _ _ _ _).trans hh)
theorem p13 {k : Nat} {v0 : Value} {v1 : Value} {h h1 : H} {v : Value} (hh : f13 rn k v0 v1 h = some (v, h1)) (hp : plainO v = true) (x : Ext h h1) : rn 13 #[v0, v1] h = some (v, h) := by rw [t13 hh, trunc_pure hp x]
theorem x13 {k : Nat} {v0 : Value} {v1 : Value} {h h1 : H} {v : Value} (hh : f13 rn k v0 v1 h = some (v, h1)) (hp : plainO v = false) : rn 13 #[v0, v1] h = some (v, h1) := by rw [t13 hh, trunc_not hp]

noncomputable def f47 (rec : Rec) (_k : Nat) (v0 : Value) (h0 : H) : Option (Value × H) :=
  bx h0 52 v0 fun h1 =>
  ld Try.prog h1 52 (nx h0) 0 fun v1 =>
  calls rec h1 71 [v1] fun v2 h2 =>
  asB v2 fun q0 =>
  ifB (not q0) (
    some ((.tuple #[(.slice none 0 0), (.int .i64 2)]), h2)) (
    ld Try.prog h2 52 (nx h0) 0 fun v3 =>
    ld Try.prog h2 50 (nx h0) (off 0 2) fun v4 =>
    len v4 fun n0 =>
    nn n0 (
      calls rec h2 77 [v3, (.int .i64 (sub .i64 (shl .i64 1 n0) 1))] fun v5 h3 =>
      eqv Try.prog 22 v5 (.slice none 0 0) fun q1 =>
      ifB q1 (
        some ((.tuple #[(.slice none 0 0), (.int .i64 4)]), h3)) (
        some ((.tuple #[v5, (.int .i64 0)]), h3))))

theorem e47 (rec : Rec) (k : Nat) (v0 : Value) (h : H) : bodyT Try.prog E0 SC (XC Try.prog rec k) 47 (Value × H) [.opq v0] h (fun v h => some (v, h)) = f47 rec k v0 h := by kernel_rfl
theorem t47 {k : Nat} {v0 : Value} {h h1 : H} {v : Value} (hh : f47 rn k v0 h = some (v, h1)) : rn 47 #[v0] h = some (v, trunc Try.prog h h1 v) :=
  run_of_bodyT (args := [.opq v0]) rfl ((e47 _ _ _ _).trans hh)
theorem p47 {k : Nat} {v0 : Value} {h h1 : H} {v : Value} (hh : f47 rn k v0 h = some (v, h1)) (hp : plainO v = true) (x : Ext h h1) : rn 47 #[v0] h = some (v, h) := by rw [t47 hh, trunc_pure hp x]
theorem x47 {k : Nat} {v0 : Value} {h h1 : H} {v : Value} (hh : f47 rn k v0 h = some (v, h1)) (hp : plainO v = false) : rn 47 #[v0] h = some (v, h1) := by rw [t47 hh, trunc_not hp]

noncomputable def f48 (rec : Rec) (_k : Nat) (v0 : Value) (v1 : Value) (h0 : H) : Option (Value × H) :=
  bx h0 52 v0 fun h1 =>
  bx h1 22 v1 fun h2 =>
  ld Try.prog h2 52 (nx h0) 0 fun v2 =>
  calls rec h2 71 [v2] fun v3 h3 =>
  asB v3 fun q0 =>
  ifB (not q0) (
    some ((.tuple #[(.bool false), (.int .i64 2)]), h3)) (
    ld Try.prog h3 22 (nx h1) 0 fun v4 =>
    len v4 fun n0 =>
    ld Try.prog h3 3 (nx h0) (off 0 1) fun v5 =>
    asI .i64 v5 fun n1 =>
    ifB (not (eq n0 n1)) (
      some ((.tuple #[(.bool false), (.int .i64 0)]), h3)) (
      ld Try.prog h3 22 (nx h1) 0 fun v6 =>
      calls rec h3 78 [v6] fun v7 h4 =>
      asI .i64 v7 fun n2 =>
      ifB (lt n2 0) (
        some ((.tuple #[(.bool false), (.int .i64 0)]), h4)) (
        ld Try.prog h4 22 (nx h1) 0 fun v8 =>
        calls rec h4 79 [v8] fun v9 h5 =>
        asI .i64 v9 fun n3 =>
        ld Try.prog h5 3 (nx h0) 0 fun v10 =>
        asI .i64 v10 fun n4 =>
        ck (freq (nx h0) (nx h4) (same h5 h4)) (
          ifB (le n4 n3) (
            some ((.tuple #[(.bool false), (.int .i64 0)]), h5)) (
            ld Try.prog h5 50 (nx h0) (off 0 2) fun v11 =>
            calls rec h5 80 [v11, (.func (.func 81) #[] #[(pt (nx h0) 0), (pt (nx h1) 0)])] fun v12 h6 =>
            asB v12 fun q1 =>
            some ((.tuple #[(.bool (not q1)), (.int .i64 0)]), h6))))))

theorem e48 (rec : Rec) (k : Nat) (v0 : Value) (v1 : Value) (h : H) : bodyT Try.prog E0 SC (XC Try.prog rec k) 48 (Value × H) [.opq v0, .opq v1] h (fun v h => some (v, h)) = f48 rec k v0 v1 h := by kernel_rfl
theorem t48 {k : Nat} {v0 : Value} {v1 : Value} {h h1 : H} {v : Value} (hh : f48 rn k v0 v1 h = some (v, h1)) : rn 48 #[v0, v1] h = some (v, trunc Try.prog h h1 v) :=
  run_of_bodyT (args := [.opq v0, .opq v1]) rfl ((e48 _ _ _ _ _).trans hh)
theorem p48 {k : Nat} {v0 : Value} {v1 : Value} {h h1 : H} {v : Value} (hh : f48 rn k v0 v1 h = some (v, h1)) (hp : plainO v = true) (x : Ext h h1) : rn 48 #[v0, v1] h = some (v, h) := by rw [t48 hh, trunc_pure hp x]
theorem x48 {k : Nat} {v0 : Value} {v1 : Value} {h h1 : H} {v : Value} (hh : f48 rn k v0 v1 h = some (v, h1)) (hp : plainO v = false) : rn 48 #[v0, v1] h = some (v, h1) := by rw [t48 hh, trunc_not hp]

noncomputable def f49 (rec : Rec) (_k : Nat) (v0 : Value) (h0 : H) : Option (Value × H) :=
  bx h0 47 v0 fun h1 =>
  ld Try.prog h1 47 (nx h0) 0 fun v1 =>
  calls rec h1 83 [v1, (.slice none 0 0)] fun v2 h2 =>
  eqv Try.prog 22 v2 (.slice none 0 0) fun q0 =>
  ifB (not q0) (
    some ((.tuple #[v2, (.int .i64 0)]), h2)) (
    some ((.tuple #[(.slice none 0 0), (.int .i64 4)]), h2))

theorem e49 (rec : Rec) (k : Nat) (v0 : Value) (h : H) : bodyT Try.prog E0 SC (XC Try.prog rec k) 49 (Value × H) [.opq v0] h (fun v h => some (v, h)) = f49 rec k v0 h := by kernel_rfl
theorem t49 {k : Nat} {v0 : Value} {h h1 : H} {v : Value} (hh : f49 rn k v0 h = some (v, h1)) : rn 49 #[v0] h = some (v, trunc Try.prog h h1 v) :=
  run_of_bodyT (args := [.opq v0]) rfl ((e49 _ _ _ _).trans hh)
theorem p49 {k : Nat} {v0 : Value} {h h1 : H} {v : Value} (hh : f49 rn k v0 h = some (v, h1)) (hp : plainO v = true) (x : Ext h h1) : rn 49 #[v0] h = some (v, h) := by rw [t49 hh, trunc_pure hp x]
theorem x49 {k : Nat} {v0 : Value} {h h1 : H} {v : Value} (hh : f49 rn k v0 h = some (v, h1)) (hp : plainO v = false) : rn 49 #[v0] h = some (v, h1) := by rw [t49 hh, trunc_not hp]

noncomputable def f50_l1 (_rec : Rec) (_k : Nat) (v1 : Value) (h0 : H) (n0 : Int) (ws0 : List Value) (h2 : H) : Option (Ex × List Value × H) :=
  asI .i64 (gv ws0 1) fun n1 =>
  ifB (lt n1 n0) (
    asK (gv ws0 1) fun n2 =>
    six v1 n2 1 fun b0 b1 =>
    ld Try.prog h2 3 b0 b1 fun v2 =>
    asI .i64 v2 fun n3 =>
    ifB (lt n3 0) (
      out .ret [(.bool false), gv ws0 1] h2) (
      ld Try.prog h2 3 (nx h0) 0 fun v3 =>
      asI .i64 v3 fun n4 =>
      ifB (le n4 n3) (
        out .ret [(.bool false), gv ws0 1] h2) (
        asI .i64 (gv ws0 1) fun n5 =>
        out .normal [gv ws0 0, (.int .i64 (add .i64 n5 1))] h2))) (
    out (.exit 0) [gv ws0 0, gv ws0 1] h2)

noncomputable def f50_l2 (rec : Rec) (_k : Nat) (v1 : Value) (h0 : H) (v5 : Value) (n8 : Int) (ws2 : List Value) (h4 : H) : Option (Ex × List Value × H) :=
  asI .i64 (gv ws2 1) fun n9 =>
  ifB (lt n9 n8) (
    asK (gv ws2 1) fun n10 =>
    six v5 n10 4 fun b2 b3 =>
    ld Try.prog h4 89 b2 b3 fun v6 =>
    al h4 89 [(.int .i64 0), (.int .i64 0), (.int .i64 0), (.int .i64 0)] fun h5 =>
    st Try.prog h5 89 (nx h4) 0 v6 fun h6 =>
    ld Try.prog h6 47 (nx h0) 0 fun v7 =>
    ld Try.prog h6 89 (nx h4) 0 fun v8 =>
    ld Try.prog h6 3 (nx h4) 0 fun v9 =>
    asI .i64 v9 fun n11 =>
    six v1 n11 1 fun b4 b5 =>
    ld Try.prog h6 3 b4 b5 fun v10 =>
    asI .i64 v10 fun n12 =>
    ld Try.prog h6 3 (nx h4) (off 0 1) fun v11 =>
    asI .i64 v11 fun n13 =>
    six v1 n13 1 fun b6 b7 =>
    ld Try.prog h6 3 b6 b7 fun v12 =>
    asI .i64 v12 fun n14 =>
    calls rec h6 84 [v7, v8, (.int .i64 n12), (.int .i64 n14)] fun v13 h7 =>
    asB v13 fun q0 =>
    ifB (not q0) (
      out .ret [(.bool false), gv ws2 1] h7) (
      asI .i64 (gv ws2 1) fun n15 =>
      out .normal [gv ws2 0, (.int .i64 (add .i64 n15 1))] h7)) (
    out (.exit 2) [gv ws2 0, gv ws2 1] h4)

noncomputable def f50 (rec : Rec) (k : Nat) (v0 : Value) (v1 : Value) (h0 : H) : Option (Value × H) :=
  bx h0 47 v0 fun h1 =>
  len v1 fun n0 =>
  lp k (f50_l1 rec k v1 h0 n0) [(.bool false), (.int .i64 0)] h1 fun e0 ws1 h3 =>
  onE e0 0 (
    len v1 fun n6 =>
    ld Try.prog h3 3 (nx h0) (off 0 1) fun v4 =>
    asI .i64 v4 fun n7 =>
    ifB (not (eq n6 n7)) (
      some ((.bool false), h3)) (
      ld Try.prog h3 45 (nx h0) (off 0 2) fun v5 =>
      len v5 fun n8 =>
      lp k (f50_l2 rec k v1 h0 v5 n8) [gv ws1 0, (.int .i64 0)] h3 fun e1 ws3 h8 =>
      onE e1 2 (
        some ((.bool true), h8)) (
        onR e1 (
          some (gv ws3 0, h8))))) (
    onR e0 (
      some (gv ws1 0, h3)))

theorem e50 (rec : Rec) (k : Nat) (v0 : Value) (v1 : Value) (h : H) : bodyT Try.prog E0 SC (XC Try.prog rec k) 50 (Value × H) [.opq v0, .opq v1] h (fun v h => some (v, h)) = f50 rec k v0 v1 h := by kernel_rfl
theorem t50 {k : Nat} {v0 : Value} {v1 : Value} {h h1 : H} {v : Value} (hh : f50 rn k v0 v1 h = some (v, h1)) : rn 50 #[v0, v1] h = some (v, trunc Try.prog h h1 v) :=
  run_of_bodyT (args := [.opq v0, .opq v1]) rfl ((e50 _ _ _ _ _).trans hh)
theorem p50 {k : Nat} {v0 : Value} {v1 : Value} {h h1 : H} {v : Value} (hh : f50 rn k v0 v1 h = some (v, h1)) (hp : plainO v = true) (x : Ext h h1) : rn 50 #[v0, v1] h = some (v, h) := by rw [t50 hh, trunc_pure hp x]
theorem x50 {k : Nat} {v0 : Value} {v1 : Value} {h h1 : H} {v : Value} (hh : f50 rn k v0 v1 h = some (v, h1)) (hp : plainO v = false) : rn 50 #[v0, v1] h = some (v, h1) := by rw [t50 hh, trunc_not hp]

noncomputable def f77 (rec : Rec) (_k : Nat) (v0 : Value) (n0 : Int) (h0 : H) : Option (Value × H) :=
  bx h0 52 v0 fun h1 =>
  bx h1 3 (.int .i64 n0) fun h2 =>
  al h2 22 [(.slice none 0 0)] fun h3 =>
  al h3 27 [.nilFunc] fun h4 =>
  st Try.prog h4 27 (nx h3) 0 (.func (.func 98) #[] #[(pt (nx h2) 0), (pt (nx h0) 0), (pt (nx h1) 0), (pt (nx h3) 0)]) fun h5 =>
  ld Try.prog h5 27 (nx h3) 0 fun v1 =>
  callsV rec h5 v1 [] fun v2 h6 =>
  asB v2 fun q0 =>
  ifB (not q0) (
    some ((.slice none 0 0), h6)) (
    ld Try.prog h6 22 (nx h2) 0 fun v3 =>
    some (v3, h6))

theorem e77 (rec : Rec) (k : Nat) (v0 : Value) (n0 : Int) (h : H) : bodyT Try.prog E0 SC (XC Try.prog rec k) 77 (Value × H) [.opq v0, .int .i64 n0] h (fun v h => some (v, h)) = f77 rec k v0 n0 h := by kernel_rfl
theorem t77 {k : Nat} {v0 : Value} {n0 : Int} {h h1 : H} {v : Value} (hh : f77 rn k v0 n0 h = some (v, h1)) : rn 77 #[v0, .int .i64 n0] h = some (v, trunc Try.prog h h1 v) :=
  run_of_bodyT (args := [.opq v0, .int .i64 n0]) rfl ((e77 _ _ _ _ _).trans hh)
theorem p77 {k : Nat} {v0 : Value} {n0 : Int} {h h1 : H} {v : Value} (hh : f77 rn k v0 n0 h = some (v, h1)) (hp : plainO v = true) (x : Ext h h1) : rn 77 #[v0, .int .i64 n0] h = some (v, h) := by rw [t77 hh, trunc_pure hp x]
theorem x77 {k : Nat} {v0 : Value} {n0 : Int} {h h1 : H} {v : Value} (hh : f77 rn k v0 n0 h = some (v, h1)) (hp : plainO v = false) : rn 77 #[v0, .int .i64 n0] h = some (v, h1) := by rw [t77 hh, trunc_not hp]

noncomputable def f81 (rec : Rec) (_k : Nat) (v0 : Value) (v1 : Value) (v2 : Value) (h0 : H) : Option (Value × H) :=
  bx h0 67 v0 fun h1 =>
  asP v1 fun _ _ =>
  asP v1 fun b2 b3 =>
  ld Try.prog h1 52 b2 b3 fun v3 =>
  ld Try.prog h1 67 (nx h0) 0 fun v4 =>
  asP v2 fun _ _ =>
  asP v2 fun b6 b7 =>
  ld Try.prog h1 22 b6 b7 fun v5 =>
  ld Try.prog h1 3 (nx h0) 0 fun v6 =>
  asI .i64 v6 fun n0 =>
  six v5 n0 1 fun b8 b9 =>
  ld Try.prog h1 3 b8 b9 fun v7 =>
  asI .i64 v7 fun n1 =>
  asP v2 fun _ _ =>
  asP v2 fun b12 b13 =>
  ld Try.prog h1 22 b12 b13 fun v8 =>
  ld Try.prog h1 3 (nx h0) (off 0 1) fun v9 =>
  asI .i64 v9 fun n2 =>
  six v8 n2 1 fun b14 b15 =>
  ld Try.prog h1 3 b14 b15 fun v10 =>
  asI .i64 v10 fun n3 =>
  calls rec h1 82 [v3, v4, (.int .i64 n1), (.int .i64 n3)] fun v11 h2 =>
  asB v11 fun q0 =>
  some ((.bool (not q0)), h2)

theorem e81 (rec : Rec) (k : Nat) (v0 : Value) (v1 : Value) (v2 : Value) (h : H) : bodyT Try.prog E0 SC (XC Try.prog rec k) 81 (Value × H) [.opq v0, .opq v1, .opq v2] h (fun v h => some (v, h)) = f81 rec k v0 v1 v2 h := by kernel_rfl
theorem t81 {k : Nat} {v0 : Value} {v1 : Value} {v2 : Value} {h h1 : H} {v : Value} (hh : f81 rn k v0 v1 v2 h = some (v, h1)) : rn 81 #[v0, v1, v2] h = some (v, trunc Try.prog h h1 v) :=
  run_of_bodyT (args := [.opq v0, .opq v1, .opq v2]) rfl ((e81 _ _ _ _ _ _).trans hh)
theorem p81 {k : Nat} {v0 : Value} {v1 : Value} {v2 : Value} {h h1 : H} {v : Value} (hh : f81 rn k v0 v1 v2 h = some (v, h1)) (hp : plainO v = true) (x : Ext h h1) : rn 81 #[v0, v1, v2] h = some (v, h) := by rw [t81 hh, trunc_pure hp x]
theorem x81 {k : Nat} {v0 : Value} {v1 : Value} {v2 : Value} {h h1 : H} {v : Value} (hh : f81 rn k v0 v1 v2 h = some (v, h1)) (hp : plainO v = false) : rn 81 #[v0, v1, v2] h = some (v, h1) := by rw [t81 hh, trunc_not hp]

noncomputable def f82 (_rec : Rec) (_k : Nat) (v0 : Value) (v1 : Value) (n0 : Int) (n1 : Int) (h0 : H) : Option (Value × H) :=
  bx h0 52 v0 fun h1 =>
  bx h1 67 v1 fun h2 =>
  ld Try.prog h2 3 (nx h1) (off 0 2) fun v2 =>
  asI .i64 v2 fun n2 =>
  ld Try.prog h2 3 (nx h0) 0 fun v3 =>
  asI .i64 v3 fun n3 =>
  nz n3 (
    ld Try.prog h2 3 (nx h0) 0 fun v4 =>
    asI .i64 v4 fun n4 =>
    ld Try.prog h2 3 (nx h0) 0 fun v5 =>
    asI .i64 v5 fun n5 =>
    nz n5 (
      ld Try.prog h2 3 (nx h1) (off 0 2) fun v6 =>
      asI .i64 v6 fun n6 =>
      ld Try.prog h2 3 (nx h1) (off 0 3) fun v7 =>
      asI .i64 v7 fun n7 =>
      some ((.bool (le (add .i64 n6 (rem .i64 (add .i64 (rem .i64 (sub .i64 (sub .i64 n1 n0) n2) n3) n4) n5)) n7)), h2)))

theorem e82 (rec : Rec) (k : Nat) (v0 : Value) (v1 : Value) (n0 : Int) (n1 : Int) (h : H) : bodyT Try.prog E0 SC (XC Try.prog rec k) 82 (Value × H) [.opq v0, .opq v1, .int .i64 n0, .int .i64 n1] h (fun v h => some (v, h)) = f82 rec k v0 v1 n0 n1 h := by kernel_rfl
theorem t82 {k : Nat} {v0 : Value} {v1 : Value} {n0 : Int} {n1 : Int} {h h1 : H} {v : Value} (hh : f82 rn k v0 v1 n0 n1 h = some (v, h1)) : rn 82 #[v0, v1, .int .i64 n0, .int .i64 n1] h = some (v, trunc Try.prog h h1 v) :=
  run_of_bodyT (args := [.opq v0, .opq v1, .int .i64 n0, .int .i64 n1]) rfl ((e82 _ _ _ _ _ _ _).trans hh)
theorem p82 {k : Nat} {v0 : Value} {v1 : Value} {n0 : Int} {n1 : Int} {h h1 : H} {v : Value} (hh : f82 rn k v0 v1 n0 n1 h = some (v, h1)) (hp : plainO v = true) (x : Ext h h1) : rn 82 #[v0, v1, .int .i64 n0, .int .i64 n1] h = some (v, h) := by rw [t82 hh, trunc_pure hp x]
theorem x82 {k : Nat} {v0 : Value} {v1 : Value} {n0 : Int} {n1 : Int} {h h1 : H} {v : Value} (hh : f82 rn k v0 v1 n0 n1 h = some (v, h1)) (hp : plainO v = false) : rn 82 #[v0, v1, .int .i64 n0, .int .i64 n1] h = some (v, h1) := by rw [t82 hh, trunc_not hp]

noncomputable def f83_l1 (rec : Rec) (_k : Nat) (v1 : Value) (h0 : H) (n0 : Int) (v2 : Value) (n1 : Int) (ws0 : List Value) (h2 : H) : Option (Ex × List Value × H) :=
  asI .i64 (gv ws0 1) fun n2 =>
  ifB (lt n2 n1) (
    asK (gv ws0 1) fun n3 =>
    six v2 n3 4 fun b0 b1 =>
    ld Try.prog h2 89 b0 b1 fun v3 =>
    al h2 89 [(.int .i64 0), (.int .i64 0), (.int .i64 0), (.int .i64 0)] fun h3 =>
    st Try.prog h3 89 (nx h2) 0 v3 fun h4 =>
    ld Try.prog h4 3 (nx h2) 0 fun v4 =>
    asI .i64 v4 fun n4 =>
    ifB (lt n4 n0) (
      ld Try.prog h4 3 (nx h2) (off 0 1) fun v5 =>
      asI .i64 v5 fun n5 =>
      ifB (lt n5 n0) (
        ld Try.prog h4 3 (nx h2) 0 fun v6 =>
        asI .i64 v6 fun n6 =>
        ifB (eq n6 (sub .i64 n0 1)) (
          ld Try.prog h4 47 (nx h0) 0 fun v7 =>
          ld Try.prog h4 89 (nx h2) 0 fun v8 =>
          ld Try.prog h4 3 (nx h2) 0 fun v9 =>
          asI .i64 v9 fun n7 =>
          six v1 n7 1 fun b2 b3 =>
          ld Try.prog h4 3 b2 b3 fun v10 =>
          asI .i64 v10 fun n8 =>
          ld Try.prog h4 3 (nx h2) (off 0 1) fun v11 =>
          asI .i64 v11 fun n9 =>
          six v1 n9 1 fun b4 b5 =>
          ld Try.prog h4 3 b4 b5 fun v12 =>
          asI .i64 v12 fun n10 =>
          calls rec h4 84 [v7, v8, (.int .i64 n8), (.int .i64 n10)] fun v13 h5 =>
          asB v13 fun q0 =>
          ifB (not q0) (
            out .ret [(.slice none 0 0), gv ws0 1] h5) (
            asI .i64 (gv ws0 1) fun n11 =>
            out .normal [gv ws0 0, (.int .i64 (add .i64 n11 1))] h5)) (
          ld Try.prog h4 3 (nx h2) (off 0 1) fun v14 =>
          asI .i64 v14 fun n12 =>
          ifB (eq n12 (sub .i64 n0 1)) (
            ld Try.prog h4 47 (nx h0) 0 fun v15 =>
            ld Try.prog h4 89 (nx h2) 0 fun v16 =>
            ld Try.prog h4 3 (nx h2) 0 fun v17 =>
            asI .i64 v17 fun n13 =>
            six v1 n13 1 fun b6 b7 =>
            ld Try.prog h4 3 b6 b7 fun v18 =>
            asI .i64 v18 fun n14 =>
            ld Try.prog h4 3 (nx h2) (off 0 1) fun v19 =>
            asI .i64 v19 fun n15 =>
            six v1 n15 1 fun b8 b9 =>
            ld Try.prog h4 3 b8 b9 fun v20 =>
            asI .i64 v20 fun n16 =>
            calls rec h4 84 [v15, v16, (.int .i64 n14), (.int .i64 n16)] fun v21 h6 =>
            asB v21 fun q1 =>
            ifB (not q1) (
              out .ret [(.slice none 0 0), gv ws0 1] h6) (
              asI .i64 (gv ws0 1) fun n17 =>
              out .normal [gv ws0 0, (.int .i64 (add .i64 n17 1))] h6)) (
            asI .i64 (gv ws0 1) fun n18 =>
            out .normal [gv ws0 0, (.int .i64 (add .i64 n18 1))] h4))) (
        asI .i64 (gv ws0 1) fun n19 =>
        out .normal [gv ws0 0, (.int .i64 (add .i64 n19 1))] h4)) (
      asI .i64 (gv ws0 1) fun n20 =>
      out .normal [gv ws0 0, (.int .i64 (add .i64 n20 1))] h4)) (
    out (.exit 0) [gv ws0 0, gv ws0 1] h2)

noncomputable def f83_l2 (rec : Rec) (_k : Nat) (v1 : Value) (h0 : H) (n0 : Int) (n22 : Int) (ws2 : List Value) (h8 : H) : Option (Ex × List Value × H) :=
  asI .i64 (gv ws2 1) fun n23 =>
  ifB (lt n23 n22) (
    ld Try.prog h8 47 (nx h0) 0 fun v24 =>
    sli Try.prog h8 22 v1 none (some (.int .i64 n0)) (some (.int .i64 n0)) fun v25 =>
    bls Try.prog h8 22 1 [(0, gv ws2 1)] fun v26 h9 =>
    ck (fres v1 (nx h8) (same h9 h8)) (
      ck (freq (nx h0) (nx h8) (same h9 h8)) (
        app Try.prog h9 22 22 v25 v26 fun v27 h10 =>
        ck (freq (nx h0) (nx h9) (same h10 h9)) (
          calls rec h10 83 [v24, v27] fun v28 h11 =>
          eqv Try.prog 22 v28 (.slice none 0 0) fun q2 =>
          ifB (not q2) (
            out .ret [v28, gv ws2 1] h11) (
            ifB (eq n0 0) (
              out (.exit 2) [gv ws2 0, gv ws2 1] h11) (
              asI .i64 (gv ws2 1) fun n24 =>
              out .normal [gv ws2 0, (.int .i64 (add .i64 n24 1))] h11)))))) (
    out (.exit 2) [gv ws2 0, gv ws2 1] h8)

noncomputable def f83 (rec : Rec) (k : Nat) (v0 : Value) (v1 : Value) (h0 : H) : Option (Value × H) :=
  bx h0 47 v0 fun h1 =>
  len v1 fun n0 =>
  ld Try.prog h1 45 (nx h0) (off 0 2) fun v2 =>
  len v2 fun n1 =>
  lp k (f83_l1 rec k v1 h0 n0 v2 n1) [(.slice none 0 0), (.int .i64 0)] h1 fun e0 ws1 h7 =>
  onE e0 0 (
    ld Try.prog h7 3 (nx h0) (off 0 1) fun v22 =>
    asI .i64 v22 fun n21 =>
    ifB (eq n0 n21) (
      some (v1, h7)) (
      ld Try.prog h7 3 (nx h0) 0 fun v23 =>
      asI .i64 v23 fun n22 =>
      lp k (f83_l2 rec k v1 h0 n0 n22) [gv ws1 0, (.int .i64 0)] h7 fun e1 ws3 h12 =>
      onE e1 2 (
        some ((.slice none 0 0), h12)) (
        onR e1 (
          some (gv ws3 0, h12))))) (
    onR e0 (
      some (gv ws1 0, h7)))

theorem e83 (rec : Rec) (k : Nat) (v0 : Value) (v1 : Value) (h : H) : bodyT Try.prog E0 SC (XC Try.prog rec k) 83 (Value × H) [.opq v0, .opq v1] h (fun v h => some (v, h)) = f83 rec k v0 v1 h := by kernel_rfl
theorem t83 {k : Nat} {v0 : Value} {v1 : Value} {h h1 : H} {v : Value} (hh : f83 rn k v0 v1 h = some (v, h1)) : rn 83 #[v0, v1] h = some (v, trunc Try.prog h h1 v) :=
  run_of_bodyT (args := [.opq v0, .opq v1]) rfl ((e83 _ _ _ _ _).trans hh)
theorem p83 {k : Nat} {v0 : Value} {v1 : Value} {h h1 : H} {v : Value} (hh : f83 rn k v0 v1 h = some (v, h1)) (hp : plainO v = true) (x : Ext h h1) : rn 83 #[v0, v1] h = some (v, h) := by rw [t83 hh, trunc_pure hp x]
theorem x83 {k : Nat} {v0 : Value} {v1 : Value} {h h1 : H} {v : Value} (hh : f83 rn k v0 v1 h = some (v, h1)) (hp : plainO v = false) : rn 83 #[v0, v1] h = some (v, h1) := by rw [t83 hh, trunc_not hp]

noncomputable def f84_l1 (_rec : Rec) (_k : Nat) (n0 : Int) (n1 : Int) (h0 : H) (h1 : H) (ws0 : List Value) (h3 : H) : Option (Ex × List Value × H) :=
  ld Try.prog h3 3 (nx h1) (off 0 3) fun v3 =>
  asI .i64 v3 fun n3 =>
  asI .i64 (gv ws0 1) fun n4 =>
  ifB (le n4 n3) (
    asI .i64 (gv ws0 1) fun n5 =>
    ld Try.prog h3 3 (nx h0) 0 fun v4 =>
    asI .i64 v4 fun n6 =>
    nz n6 (
      ifB (eq (rem .i64 (sub .i64 (sub .i64 n1 n0) n5) n6) 0) (
        out .ret [(.bool true), gv ws0 1] h3) (
        asI .i64 (gv ws0 1) fun n7 =>
        out .normal [gv ws0 0, (.int .i64 (add .i64 n7 1))] h3))) (
    out (.exit 0) [gv ws0 0, gv ws0 1] h3)

noncomputable def f84 (rec : Rec) (k : Nat) (v0 : Value) (v1 : Value) (n0 : Int) (n1 : Int) (h0 : H) : Option (Value × H) :=
  bx h0 47 v0 fun h1 =>
  bx h1 89 v1 fun h2 =>
  ld Try.prog h2 3 (nx h1) (off 0 2) fun v2 =>
  asI .i64 v2 fun n2 =>
  lp k (f84_l1 rec k n0 n1 h0 h1) [(.bool false), (.int .i64 n2)] h2 fun e0 ws1 h4 =>
  onE e0 0 (
    some ((.bool false), h4)) (
    onR e0 (
      some (gv ws1 0, h4)))

theorem e84 (rec : Rec) (k : Nat) (v0 : Value) (v1 : Value) (n0 : Int) (n1 : Int) (h : H) : bodyT Try.prog E0 SC (XC Try.prog rec k) 84 (Value × H) [.opq v0, .opq v1, .int .i64 n0, .int .i64 n1] h (fun v h => some (v, h)) = f84 rec k v0 v1 n0 n1 h := by kernel_rfl
theorem t84 {k : Nat} {v0 : Value} {v1 : Value} {n0 : Int} {n1 : Int} {h h1 : H} {v : Value} (hh : f84 rn k v0 v1 n0 n1 h = some (v, h1)) : rn 84 #[v0, v1, .int .i64 n0, .int .i64 n1] h = some (v, trunc Try.prog h h1 v) :=
  run_of_bodyT (args := [.opq v0, .opq v1, .int .i64 n0, .int .i64 n1]) rfl ((e84 _ _ _ _ _ _ _).trans hh)
theorem p84 {k : Nat} {v0 : Value} {v1 : Value} {n0 : Int} {n1 : Int} {h h1 : H} {v : Value} (hh : f84 rn k v0 v1 n0 n1 h = some (v, h1)) (hp : plainO v = true) (x : Ext h h1) : rn 84 #[v0, v1, .int .i64 n0, .int .i64 n1] h = some (v, h) := by rw [t84 hh, trunc_pure hp x]
theorem x84 {k : Nat} {v0 : Value} {v1 : Value} {n0 : Int} {n1 : Int} {h h1 : H} {v : Value} (hh : f84 rn k v0 v1 n0 n1 h = some (v, h1)) (hp : plainO v = false) : rn 84 #[v0, v1, .int .i64 n0, .int .i64 n1] h = some (v, h1) := by rw [t84 hh, trunc_not hp]

noncomputable def f98_l2 (rec : Rec) (_k : Nat) (v0 : Value) (v1 : Value) (v2 : Value) (n0 : Int) (v10 : Value) (n4 : Int) (ws1 : List Value) (h5 : H) : Option (Ex × List Value × H) :=
  asI .i64 (gv ws1 1) fun n5 =>
  ifB (lt n5 n4) (
    asK (gv ws1 1) fun n6 =>
    six v10 n6 4 fun b12 b13 =>
    ld Try.prog h5 67 b12 b13 fun v11 =>
    al h5 67 [(.int .i64 0), (.int .i64 0), (.int .i64 0), (.int .i64 0)] fun h6 =>
    st Try.prog h6 67 (nx h5) 0 v11 fun h7 =>
    asP v2 fun b14 b15 =>
    ld Try.prog h7 3 b14 b15 fun v12 =>
    asI .i64 v12 fun n7 =>
    asK (gv ws1 1) fun n8 =>
    nn n8 (
      ifB (eq (and .i64 (shr .i64 n7 n8) 1) 1) (
        ld Try.prog h7 3 (nx h5) 0 fun v13 =>
        asI .i64 v13 fun n9 =>
        ld Try.prog h7 3 (nx h5) (off 0 1) fun v14 =>
        asI .i64 v14 fun n10 =>
        ifB (eq (imax n9 n10) n0) (
          asB (gv ws1 0) fun q0 =>
          ifB q0 (
            asP v1 fun _ _ =>
            asP v1 fun b18 b19 =>
            ld Try.prog h7 52 b18 b19 fun v15 =>
            ld Try.prog h7 67 (nx h5) 0 fun v16 =>
            asP v0 fun _ _ =>
            asP v0 fun b22 b23 =>
            ld Try.prog h7 22 b22 b23 fun v17 =>
            ld Try.prog h7 3 (nx h5) 0 fun v18 =>
            asI .i64 v18 fun n11 =>
            six v17 n11 1 fun b24 b25 =>
            ld Try.prog h7 3 b24 b25 fun v19 =>
            asI .i64 v19 fun n12 =>
            asP v0 fun _ _ =>
            asP v0 fun b28 b29 =>
            ld Try.prog h7 22 b28 b29 fun v20 =>
            ld Try.prog h7 3 (nx h5) (off 0 1) fun v21 =>
            asI .i64 v21 fun n13 =>
            six v20 n13 1 fun b30 b31 =>
            ld Try.prog h7 3 b30 b31 fun v22 =>
            asI .i64 v22 fun n14 =>
            calls rec h7 82 [v15, v16, (.int .i64 n12), (.int .i64 n14)] fun v23 h8 =>
            asB v23 fun q1 =>
            asI .i64 (gv ws1 1) fun n15 =>
            out .normal [(.bool q1), (.int .i64 (add .i64 n15 1))] h8) (
            asI .i64 (gv ws1 1) fun n16 =>
            out .normal [(.bool false), (.int .i64 (add .i64 n16 1))] h7)) (
          asI .i64 (gv ws1 1) fun n17 =>
          out .normal [gv ws1 0, (.int .i64 (add .i64 n17 1))] h7)) (
        asI .i64 (gv ws1 1) fun n18 =>
        out .normal [gv ws1 0, (.int .i64 (add .i64 n18 1))] h7))) (
    out (.exit 2) [gv ws1 0, gv ws1 1] h5)

noncomputable def f98_l1 (rec : Rec) (k : Nat) (v0 : Value) (v1 : Value) (v2 : Value) (v3 : Value) (n0 : Int) (n2 : Int) (ws0 : List Value) (h1 : H) : Option (Ex × List Value × H) :=
  asI .i64 (gv ws0 1) fun n3 =>
  ifB (lt n3 n2) (
    asP v0 fun b6 b7 =>
    ld Try.prog h1 22 b6 b7 fun v7 =>
    bls Try.prog h1 22 1 [(0, gv ws0 1)] fun v8 h2 =>
    app Try.prog h2 22 22 v7 v8 fun v9 h3 =>
    asP v0 fun b8 b9 =>
    st Try.prog h3 22 b8 b9 v9 fun h4 =>
    asP v1 fun b10 b11 =>
    ld Try.prog h4 50 b10 (off b11 2) fun v10 =>
    len v10 fun n4 =>
    lp k (f98_l2 rec k v0 v1 v2 n0 v10 n4) [(.bool true), (.int .i64 0)] h4 fun e0 ws2 h9 =>
    onE e0 2 (
      asB (gv ws2 0) fun q2 =>
      ifB q2 (
        asP v3 fun b32 b33 =>
        ld Try.prog h9 27 b32 b33 fun v24 =>
        callsV rec h9 v24 [] fun v25 h10 =>
        asB v25 fun q3 =>
        ifB q3 (
          out .ret [(.bool true), gv ws0 1] h10) (
          asP v0 fun b34 b35 =>
          ld Try.prog h10 22 b34 b35 fun v26 =>
          sli Try.prog h10 22 v26 none (some (.int .i64 n0)) none fun v27 =>
          asP v0 fun b36 b37 =>
          st Try.prog h10 22 b36 b37 v27 fun h11 =>
          asI .i64 (gv ws0 1) fun n19 =>
          out .normal [gv ws0 0, (.int .i64 (add .i64 n19 1))] h11)) (
        asP v0 fun b38 b39 =>
        ld Try.prog h9 22 b38 b39 fun v28 =>
        sli Try.prog h9 22 v28 none (some (.int .i64 n0)) none fun v29 =>
        asP v0 fun b40 b41 =>
        st Try.prog h9 22 b40 b41 v29 fun h12 =>
        asI .i64 (gv ws0 1) fun n20 =>
        out .normal [gv ws0 0, (.int .i64 (add .i64 n20 1))] h12)) (
      none)) (
    out (.exit 0) [gv ws0 0, gv ws0 1] h1)

noncomputable def f98 (rec : Rec) (k : Nat) (v0 : Value) (v1 : Value) (v2 : Value) (v3 : Value) (h0 : H) : Option (Value × H) :=
  asP v0 fun b0 b1 =>
  ld Try.prog h0 22 b0 b1 fun v4 =>
  len v4 fun n0 =>
  asP v1 fun b2 b3 =>
  ld Try.prog h0 3 b2 (off b3 1) fun v5 =>
  asI .i64 v5 fun n1 =>
  ifB (eq n0 n1) (
    some ((.bool true), h0)) (
    asP v1 fun b4 b5 =>
    ld Try.prog h0 3 b4 b5 fun v6 =>
    asI .i64 v6 fun n2 =>
    lp k (f98_l1 rec k v0 v1 v2 v3 n0 n2) [(.bool false), (.int .i64 0)] h0 fun e1 ws3 h13 =>
    onE e1 0 (
      some ((.bool false), h13)) (
      onR e1 (
        some (gv ws3 0, h13))))

theorem e98 (rec : Rec) (k : Nat) (v0 : Value) (v1 : Value) (v2 : Value) (v3 : Value) (h : H) : bodyT Try.prog E0 SC (XC Try.prog rec k) 98 (Value × H) [.opq v0, .opq v1, .opq v2, .opq v3] h (fun v h => some (v, h)) = f98 rec k v0 v1 v2 v3 h := by kernel_rfl
theorem t98 {k : Nat} {v0 : Value} {v1 : Value} {v2 : Value} {v3 : Value} {h h1 : H} {v : Value} (hh : f98 rn k v0 v1 v2 v3 h = some (v, h1)) : rn 98 #[v0, v1, v2, v3] h = some (v, trunc Try.prog h h1 v) :=
  run_of_bodyT (args := [.opq v0, .opq v1, .opq v2, .opq v3]) rfl ((e98 _ _ _ _ _ _ _).trans hh)
theorem p98 {k : Nat} {v0 : Value} {v1 : Value} {v2 : Value} {v3 : Value} {h h1 : H} {v : Value} (hh : f98 rn k v0 v1 v2 v3 h = some (v, h1)) (hp : plainO v = true) (x : Ext h h1) : rn 98 #[v0, v1, v2, v3] h = some (v, h) := by rw [t98 hh, trunc_pure hp x]
theorem x98 {k : Nat} {v0 : Value} {v1 : Value} {v2 : Value} {v3 : Value} {h h1 : H} {v : Value} (hh : f98 rn k v0 v1 v2 v3 h = some (v, h1)) (hp : plainO v = false) : rn 98 #[v0, v1, v2, v3] h = some (v, h1) := by rw [t98 hh, trunc_not hp]

end Go.AM
