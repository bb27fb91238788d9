/- The staged forms of functions 11, 12, 41, 42, 43, 44, 45, 46, 75, 76, 95, 96, 97, and what calls of these answer. -/
import Derived.Test.YtnhmgokjijlhbaaSx
namespace Go.AM
open Go.Proofs

noncomputable def f11 (rec : Rec) (_k : Nat) (v0 : Value) (v1 : Value) (n0 : Int) (h0 : H) : Option (Value × H) :=
  calls rec h0 18 [v0] fun v2 h1 =>
  calls rec h1 41 [v2] fun v3 h2 =>
  ext v3 0 fun v4 =>
  asI .i64 v4 fun n1 =>
  ext v3 1 fun v5 =>
  asI .i64 v5 fun n2 =>
  calls rec h2 18 [v0] fun v6 h3 =>
  calls rec h3 42 [v6] fun v7 h4 =>
  ext v7 0 fun v8 =>
  ext v7 1 fun v9 =>
  asI .i64 v9 fun n3 =>
  calls rec h4 18 [v0] fun v10 h5 =>
  calls rec h5 30 [v1] fun v11 h6 =>
  calls rec h6 43 [v10, v11, (.int .i64 n0)] fun v12 h7 =>
  ext v12 0 fun v13 =>
  asB v13 fun q0 =>
  ext v12 1 fun v14 =>
  asI .i64 v14 fun n4 =>
  calls rec h7 44 [v0] fun v15 h8 =>
  asB v15 fun q1 =>
  ifB (not q1) (
    ifB (eq n1 0) (
      len v8 fun n5 =>
      ifB (eq n5 0) (
        ifB (not q0) (
          ifB (eq n2 2) (
            ifB (eq n3 2) (
              ifB (eq n4 2) (
                calls rec h8 19 [] fun v16 h9 =>
                asB v16 fun q2 =>
                some ((.bool q2), h9)) (
                some ((.bool false), h8))) (
              some ((.bool false), h8))) (
            some ((.bool false), h8))) (
          some ((.bool false), h8))) (
        some ((.bool false), h8))) (
      some ((.bool false), h8))) (
    calls rec h8 45 [v0] fun v17 h10 =>
    asI .i64 v17 fun n6 =>
    ifB (eq n1 n6) (
      ifB (eq n2 0) (
        calls rec h10 46 [v0, v8, (.int .i64 n6)] fun v18 h11 =>
        asB v18 fun q3 =>
        ifB q3 (
          ifB (eq n3 0) (
            calls rec h11 46 [v0, v1, (.int .i64 n0)] fun v19 h12 =>
            asB v19 fun q4 =>
            eqv Try.prog 4 (.bool q0) (.bool q4) fun q5 =>
            ifB q5 (
              ifB (eq n4 0) (
                calls rec h12 19 [] fun v20 h13 =>
                asB v20 fun q6 =>
                some ((.bool q6), h13)) (
                some ((.bool false), h12))) (
              some ((.bool false), h12))) (
            some ((.bool false), h11))) (
          some ((.bool false), h11))) (
        some ((.bool false), h10))) (
      some ((.bool false), h10)))

theorem e11 (rec : Rec) (k : Nat) (v0 : Value) (v1 : Value) (n0 : Int) (h : H) : bodyT Try.prog E0 SC (XC Try.prog rec k) 11 (Value × H) [.opq v0, .opq v1, .int .i64 n0] h (fun v h => some (v, h)) = f11 rec k v0 v1 n0 h := by kernel_rfl
theorem t11 {k : Nat} {v0 : Value} {v1 : Value} {n0 : Int} {h h1 : H} {v : Value} (hh : f11 rn k v0 v1 n0 h = some (v, h1)) : rn 11 #[v0, v1, .int .i64 n0] h = some (v, trunc Try.prog h h1 v) :=
  run_of_bodyT (args := [.opq v0, .opq v1, .int .i64 n0]) rfl ((e11 _ _ _ _ _ _).trans hh)
theorem p11 {k : Nat} {v0 : Value} {v1 : Value} {n0 : Int} {h h1 : H} {v : Value} (hh : f11 rn k v0 v1 n0 h = some (v, h1)) (hp : plainO v = true) (x : Ext h h1) : rn 11 #[v0, v1, .int .i64 n0] h = some (v, h) := by rw [t11 hh, trunc_pure hp x]
theorem x11 {k : Nat} {v0 : Value} {v1 : Value} {n0 : Int} {h h1 : H} {v : Value} (hh : f11 rn k v0 v1 n0 h = some (v, h1)) (hp : plainO v = false) : rn 11 #[v0, v1, .int .i64 n0] h = some (v, h1) := by rw [t11 hh, trunc_not hp]

noncomputable def f12_l1 (_rec : Rec) (_k : Nat) (v0 : Value) (n3 : Int) (ws0 : List Value) (h6 : H) : Option (Ex × List Value × H) :=
  asI .i64 (gv ws0 1) fun n4 =>
  ifB (lt n4 n3) (
    asK (gv ws0 1) fun n5 =>
    six v0 n5 1 fun b0 b1 =>
    ld Try.prog h6 3 b0 b1 fun v11 =>
    asI .i64 v11 fun n6 =>
    asI .i64 (gv ws0 0) fun n7 =>
    asI .i64 (gv ws0 1) fun n8 =>
    out .normal [(.int .i64 (add .i64 n7 n6)), (.int .i64 (add .i64 n8 1))] h6) (
    out (.exit 0) [gv ws0 0, gv ws0 1] h6)

noncomputable def f12_l2 (rec : Rec) (_k : Nat) (v0 : Value) (n0 : Int) (v17 : Value) (n12 : Int) (ws2 : List Value) (h12 : H) : Option (Ex × List Value × H) :=
  asI .i64 (gv ws2 1) fun n13 =>
  ifB (lt n13 n12) (
    asK (gv ws2 1) fun n14 =>
    six v17 n14 1 fun b2 b3 =>
    ld Try.prog h12 22 b2 b3 fun v18 =>
    calls rec h12 18 [v0] fun v19 h13 =>
    calls rec h13 30 [v18] fun v20 h14 =>
    calls rec h14 43 [v19, v20, (.int .i64 (sub .i64 n0 1))] fun v21 h15 =>
    ext v21 0 fun v22 =>
    asB v22 fun q2 =>
    ext v21 1 fun v23 =>
    asI .i64 v23 fun n15 =>
    ifB q2 (
      out .ret [(.bool false), gv ws2 1] h15) (
      ifB (not (eq n15 0)) (
        out .ret [(.bool false), gv ws2 1] h15) (
        asI .i64 (gv ws2 1) fun n16 =>
        out .normal [gv ws2 0, (.int .i64 (add .i64 n16 1))] h15))) (
    out (.exit 2) [gv ws2 0, gv ws2 1] h12)

noncomputable def f12 (rec : Rec) (k : Nat) (v0 : Value) (v1 : Value) (h0 : H) : Option (Value × H) :=
  calls rec h0 18 [v0] fun v2 h1 =>
  calls rec h1 41 [v2] fun v3 h2 =>
  ext v3 0 fun v4 =>
  asI .i64 v4 fun n0 =>
  ext v3 1 fun v5 =>
  asI .i64 v5 fun n1 =>
  calls rec h2 18 [v0] fun v6 h3 =>
  calls rec h3 42 [v6] fun v7 h4 =>
  ext v7 0 fun v8 =>
  ext v7 1 fun v9 =>
  asI .i64 v9 fun n2 =>
  ifB (not (eq n1 0)) (
    ifB (eq n1 2) (
      ifB (eq n2 2) (
        calls rec h4 19 [] fun v10 h5 =>
        asB v10 fun q0 =>
        some ((.bool q0), h5)) (
        some ((.bool false), h4))) (
      some ((.bool false), h4))) (
    len v0 fun n3 =>
    lp k (f12_l1 rec k v0 n3) [(.int .i64 0), (.int .i64 0)] h4 fun e0 ws1 h7 =>
    onE e0 0 (
      calls rec h7 18 [v0] fun v12 h8 =>
      calls rec h8 30 [v8] fun v13 h9 =>
      calls rec h9 43 [v12, v13, (.int .i64 n0)] fun v14 h10 =>
      ext v14 0 fun v15 =>
      asB v15 fun q1 =>
      ext v14 1 fun v16 =>
      asI .i64 v16 fun n9 =>
      ifB (not (eq n2 0)) (
        some ((.bool false), h10)) (
        ifB (not (eq n9 0)) (
          some ((.bool false), h10)) (
          ifB (not q1) (
            some ((.bool false), h10)) (
            asI .i64 (gv ws1 0) fun n10 =>
            ifB (lt n0 n10) (
              some ((.bool false), h10)) (
              asI .i64 (gv ws1 0) fun n11 =>
              ifB (lt (mul .i64 2 n11) n0) (
                some ((.bool false), h10)) (
                bls Try.prog h10 60 2 [(0, v8), (1, v1)] fun v17 h11 =>
                len v17 fun n12 =>
                lp k (f12_l2 rec k v0 n0 v17 n12) [(.bool false), (.int .i64 0)] h11 fun e1 ws3 h16 =>
                onE e1 2 (
                  calls rec h16 19 [] fun v24 h17 =>
                  asB v24 fun q3 =>
                  some ((.bool q3), h17)) (
                  onR e1 (
                    some (gv ws3 0, h16))))))))) (
      none))

theorem e12 (rec : Rec) (k : Nat) (v0 : Value) (v1 : Value) (h : H) : bodyT Try.prog E0 SC (XC Try.prog rec k) 12 (Value × H) [.opq v0, .opq v1] h (fun v h => some (v, h)) = f12 rec k v0 v1 h := by kernel_rfl
theorem t12 {k : Nat} {v0 : Value} {v1 : Value} {h h1 : H} {v : Value} (hh : f12 rn k v0 v1 h = some (v, h1)) : rn 12 #[v0, v1] h = some (v, trunc Try.prog h h1 v) :=
  run_of_bodyT (args := [.opq v0, .opq v1]) rfl ((e12 _ _ _ _ _).trans hh)
theorem p12 {k : Nat} {v0 : Value} {v1 : Value} {h h1 : H} {v : Value} (hh : f12 rn k v0 v1 h = some (v, h1)) (hp : plainO v = true) (x : Ext h h1) : rn 12 #[v0, v1] h = some (v, h) := by rw [t12 hh, trunc_pure hp x]
theorem x12 {k : Nat} {v0 : Value} {v1 : Value} {h h1 : H} {v : Value} (hh : f12 rn k v0 v1 h = some (v, h1)) (hp : plainO v = false) : rn 12 #[v0, v1] h = some (v, h1) := by rw [t12 hh, trunc_not hp]

noncomputable def f41 (rec : Rec) (_k : Nat) (v0 : Value) (h0 : H) : Option (Value × H) :=
  calls rec h0 75 [v0] fun v1 h1 =>
  asB v1 fun q0 =>
  ifB (not q0) (
    some ((.tuple #[(.int .i64 0), (.int .i64 2)]), h1)) (
    calls rec h1 76 [v0] fun v2 h2 =>
    ext v2 0 fun v3 =>
    asI .i64 v3 fun n0 =>
    ext v2 1 fun _ =>
    some ((.tuple #[(.int .i64 n0), (.int .i64 0)]), h2))

theorem e41 (rec : Rec) (k : Nat) (v0 : Value) (h : H) : bodyT Try.prog E0 SC (XC Try.prog rec k) 41 (Value × H) [.opq v0] h (fun v h => some (v, h)) = f41 rec k v0 h := by kernel_rfl
theorem t41 {k : Nat} {v0 : Value} {h h1 : H} {v : Value} (hh : f41 rn k v0 h = some (v, h1)) : rn 41 #[v0] h = some (v, trunc Try.prog h h1 v) :=
  run_of_bodyT (args := [.opq v0]) rfl ((e41 _ _ _ _).trans hh)
theorem p41 {k : Nat} {v0 : Value} {h h1 : H} {v : Value} (hh : f41 rn k v0 h = some (v, h1)) (hp : plainO v = true) (x : Ext h h1) : rn 41 #[v0] h = some (v, h) := by rw [t41 hh, trunc_pure hp x]
theorem x41 {k : Nat} {v0 : Value} {h h1 : H} {v : Value} (hh : f41 rn k v0 h = some (v, h1)) (hp : plainO v = false) : rn 41 #[v0] h = some (v, h1) := by rw [t41 hh, trunc_not hp]

noncomputable def f42 (rec : Rec) (_k : Nat) (v0 : Value) (h0 : H) : Option (Value × H) :=
  calls rec h0 75 [v0] fun v1 h1 =>
  asB v1 fun q0 =>
  ifB (not q0) (
    some ((.tuple #[(.slice none 0 0), (.int .i64 2)]), h1)) (
    calls rec h1 76 [v0] fun v2 h2 =>
    ext v2 0 fun v3 =>
    asI .i64 v3 fun _ =>
    ext v2 1 fun v4 =>
    some ((.tuple #[v4, (.int .i64 0)]), h2))

theorem e42 (rec : Rec) (k : Nat) (v0 : Value) (h : H) : bodyT Try.prog E0 SC (XC Try.prog rec k) 42 (Value × H) [.opq v0] h (fun v h => some (v, h)) = f42 rec k v0 h := by kernel_rfl
theorem t42 {k : Nat} {v0 : Value} {h h1 : H} {v : Value} (hh : f42 rn k v0 h = some (v, h1)) : rn 42 #[v0] h = some (v, trunc Try.prog h h1 v) :=
  run_of_bodyT (args := [.opq v0]) rfl ((e42 _ _ _ _).trans hh)
theorem p42 {k : Nat} {v0 : Value} {h h1 : H} {v : Value} (hh : f42 rn k v0 h = some (v, h1)) (hp : plainO v = true) (x : Ext h h1) : rn 42 #[v0] h = some (v, h) := by rw [t42 hh, trunc_pure hp x]
theorem x42 {k : Nat} {v0 : Value} {h h1 : H} {v : Value} (hh : f42 rn k v0 h = some (v, h1)) (hp : plainO v = false) : rn 42 #[v0] h = some (v, h1) := by rw [t42 hh, trunc_not hp]

noncomputable def f43_l1 (rec : Rec) (_k : Nat) (v0 : Value) (v1 : Value) (n0 : Int) (n2 : Int) (ws0 : List Value) (h3 : H) : Option (Ex × List Value × H) :=
  asI .i64 (gv ws0 2) fun n3 =>
  ifB (lt n3 n2) (
    asK (gv ws0 2) fun n4 =>
    six v0 n4 1 fun b0 b1 =>
    ld Try.prog h3 3 b0 b1 fun v4 =>
    asI .i64 v4 fun n5 =>
    calls rec h3 69 [v1, gv ws0 2] fun v5 h4 =>
    asI .i64 v5 fun n6 =>
    ifB (eq n6 0) (
      out .ret [(.bool false), (.int .i64 0), gv ws0 2] h4) (
      ifB (lt n0 (mul .i64 n6 n5)) (
        out .ret [(.bool false), (.int .i64 0), gv ws0 2] h4) (
        asI .i64 (gv ws0 2) fun n7 =>
        out .normal [gv ws0 0, gv ws0 1, (.int .i64 (add .i64 n7 1))] h4))) (
    out (.exit 0) [gv ws0 0, gv ws0 1, gv ws0 2] h3)

noncomputable def f43 (rec : Rec) (k : Nat) (v0 : Value) (v1 : Value) (n0 : Int) (h0 : H) : Option (Value × H) :=
  calls rec h0 75 [v0] fun v2 h1 =>
  asB v2 fun q0 =>
  ifB (not q0) (
    some ((.tuple #[(.bool false), (.int .i64 2)]), h1)) (
    len v0 fun n1 =>
    calls rec h1 68 [v1, (.int .i64 n1), (.int .i64 20000)] fun v3 h2 =>
    asB v3 fun q1 =>
    ifB (not q1) (
      some ((.tuple #[(.bool false), (.int .i64 0)]), h2)) (
      len v0 fun n2 =>
      lp k (f43_l1 rec k v0 v1 n0 n2) [(.bool false), (.int .i64 0), (.int .i64 0)] h2 fun e0 ws1 h5 =>
      onE e0 0 (
        some ((.tuple #[(.bool true), (.int .i64 0)]), h5)) (
        onR e0 (
          some ((.tuple #[gv ws1 0, gv ws1 1]), h5)))))

theorem e43 (rec : Rec) (k : Nat) (v0 : Value) (v1 : Value) (n0 : Int) (h : H) : bodyT Try.prog E0 SC (XC Try.prog rec k) 43 (Value × H) [.opq v0, .opq v1, .int .i64 n0] h (fun v h => some (v, h)) = f43 rec k v0 v1 n0 h := by kernel_rfl
theorem t43 {k : Nat} {v0 : Value} {v1 : Value} {n0 : Int} {h h1 : H} {v : Value} (hh : f43 rn k v0 v1 n0 h = some (v, h1)) : rn 43 #[v0, v1, .int .i64 n0] h = some (v, trunc Try.prog h h1 v) :=
  run_of_bodyT (args := [.opq v0, .opq v1, .int .i64 n0]) rfl ((e43 _ _ _ _ _ _).trans hh)
theorem p43 {k : Nat} {v0 : Value} {v1 : Value} {n0 : Int} {h h1 : H} {v : Value} (hh : f43 rn k v0 v1 n0 h = some (v, h1)) (hp : plainO v = true) (x : Ext h h1) : rn 43 #[v0, v1, .int .i64 n0] h = some (v, h) := by rw [t43 hh, trunc_pure hp x]
theorem x43 {k : Nat} {v0 : Value} {v1 : Value} {n0 : Int} {h h1 : H} {v : Value} (hh : f43 rn k v0 v1 n0 h = some (v, h1)) (hp : plainO v = false) : rn 43 #[v0, v1, .int .i64 n0] h = some (v, h1) := by rw [t43 hh, trunc_not hp]

noncomputable def f44_l1 (_rec : Rec) (_k : Nat) (v0 : Value) (n0 : Int) (ws0 : List Value) (h1 : H) : Option (Ex × List Value × H) :=
  asI .i64 (gv ws0 1) fun n1 =>
  ifB (lt n1 n0) (
    asK (gv ws0 1) fun n2 =>
    six v0 n2 1 fun b0 b1 =>
    ld Try.prog h1 3 b0 b1 fun v1 =>
    asI .i64 v1 fun n3 =>
    ifB (lt n3 1) (
      out .ret [(.bool false), gv ws0 1] h1) (
      ifB (lt 5 n3) (
        out .ret [(.bool false), gv ws0 1] h1) (
        asI .i64 (gv ws0 1) fun n4 =>
        out .normal [gv ws0 0, (.int .i64 (add .i64 n4 1))] h1))) (
    out (.exit 0) [gv ws0 0, gv ws0 1] h1)

noncomputable def f44 (rec : Rec) (k : Nat) (v0 : Value) (h0 : H) : Option (Value × H) :=
  len v0 fun n0 =>
  lp k (f44_l1 rec k v0 n0) [(.bool false), (.int .i64 0)] h0 fun e0 ws1 h2 =>
  onE e0 0 (
    len v0 fun n5 =>
    ifB (le 1 n5) (
      len v0 fun n6 =>
      some ((.bool (le n6 4)), h2)) (
      some ((.bool false), h2))) (
    onR e0 (
      some (gv ws1 0, h2)))

theorem e44 (rec : Rec) (k : Nat) (v0 : Value) (h : H) : bodyT Try.prog E0 SC (XC Try.prog rec k) 44 (Value × H) [.opq v0] h (fun v h => some (v, h)) = f44 rec k v0 h := by kernel_rfl
theorem t44 {k : Nat} {v0 : Value} {h h1 : H} {v : Value} (hh : f44 rn k v0 h = some (v, h1)) : rn 44 #[v0] h = some (v, trunc Try.prog h h1 v) :=
  run_of_bodyT (args := [.opq v0]) rfl ((e44 _ _ _ _).trans hh)
theorem p44 {k : Nat} {v0 : Value} {h h1 : H} {v : Value} (hh : f44 rn k v0 h = some (v, h1)) (hp : plainO v = true) (x : Ext h h1) : rn 44 #[v0] h = some (v, h) := by rw [t44 hh, trunc_pure hp x]
theorem x44 {k : Nat} {v0 : Value} {h h1 : H} {v : Value} (hh : f44 rn k v0 h = some (v, h1)) (hp : plainO v = false) : rn 44 #[v0] h = some (v, h1) := by rw [t44 hh, trunc_not hp]

noncomputable def f45_l1 (_rec : Rec) (_k : Nat) (v0 : Value) (n0 : Int) (ws0 : List Value) (h1 : H) : Option (Ex × List Value × H) :=
  asI .i64 (gv ws0 1) fun n1 =>
  ifB (lt n1 n0) (
    asK (gv ws0 1) fun n2 =>
    six v0 n2 1 fun b0 b1 =>
    ld Try.prog h1 3 b0 b1 fun v1 =>
    asI .i64 v1 fun n3 =>
    asI .i64 (gv ws0 0) fun n4 =>
    asI .i64 (gv ws0 1) fun n5 =>
    out .normal [(.int .i64 (add .i64 n4 n3)), (.int .i64 (add .i64 n5 1))] h1) (
    out (.exit 0) [gv ws0 0, gv ws0 1] h1)

noncomputable def f45_l3 (_rec : Rec) (_k : Nat) (v0 : Value) (ws2 : List Value) (n6 : Int) (ws3 : List Value) (h4 : H) : Option (Ex × List Value × H) :=
  asI .i64 (gv ws3 1) fun n7 =>
  ifB (lt n7 n6) (
    asK (gv ws3 1) fun n8 =>
    six v0 n8 1 fun b2 b3 =>
    ld Try.prog h4 3 b2 b3 fun v2 =>
    asI .i64 v2 fun n9 =>
    asI .i64 (gv ws2 1) fun n10 =>
    nz n9 (
      bls Try.prog h4 22 1 [(0, (.int .i64 (quo .i64 n10 n9)))] fun v3 h5 =>
      app Try.prog h5 22 22 (gv ws3 0) v3 fun v4 h6 =>
      asI .i64 (gv ws3 1) fun n11 =>
      out .normal [v4, (.int .i64 (add .i64 n11 1))] h6)) (
    out (.exit 4) [gv ws3 0, gv ws3 1] h4)

noncomputable def f45_l2 (rec : Rec) (k : Nat) (v0 : Value) (ws2 : List Value) (h3 : H) : Option (Ex × List Value × H) :=
  len v0 fun n6 =>
  lp k (f45_l3 rec k v0 ws2 n6) [(.slice none 0 0), (.int .i64 0)] h3 fun e1 ws4 h7 =>
  onE e1 4 (
    calls rec h7 62 [gv ws4 0] fun v5 h8 =>
    calls rec h8 63 [gv ws4 0, gv ws4 0] fun v6 h9 =>
    asI .i64 v6 fun n12 =>
    six v5 n12 1 fun b4 b5 =>
    ld Try.prog h9 3 b4 b5 fun v7 =>
    asI .i64 v7 fun n13 =>
    ifB (lt n13 0) (
      out .ret [gv ws2 1, gv ws2 1] h9) (
      asI .i64 (gv ws2 1) fun n14 =>
      out .normal [gv ws2 0, (.int .i64 (add .i64 n14 1))] h9)) (
    none)

noncomputable def f45 (rec : Rec) (k : Nat) (v0 : Value) (h0 : H) : Option (Value × H) :=
  len v0 fun n0 =>
  lp k (f45_l1 rec k v0 n0) [(.int .i64 0), (.int .i64 0)] h0 fun e0 ws1 h2 =>
  onE e0 0 (
    lp k (f45_l2 rec k v0) [(.int .i64 0), gv ws1 0] h2 fun e2 ws5 h10 =>
    onR e2 (
      some (gv ws5 0, h10))) (
    none)

theorem e45 (rec : Rec) (k : Nat) (v0 : Value) (h : H) : bodyT Try.prog E0 SC (XC Try.prog rec k) 45 (Value × H) [.opq v0] h (fun v h => some (v, h)) = f45 rec k v0 h := by kernel_rfl
theorem t45 {k : Nat} {v0 : Value} {h h1 : H} {v : Value} (hh : f45 rn k v0 h = some (v, h1)) : rn 45 #[v0] h = some (v, trunc Try.prog h h1 v) :=
  run_of_bodyT (args := [.opq v0]) rfl ((e45 _ _ _ _).trans hh)
theorem p45 {k : Nat} {v0 : Value} {h h1 : H} {v : Value} (hh : f45 rn k v0 h = some (v, h1)) (hp : plainO v = true) (x : Ext h h1) : rn 45 #[v0] h = some (v, h) := by rw [t45 hh, trunc_pure hp x]
theorem x45 {k : Nat} {v0 : Value} {h h1 : H} {v : Value} (hh : f45 rn k v0 h = some (v, h1)) (hp : plainO v = false) : rn 45 #[v0] h = some (v, h1) := by rw [t45 hh, trunc_not hp]

noncomputable def f46_l1 (_rec : Rec) (_k : Nat) (v0 : Value) (v1 : Value) (n3 : Int) (ws0 : List Value) (h1 : H) : Option (Ex × List Value × H) :=
  asI .i64 (gv ws0 1) fun n4 =>
  ifB (lt n4 n3) (
    asK (gv ws0 1) fun n5 =>
    six v1 n5 1 fun b0 b1 =>
    ld Try.prog h1 3 b0 b1 fun v2 =>
    asI .i64 v2 fun n6 =>
    ifB (lt n6 0) (
      out .ret [(.bool false), gv ws0 1] h1) (
      len v0 fun n7 =>
      ifB (le n7 n6) (
        out .ret [(.bool false), gv ws0 1] h1) (
        asI .i64 (gv ws0 1) fun n8 =>
        out .normal [gv ws0 0, (.int .i64 (add .i64 n8 1))] h1))) (
    out (.exit 0) [gv ws0 0, gv ws0 1] h1)

noncomputable def f46_l2 (rec : Rec) (_k : Nat) (v0 : Value) (v1 : Value) (n0 : Int) (n9 : Int) (ws2 : List Value) (h3 : H) : Option (Ex × List Value × H) :=
  asI .i64 (gv ws2 1) fun n10 =>
  ifB (lt n10 n9) (
    asK (gv ws2 1) fun n11 =>
    six v0 n11 1 fun b2 b3 =>
    ld Try.prog h3 3 b2 b3 fun v3 =>
    asI .i64 v3 fun n12 =>
    calls rec h3 70 [v1, gv ws2 1] fun v4 h4 =>
    asI .i64 v4 fun n13 =>
    ifB (eq n13 1073741824) (
      out .ret [(.bool false), gv ws2 1] h4) (
      ifB (lt n0 (mul .i64 n13 n12)) (
        out .ret [(.bool false), gv ws2 1] h4) (
        asI .i64 (gv ws2 1) fun n14 =>
        out .normal [gv ws2 0, (.int .i64 (add .i64 n14 1))] h4))) (
    out (.exit 2) [gv ws2 0, gv ws2 1] h3)

noncomputable def f46 (rec : Rec) (k : Nat) (v0 : Value) (v1 : Value) (n0 : Int) (h0 : H) : Option (Value × H) :=
  len v1 fun n1 =>
  ifB (lt n1 1) (
    some ((.bool false), h0)) (
    len v1 fun n2 =>
    ifB (lt 20000 n2) (
      some ((.bool false), h0)) (
      len v1 fun n3 =>
      lp k (f46_l1 rec k v0 v1 n3) [(.bool false), (.int .i64 0)] h0 fun e0 ws1 h2 =>
      onE e0 0 (
        len v0 fun n9 =>
        lp k (f46_l2 rec k v0 v1 n0 n9) [gv ws1 0, (.int .i64 0)] h2 fun e1 ws3 h5 =>
        onE e1 2 (
          some ((.bool true), h5)) (
          onR e1 (
            some (gv ws3 0, h5)))) (
        onR e0 (
          some (gv ws1 0, h2)))))

theorem e46 (rec : Rec) (k : Nat) (v0 : Value) (v1 : Value) (n0 : Int) (h : H) : bodyT Try.prog E0 SC (XC Try.prog rec k) 46 (Value × H) [.opq v0, .opq v1, .int .i64 n0] h (fun v h => some (v, h)) = f46 rec k v0 v1 n0 h := by kernel_rfl
theorem t46 {k : Nat} {v0 : Value} {v1 : Value} {n0 : Int} {h h1 : H} {v : Value} (hh : f46 rn k v0 v1 n0 h = some (v, h1)) : rn 46 #[v0, v1, .int .i64 n0] h = some (v, trunc Try.prog h h1 v) :=
  run_of_bodyT (args := [.opq v0, .opq v1, .int .i64 n0]) rfl ((e46 _ _ _ _ _ _).trans hh)
theorem p46 {k : Nat} {v0 : Value} {v1 : Value} {n0 : Int} {h h1 : H} {v : Value} (hh : f46 rn k v0 v1 n0 h = some (v, h1)) (hp : plainO v = true) (x : Ext h h1) : rn 46 #[v0, v1, .int .i64 n0] h = some (v, h) := by rw [t46 hh, trunc_pure hp x]
theorem x46 {k : Nat} {v0 : Value} {v1 : Value} {n0 : Int} {h h1 : H} {v : Value} (hh : f46 rn k v0 v1 n0 h = some (v, h1)) (hp : plainO v = false) : rn 46 #[v0, v1, .int .i64 n0] h = some (v, h1) := by rw [t46 hh, trunc_not hp]

noncomputable def f75 (rec : Rec) (_k : Nat) (v0 : Value) (h0 : H) : Option (Value × H) :=
  len v0 fun n0 =>
  ifB (le 1 n0) (
    len v0 fun n1 =>
    ifB (le n1 4) (
      calls rec h0 95 [v0] fun v1 h1 =>
      asI .i64 v1 fun n2 =>
      ifB (le 1 n2) (
        calls rec h1 96 [v0] fun v2 h2 =>
        asI .i64 v2 fun n3 =>
        some ((.bool (le n3 5)), h2)) (
        some ((.bool false), h1))) (
      some ((.bool false), h0))) (
    some ((.bool false), h0))

theorem e75 (rec : Rec) (k : Nat) (v0 : Value) (h : H) : bodyT Try.prog E0 SC (XC Try.prog rec k) 75 (Value × H) [.opq v0] h (fun v h => some (v, h)) = f75 rec k v0 h := by kernel_rfl
theorem t75 {k : Nat} {v0 : Value} {h h1 : H} {v : Value} (hh : f75 rn k v0 h = some (v, h1)) : rn 75 #[v0] h = some (v, trunc Try.prog h h1 v) :=
  run_of_bodyT (args := [.opq v0]) rfl ((e75 _ _ _ _).trans hh)
theorem p75 {k : Nat} {v0 : Value} {h h1 : H} {v : Value} (hh : f75 rn k v0 h = some (v, h1)) (hp : plainO v = true) (x : Ext h h1) : rn 75 #[v0] h = some (v, h) := by rw [t75 hh, trunc_pure hp x]
theorem x75 {k : Nat} {v0 : Value} {h h1 : H} {v : Value} (hh : f75 rn k v0 h = some (v, h1)) (hp : plainO v = false) : rn 75 #[v0] h = some (v, h1) := by rw [t75 hh, trunc_not hp]

noncomputable def f76_l1 (rec : Rec) (_k : Nat) (v0 : Value) (ws0 : List Value) (h1 : H) : Option (Ex × List Value × H) :=
  calls rec h1 97 [v0, gv ws0 2] fun v1 h2 =>
  eqv Try.prog 69 v1 (.slice none 0 0) fun q0 =>
  ifB q0 (
    asI .i64 (gv ws0 2) fun n0 =>
    out .normal [gv ws0 0, gv ws0 1, (.int .i64 (add .i64 n0 1))] h2) (
    calls rec h2 54 [v1] fun v2 h3 =>
    calls rec h3 55 [v2] fun v3 h4 =>
    eqv Try.prog 22 v3 (.slice none 0 0) fun q1 =>
    ifB (not q1) (
      out .ret [gv ws0 2, v3, gv ws0 2] h4) (
      asI .i64 (gv ws0 2) fun n1 =>
      out .normal [gv ws0 0, gv ws0 1, (.int .i64 (add .i64 n1 1))] h4))

noncomputable def f76 (rec : Rec) (k : Nat) (v0 : Value) (h0 : H) : Option (Value × H) :=
  lp k (f76_l1 rec k v0) [(.int .i64 0), (.slice none 0 0), (.int .i64 1)] h0 fun e0 ws1 h5 =>
  onR e0 (
    some ((.tuple #[gv ws1 0, gv ws1 1]), h5))

theorem e76 (rec : Rec) (k : Nat) (v0 : Value) (h : H) : bodyT Try.prog E0 SC (XC Try.prog rec k) 76 (Value × H) [.opq v0] h (fun v h => some (v, h)) = f76 rec k v0 h := by kernel_rfl
theorem t76 {k : Nat} {v0 : Value} {h h1 : H} {v : Value} (hh : f76 rn k v0 h = some (v, h1)) : rn 76 #[v0] h = some (v, trunc Try.prog h h1 v) :=
  run_of_bodyT (args := [.opq v0]) rfl ((e76 _ _ _ _).trans hh)
theorem p76 {k : Nat} {v0 : Value} {h h1 : H} {v : Value} (hh : f76 rn k v0 h = some (v, h1)) (hp : plainO v = true) (x : Ext h h1) : rn 76 #[v0] h = some (v, h) := by rw [t76 hh, trunc_pure hp x]
theorem x76 {k : Nat} {v0 : Value} {h h1 : H} {v : Value} (hh : f76 rn k v0 h = some (v, h1)) (hp : plainO v = false) : rn 76 #[v0] h = some (v, h1) := by rw [t76 hh, trunc_not hp]

noncomputable def f95_l1 (_rec : Rec) (_k : Nat) (v0 : Value) (ws0 : List Value) (h1 : H) : Option (Ex × List Value × H) :=
  len v0 fun n2 =>
  asI .i64 (gv ws0 1) fun n3 =>
  ifB (lt n3 n2) (
    asK (gv ws0 1) fun n4 =>
    six v0 n4 1 fun b2 b3 =>
    ld Try.prog h1 3 b2 b3 fun v2 =>
    asI .i64 v2 fun n5 =>
    asI .i64 (gv ws0 0) fun n6 =>
    asI .i64 (gv ws0 1) fun n7 =>
    out .normal [(.int .i64 (imin n6 n5)), (.int .i64 (add .i64 n7 1))] h1) (
    out (.exit 0) [gv ws0 0, gv ws0 1] h1)

noncomputable def f95 (rec : Rec) (k : Nat) (v0 : Value) (h0 : H) : Option (Value × H) :=
  len v0 fun n0 =>
  ifB (lt n0 1) (
    none) (
    six v0 0 1 fun b0 b1 =>
    ld Try.prog h0 3 b0 b1 fun v1 =>
    asI .i64 v1 fun n1 =>
    lp k (f95_l1 rec k v0) [(.int .i64 n1), (.int .i64 1)] h0 fun e0 ws1 h2 =>
    onE e0 0 (
      some (gv ws1 0, h2)) (
      none))

theorem e95 (rec : Rec) (k : Nat) (v0 : Value) (h : H) : bodyT Try.prog E0 SC (XC Try.prog rec k) 95 (Value × H) [.opq v0] h (fun v h => some (v, h)) = f95 rec k v0 h := by kernel_rfl
theorem t95 {k : Nat} {v0 : Value} {h h1 : H} {v : Value} (hh : f95 rn k v0 h = some (v, h1)) : rn 95 #[v0] h = some (v, trunc Try.prog h h1 v) :=
  run_of_bodyT (args := [.opq v0]) rfl ((e95 _ _ _ _).trans hh)
theorem p95 {k : Nat} {v0 : Value} {h h1 : H} {v : Value} (hh : f95 rn k v0 h = some (v, h1)) (hp : plainO v = true) (x : Ext h h1) : rn 95 #[v0] h = some (v, h) := by rw [t95 hh, trunc_pure hp x]
theorem x95 {k : Nat} {v0 : Value} {h h1 : H} {v : Value} (hh : f95 rn k v0 h = some (v, h1)) (hp : plainO v = false) : rn 95 #[v0] h = some (v, h1) := by rw [t95 hh, trunc_not hp]

noncomputable def f96_l1 (_rec : Rec) (_k : Nat) (v0 : Value) (ws0 : List Value) (h1 : H) : Option (Ex × List Value × H) :=
  len v0 fun n2 =>
  asI .i64 (gv ws0 1) fun n3 =>
  ifB (lt n3 n2) (
    asK (gv ws0 1) fun n4 =>
    six v0 n4 1 fun b2 b3 =>
    ld Try.prog h1 3 b2 b3 fun v2 =>
    asI .i64 v2 fun n5 =>
    asI .i64 (gv ws0 0) fun n6 =>
    asI .i64 (gv ws0 1) fun n7 =>
    out .normal [(.int .i64 (imax n6 n5)), (.int .i64 (add .i64 n7 1))] h1) (
    out (.exit 0) [gv ws0 0, gv ws0 1] h1)

noncomputable def f96 (rec : Rec) (k : Nat) (v0 : Value) (h0 : H) : Option (Value × H) :=
  len v0 fun n0 =>
  ifB (lt n0 1) (
    none) (
    six v0 0 1 fun b0 b1 =>
    ld Try.prog h0 3 b0 b1 fun v1 =>
    asI .i64 v1 fun n1 =>
    lp k (f96_l1 rec k v0) [(.int .i64 n1), (.int .i64 1)] h0 fun e0 ws1 h2 =>
    onE e0 0 (
      some (gv ws1 0, h2)) (
      none))

theorem e96 (rec : Rec) (k : Nat) (v0 : Value) (h : H) : bodyT Try.prog E0 SC (XC Try.prog rec k) 96 (Value × H) [.opq v0] h (fun v h => some (v, h)) = f96 rec k v0 h := by kernel_rfl
theorem t96 {k : Nat} {v0 : Value} {h h1 : H} {v : Value} (hh : f96 rn k v0 h = some (v, h1)) : rn 96 #[v0] h = some (v, trunc Try.prog h h1 v) :=
  run_of_bodyT (args := [.opq v0]) rfl ((e96 _ _ _ _).trans hh)
theorem p96 {k : Nat} {v0 : Value} {h h1 : H} {v : Value} (hh : f96 rn k v0 h = some (v, h1)) (hp : plainO v = true) (x : Ext h h1) : rn 96 #[v0] h = some (v, h) := by rw [t96 hh, trunc_pure hp x]
theorem x96 {k : Nat} {v0 : Value} {h h1 : H} {v : Value} (hh : f96 rn k v0 h = some (v, h1)) (hp : plainO v = false) : rn 96 #[v0] h = some (v, h1) := by rw [t96 hh, trunc_not hp]

noncomputable def f97_l1 (_rec : Rec) (_k : Nat) (v0 : Value) (n0 : Int) (n1 : Int) (ws0 : List Value) (h1 : H) : Option (Ex × List Value × H) :=
  asI .i64 (gv ws0 2) fun n2 =>
  ifB (lt n2 n1) (
    asK (gv ws0 2) fun n3 =>
    six v0 n3 1 fun b0 b1 =>
    ld Try.prog h1 3 b0 b1 fun v1 =>
    asI .i64 v1 fun n4 =>
    ifB (lt n0 n4) (
      out .ret [(.slice none 0 0), gv ws0 1, gv ws0 2] h1) (
      nz n4 (
        bls Try.prog h1 69 1 [(0, (.int .i64 (quo .i64 n0 n4)))] fun v2 h2 =>
        app Try.prog h2 69 69 (gv ws0 1) v2 fun v3 h3 =>
        asI .i64 (gv ws0 2) fun n5 =>
        out .normal [gv ws0 0, v3, (.int .i64 (add .i64 n5 1))] h3))) (
    out (.exit 0) [gv ws0 0, gv ws0 1, gv ws0 2] h1)

noncomputable def f97 (rec : Rec) (k : Nat) (v0 : Value) (n0 : Int) (h0 : H) : Option (Value × H) :=
  len v0 fun n1 =>
  lp k (f97_l1 rec k v0 n0 n1) [(.slice none 0 0), (.slice none 0 0), (.int .i64 0)] h0 fun e0 ws1 h4 =>
  onE e0 0 (
    some (gv ws1 1, h4)) (
    onR e0 (
      some (gv ws1 0, h4)))

theorem e97 (rec : Rec) (k : Nat) (v0 : Value) (n0 : Int) (h : H) : bodyT Try.prog E0 SC (XC Try.prog rec k) 97 (Value × H) [.opq v0, .int .i64 n0] h (fun v h => some (v, h)) = f97 rec k v0 n0 h := by kernel_rfl
theorem t97 {k : Nat} {v0 : Value} {n0 : Int} {h h1 : H} {v : Value} (hh : f97 rn k v0 n0 h = some (v, h1)) : rn 97 #[v0, .int .i64 n0] h = some (v, trunc Try.prog h h1 v) :=
  run_of_bodyT (args := [.opq v0, .int .i64 n0]) rfl ((e97 _ _ _ _ _).trans hh)
theorem p97 {k : Nat} {v0 : Value} {n0 : Int} {h h1 : H} {v : Value} (hh : f97 rn k v0 n0 h = some (v, h1)) (hp : plainO v = true) (x : Ext h h1) : rn 97 #[v0, .int .i64 n0] h = some (v, h) := by rw [t97 hh, trunc_pure hp x]
theorem x97 {k : Nat} {v0 : Value} {n0 : Int} {h h1 : H} {v : Value} (hh : f97 rn k v0 n0 h = some (v, h1)) (hp : plainO v = false) : rn 97 #[v0, .int .i64 n0] h = some (v, h1) := by rw [t97 hh, trunc_not hp]

end Go.AM
