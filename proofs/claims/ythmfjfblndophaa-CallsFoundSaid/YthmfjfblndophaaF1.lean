/- The staged forms of functions 3, 6, 11, 14, 17, 18, 19, 20, 21, 23, 24, 25, 26, 27, 28, 29, 34, 35, 36, 37, 38, 39, 40, 41, 42, 43, 45, and what calls of these answer. -/
import Derived.Test.YthmfjfblndophaaSx
namespace Go.AM
open Go.Proofs

noncomputable def f3 (rec : Rec) (_k : Nat) (v0 : Value) (n0 : Int) (n1 : Int) (h0 : H) : Option (Value × H) :=
  bx h0 24 v0 fun h1 =>
  ld Try.prog h1 24 (nx h0) 0 fun v1 =>
  calls rec h1 18 [v1] fun v2 h2 =>
  calls rec h2 17 [v2, (.int .i64 n0), (.int .i64 n1)] fun v3 h3 =>
  ext v3 0 fun v4 =>
  ext v3 1 fun v5 =>
  asI .i64 v5 fun n2 =>
  ld Try.prog h3 24 (nx h0) 0 fun v6 =>
  calls rec h3 18 [v6] fun v7 h4 =>
  calls rec h4 19 [v7, (.int .i64 n0), (.int .i64 n1)] fun v8 h5 =>
  ext v8 0 fun v9 =>
  ext v8 1 fun v10 =>
  asI .i64 v10 fun n3 =>
  ld Try.prog h5 24 (nx h0) 0 fun v11 =>
  calls rec h5 18 [v11] fun v12 h6 =>
  calls rec h6 20 [v12, (.int .i64 n0), (.int .i64 n1)] fun v13 h7 =>
  ext v13 0 fun v14 =>
  ext v13 1 fun v15 =>
  asI .i64 v15 fun n4 =>
  ld Try.prog h7 24 (nx h0) 0 fun v16 =>
  calls rec h7 21 [v16, (.int .i64 n0), (.int .i64 n1)] fun v17 h8 =>
  asB v17 fun q0 =>
  ifB (not q0) (
    len v4 fun n5 =>
    len v9 fun n6 =>
    len v14 fun n7 =>
    ifB (eq (add .i64 (add .i64 n5 n6) n7) 0) (
      ifB (eq n2 2) (
        ifB (eq n3 2) (
          ifB (eq n4 2) (
            calls rec h8 22 [] fun v18 h9 =>
            asB v18 fun q1 =>
            some ((.bool q1), h9)) (
            some ((.bool false), h8))) (
          some ((.bool false), h8))) (
        some ((.bool false), h8))) (
      some ((.bool false), h8))) (
    ld Try.prog h8 24 (nx h0) 0 fun v19 =>
    calls rec h8 23 [v19, (.int .i64 n0), (.int .i64 n1)] fun v20 h10 =>
    ext v20 0 fun v21 =>
    ext v20 1 fun v22 =>
    asI .i64 v22 fun n8 =>
    ld Try.prog h10 24 (nx h0) 0 fun v23 =>
    calls rec h10 24 [v23, (.int .i64 n0), (.int .i64 n1)] fun v24 h11 =>
    ext v24 0 fun v25 =>
    ext v24 1 fun v26 =>
    asI .i64 v26 fun n9 =>
    ld Try.prog h11 24 (nx h0) 0 fun v27 =>
    calls rec h11 25 [v27, (.int .i64 n0), (.int .i64 n1)] fun v28 h12 =>
    ext v28 0 fun v29 =>
    ext v28 1 fun v30 =>
    asI .i64 v30 fun n10 =>
    calls rec h12 26 [v4, v21] fun v31 h13 =>
    asB v31 fun q2 =>
    ifB q2 (
      calls rec h13 26 [v9, v25] fun v32 h14 =>
      asB v32 fun q3 =>
      ifB q3 (
        calls rec h14 26 [v14, v29] fun v33 h15 =>
        asB v33 fun q4 =>
        ifB q4 (
          ifB (eq n2 n8) (
            ifB (eq n3 n9) (
              ifB (eq n4 n10) (
                calls rec h15 22 [] fun v34 h16 =>
                asB v34 fun q5 =>
                some ((.bool q5), h16)) (
                some ((.bool false), h15))) (
              some ((.bool false), h15))) (
            some ((.bool false), h15))) (
          some ((.bool false), h15))) (
        some ((.bool false), h14))) (
      some ((.bool false), h13)))

theorem e3 (rec : Rec) (k : Nat) (v0 : Value) (n0 : Int) (n1 : Int) (h : H) : bodyT Try.prog E0 SC (XC Try.prog rec k) 3 (Value × H) [.opq v0, .int .i64 n0, .int .i64 n1] h (fun v h => some (v, h)) = f3 rec k v0 n0 n1 h := by kernel_rfl
theorem t3 {k : Nat} {v0 : Value} {n0 : Int} {n1 : Int} {h h1 : H} {v : Value} (hh : f3 rn k v0 n0 n1 h = some (v, h1)) : rn 3 #[v0, .int .i64 n0, .int .i64 n1] h = some (v, trunc Try.prog h h1 v) :=
  run_of_bodyT (args := [.opq v0, .int .i64 n0, .int .i64 n1]) rfl ((e3 _ _ _ _ _ _).trans hh)
theorem p3 {k : Nat} {v0 : Value} {n0 : Int} {n1 : Int} {h h1 : H} {v : Value} (hh : f3 rn k v0 n0 n1 h = some (v, h1)) (hp : plainO v = true) (x : Ext h h1) : rn 3 #[v0, .int .i64 n0, .int .i64 n1] h = some (v, h) := by rw [t3 hh, trunc_pure hp x]
theorem x3 {k : Nat} {v0 : Value} {n0 : Int} {n1 : Int} {h h1 : H} {v : Value} (hh : f3 rn k v0 n0 n1 h = some (v, h1)) (hp : plainO v = false) : rn 3 #[v0, .int .i64 n0, .int .i64 n1] h = some (v, h1) := by rw [t3 hh, trunc_not hp]

noncomputable def f6 (rec : Rec) (_k : Nat) (v0 : Value) (n0 : Int) (h0 : H) : Option (Value × H) :=
  bx h0 24 v0 fun h1 =>
  ld Try.prog h1 24 (nx h0) 0 fun v1 =>
  calls rec h1 18 [v1] fun v2 h2 =>
  calls rec h2 37 [v2] fun v3 h3 =>
  ext v3 0 fun v4 =>
  ext v3 1 fun v5 =>
  asI .i64 v5 fun n1 =>
  ld Try.prog h3 24 (nx h0) 0 fun v6 =>
  calls rec h3 18 [v6] fun v7 h4 =>
  calls rec h4 38 [v7, (.int .i64 n0)] fun v8 h5 =>
  ext v8 0 fun v9 =>
  ext v8 1 fun v10 =>
  asI .i64 v10 fun n2 =>
  ld Try.prog h5 24 (nx h0) 0 fun v11 =>
  calls rec h5 18 [v11] fun v12 h6 =>
  calls rec h6 39 [v12] fun v13 h7 =>
  ext v13 0 fun v14 =>
  ext v13 1 fun v15 =>
  asI .i64 v15 fun n3 =>
  ld Try.prog h7 24 (nx h0) 0 fun v16 =>
  calls rec h7 35 [v16] fun v17 h8 =>
  asB v17 fun q0 =>
  ifB (not q0) (
    len v4 fun n4 =>
    len v9 fun n5 =>
    len v14 fun n6 =>
    ifB (eq (add .i64 (add .i64 n4 n5) n6) 0) (
      ifB (eq n1 2) (
        ifB (eq n2 2) (
          ifB (eq n3 2) (
            calls rec h8 22 [] fun v18 h9 =>
            asB v18 fun q1 =>
            some ((.bool q1), h9)) (
            some ((.bool false), h8))) (
          some ((.bool false), h8))) (
        some ((.bool false), h8))) (
      some ((.bool false), h8))) (
    ld Try.prog h8 24 (nx h0) 0 fun v19 =>
    calls rec h8 40 [v19] fun v20 h10 =>
    calls rec h10 26 [v4, v20] fun v21 h11 =>
    asB v21 fun q2 =>
    ifB (not q2) (
      some ((.bool false), h11)) (
      ifB (not (eq n1 0)) (
        some ((.bool false), h11)) (
        ld Try.prog h11 24 (nx h0) 0 fun v22 =>
        calls rec h11 41 [v22] fun v23 h12 =>
        calls rec h12 26 [v14, v23] fun v24 h13 =>
        asB v24 fun q3 =>
        ifB (not q3) (
          some ((.bool false), h13)) (
          ifB (not (eq n3 0)) (
            some ((.bool false), h13)) (
            calls rec h13 22 [] fun v25 h14 =>
            asB v25 fun q4 =>
            ifB (not q4) (
              some ((.bool false), h14)) (
              ld Try.prog h14 24 (nx h0) 0 fun v26 =>
              calls rec h14 42 [v26, (.int .i64 n0)] fun v27 h15 =>
              asB v27 fun q5 =>
              ifB (not q5) (
                len v9 fun n7 =>
                ifB (eq n7 0) (
                  some ((.bool (eq n2 2)), h15)) (
                  some ((.bool false), h15))) (
                ld Try.prog h15 24 (nx h0) 0 fun v28 =>
                calls rec h15 43 [v28, (.int .i64 n0)] fun v29 h16 =>
                calls rec h16 26 [v9, v29] fun v30 h17 =>
                asB v30 fun q6 =>
                ifB q6 (
                  some ((.bool (eq n2 0)), h17)) (
                  some ((.bool false), h17)))))))))

theorem e6 (rec : Rec) (k : Nat) (v0 : Value) (n0 : Int) (h : H) : bodyT Try.prog E0 SC (XC Try.prog rec k) 6 (Value × H) [.opq v0, .int .i64 n0] h (fun v h => some (v, h)) = f6 rec k v0 n0 h := by kernel_rfl
theorem t6 {k : Nat} {v0 : Value} {n0 : Int} {h h1 : H} {v : Value} (hh : f6 rn k v0 n0 h = some (v, h1)) : rn 6 #[v0, .int .i64 n0] h = some (v, trunc Try.prog h h1 v) :=
  run_of_bodyT (args := [.opq v0, .int .i64 n0]) rfl ((e6 _ _ _ _ _).trans hh)
theorem p6 {k : Nat} {v0 : Value} {n0 : Int} {h h1 : H} {v : Value} (hh : f6 rn k v0 n0 h = some (v, h1)) (hp : plainO v = true) (x : Ext h h1) : rn 6 #[v0, .int .i64 n0] h = some (v, h) := by rw [t6 hh, trunc_pure hp x]
theorem x6 {k : Nat} {v0 : Value} {n0 : Int} {h h1 : H} {v : Value} (hh : f6 rn k v0 n0 h = some (v, h1)) (hp : plainO v = false) : rn 6 #[v0, .int .i64 n0] h = some (v, h1) := by rw [t6 hh, trunc_not hp]

noncomputable def f11 (rec : Rec) (_k : Nat) (v0 : Value) (h0 : H) : Option (Value × H) :=
  bx h0 24 v0 fun h1 =>
  ld Try.prog h1 24 (nx h0) 0 fun v1 =>
  calls rec h1 18 [v1] fun v2 h2 =>
  calls rec h2 57 [v2] fun v3 h3 =>
  ext v3 0 fun v4 =>
  ext v3 1 fun v5 =>
  asI .i64 v5 fun n0 =>
  al h3 31 [(.int .i64 0), (.slice none 0 0)] fun h4 =>
  st Try.prog h4 31 (nx h3) 0 v4 fun h5 =>
  ld Try.prog h5 24 (nx h0) 0 fun v6 =>
  calls rec h5 35 [v6] fun v7 h6 =>
  asB v7 fun q0 =>
  ifB (not q0) (
    ld Try.prog h6 31 (nx h3) 0 fun v8 =>
    calls rec h6 32 [v8] fun v9 h7 =>
    asB v9 fun q1 =>
    ifB q1 (
      ifB (eq n0 2) (
        calls rec h7 22 [] fun v10 h8 =>
        asB v10 fun q2 =>
        some ((.bool q2), h8)) (
        some ((.bool false), h7))) (
      some ((.bool false), h7))) (
    ld Try.prog h6 24 (nx h0) 0 fun v11 =>
    calls rec h6 58 [v11] fun v12 h9 =>
    al h9 24 [(.int .i64 0), (.slice none 0 0)] fun h10 =>
    st Try.prog h10 24 (nx h9) 0 v12 fun h11 =>
    ld Try.prog h11 3 (nx h3) 0 fun v13 =>
    asI .i64 v13 fun n1 =>
    ld Try.prog h11 3 (nx h9) 0 fun v14 =>
    asI .i64 v14 fun n2 =>
    ifB (eq n1 n2) (
      ld Try.prog h11 31 (nx h3) 0 fun v15 =>
      calls rec h11 33 [v15] fun v16 h12 =>
      fld Try.prog 24 v16 1 fun v17 =>
      ld Try.prog h12 22 (nx h9) (off 0 1) fun v18 =>
      ck (freq (nx h9) (nx h11) (same h12 h11)) (
        calls rec h12 59 [v17, v18] fun v19 h13 =>
        asB v19 fun q3 =>
        ifB q3 (
          ifB (eq n0 0) (
            calls rec h13 22 [] fun v20 h14 =>
            asB v20 fun q4 =>
            some ((.bool q4), h14)) (
            some ((.bool false), h13))) (
          some ((.bool false), h13)))) (
      some ((.bool false), h11)))

theorem e11 (rec : Rec) (k : Nat) (v0 : Value) (h : H) : bodyT Try.prog E0 SC (XC Try.prog rec k) 11 (Value × H) [.opq v0] h (fun v h => some (v, h)) = f11 rec k v0 h := by kernel_rfl
theorem t11 {k : Nat} {v0 : Value} {h h1 : H} {v : Value} (hh : f11 rn k v0 h = some (v, h1)) : rn 11 #[v0] h = some (v, trunc Try.prog h h1 v) :=
  run_of_bodyT (args := [.opq v0]) rfl ((e11 _ _ _ _).trans hh)
theorem p11 {k : Nat} {v0 : Value} {h h1 : H} {v : Value} (hh : f11 rn k v0 h = some (v, h1)) (hp : plainO v = true) (x : Ext h h1) : rn 11 #[v0] h = some (v, h) := by rw [t11 hh, trunc_pure hp x]
theorem x11 {k : Nat} {v0 : Value} {h h1 : H} {v : Value} (hh : f11 rn k v0 h = some (v, h1)) (hp : plainO v = false) : rn 11 #[v0] h = some (v, h1) := by rw [t11 hh, trunc_not hp]

noncomputable def f14 (rec : Rec) (_k : Nat) (v0 : Value) (n0 : Int) (h0 : H) : Option (Value × H) :=
  bx h0 24 v0 fun h1 =>
  ld Try.prog h1 24 (nx h0) 0 fun v1 =>
  calls rec h1 18 [v1] fun v2 h2 =>
  calls rec h2 45 [v2, (.int .i64 n0)] fun v3 h3 =>
  ext v3 0 fun v4 =>
  ext v3 1 fun v5 =>
  asI .i64 v5 fun n1 =>
  ld Try.prog h3 24 (nx h0) 0 fun v6 =>
  calls rec h3 18 [v6] fun v7 h4 =>
  calls rec h4 62 [v7, (.int .i64 n0)] fun v8 h5 =>
  ext v8 0 fun v9 =>
  ext v8 1 fun v10 =>
  asI .i64 v10 fun n2 =>
  ld Try.prog h5 24 (nx h0) 0 fun v11 =>
  calls rec h5 35 [v11] fun v12 h6 =>
  asB v12 fun q0 =>
  ifB (not q0) (
    len v4 fun n3 =>
    len v9 fun n4 =>
    ifB (eq (add .i64 n3 n4) 0) (
      ifB (eq n1 2) (
        ifB (eq n2 2) (
          calls rec h6 22 [] fun v13 h7 =>
          asB v13 fun q1 =>
          some ((.bool q1), h7)) (
          some ((.bool false), h6))) (
        some ((.bool false), h6))) (
      some ((.bool false), h6))) (
    ld Try.prog h6 24 (nx h0) 0 fun v14 =>
    calls rec h6 42 [v14, (.int .i64 n0)] fun v15 h8 =>
    asB v15 fun q2 =>
    ifB (not q2) (
      len v4 fun n5 =>
      len v9 fun n6 =>
      ifB (eq (add .i64 n5 n6) 0) (
        ifB (eq n1 2) (
          ifB (eq n2 2) (
            calls rec h8 22 [] fun v16 h9 =>
            asB v16 fun q3 =>
            some ((.bool q3), h9)) (
            some ((.bool false), h8))) (
          some ((.bool false), h8))) (
        some ((.bool false), h8))) (
      ld Try.prog h8 24 (nx h0) 0 fun v17 =>
      calls rec h8 63 [v17, (.int .i64 n0)] fun v18 h10 =>
      calls rec h10 26 [v4, v18] fun v19 h11 =>
      asB v19 fun q4 =>
      ifB q4 (
        ld Try.prog h11 24 (nx h0) 0 fun v20 =>
        calls rec h11 64 [v20, (.int .i64 n0)] fun v21 h12 =>
        calls rec h12 26 [v9, v21] fun v22 h13 =>
        asB v22 fun q5 =>
        ifB q5 (
          ifB (eq n1 0) (
            ifB (eq n2 0) (
              calls rec h13 22 [] fun v23 h14 =>
              asB v23 fun q6 =>
              some ((.bool q6), h14)) (
              some ((.bool false), h13))) (
            some ((.bool false), h13))) (
          some ((.bool false), h13))) (
        some ((.bool false), h11))))

theorem e14 (rec : Rec) (k : Nat) (v0 : Value) (n0 : Int) (h : H) : bodyT Try.prog E0 SC (XC Try.prog rec k) 14 (Value × H) [.opq v0, .int .i64 n0] h (fun v h => some (v, h)) = f14 rec k v0 n0 h := by kernel_rfl
theorem t14 {k : Nat} {v0 : Value} {n0 : Int} {h h1 : H} {v : Value} (hh : f14 rn k v0 n0 h = some (v, h1)) : rn 14 #[v0, .int .i64 n0] h = some (v, trunc Try.prog h h1 v) :=
  run_of_bodyT (args := [.opq v0, .int .i64 n0]) rfl ((e14 _ _ _ _ _).trans hh)
theorem p14 {k : Nat} {v0 : Value} {n0 : Int} {h h1 : H} {v : Value} (hh : f14 rn k v0 n0 h = some (v, h1)) (hp : plainO v = true) (x : Ext h h1) : rn 14 #[v0, .int .i64 n0] h = some (v, h) := by rw [t14 hh, trunc_pure hp x]
theorem x14 {k : Nat} {v0 : Value} {n0 : Int} {h h1 : H} {v : Value} (hh : f14 rn k v0 n0 h = some (v, h1)) (hp : plainO v = false) : rn 14 #[v0, .int .i64 n0] h = some (v, h1) := by rw [t14 hh, trunc_not hp]

noncomputable def f17 (rec : Rec) (_k : Nat) (v0 : Value) (n0 : Int) (n1 : Int) (h0 : H) : Option (Value × H) :=
  bx h0 31 v0 fun h1 =>
  ld Try.prog h1 31 (nx h0) 0 fun v1 =>
  ld Try.prog h1 31 (nx h0) 0 fun v2 =>
  calls rec h1 65 [v1, (.int .i64 n0), (.int .i64 n1), (.func (.func 66) #[v2] #[])] fun v3 h2 =>
  ext v3 0 fun v4 =>
  ext v3 1 fun v5 =>
  asI .i64 v5 fun n2 =>
  some ((.tuple #[v4, (.int .i64 n2)]), h2)

theorem e17 (rec : Rec) (k : Nat) (v0 : Value) (n0 : Int) (n1 : Int) (h : H) : bodyT Try.prog E0 SC (XC Try.prog rec k) 17 (Value × H) [.opq v0, .int .i64 n0, .int .i64 n1] h (fun v h => some (v, h)) = f17 rec k v0 n0 n1 h := by kernel_rfl
theorem t17 {k : Nat} {v0 : Value} {n0 : Int} {n1 : Int} {h h1 : H} {v : Value} (hh : f17 rn k v0 n0 n1 h = some (v, h1)) : rn 17 #[v0, .int .i64 n0, .int .i64 n1] h = some (v, trunc Try.prog h h1 v) :=
  run_of_bodyT (args := [.opq v0, .int .i64 n0, .int .i64 n1]) rfl ((e17 _ _ _ _ _ _).trans hh)
theorem p17 {k : Nat} {v0 : Value} {n0 : Int} {n1 : Int} {h h1 : H} {v : Value} (hh : f17 rn k v0 n0 n1 h = some (v, h1)) (hp : plainO v = true) (x : Ext h h1) : rn 17 #[v0, .int .i64 n0, .int .i64 n1] h = some (v, h) := by rw [t17 hh, trunc_pure hp x]
theorem x17 {k : Nat} {v0 : Value} {n0 : Int} {n1 : Int} {h h1 : H} {v : Value} (hh : f17 rn k v0 n0 n1 h = some (v, h1)) (hp : plainO v = false) : rn 17 #[v0, .int .i64 n0, .int .i64 n1] h = some (v, h1) := by rw [t17 hh, trunc_not hp]

noncomputable def f18_l1 (_rec : Rec) (_k : Nat) (h2 : H) (v3 : Value) (n1 : Int) (ws0 : List Value) (h5 : H) : Option (Ex × List Value × H) :=
  asI .i64 (gv ws0 0) fun n2 =>
  ifB (lt n2 n1) (
    asK (gv ws0 0) fun n3 =>
    six v3 n3 3 fun b0 b1 =>
    ld Try.prog h5 59 b0 b1 fun v4 =>
    al h5 59 [(.int .i64 0), (.int .i64 0), (.int .i64 0)] fun h6 =>
    st Try.prog h6 59 (nx h5) 0 v4 fun h7 =>
    asI .i64 (gv ws0 0) fun n4 =>
    ifB (lt n4 26) (
      ld Try.prog h7 29 (nx h2) (off 0 1) fun v5 =>
      ld Try.prog h7 3 (nx h5) 0 fun v6 =>
      asI .i64 v6 fun n5 =>
      ld Try.prog h7 3 (nx h5) (off 0 1) fun v7 =>
      asI .i64 v7 fun n6 =>
      ld Try.prog h7 3 (nx h5) (off 0 2) fun v8 =>
      asI .i64 v8 fun n7 =>
      bld Try.prog 56 [(0, (.int .i64 n5)), (1, (.int .i64 n6)), (2, (.int .i64 n7))] fun v9 =>
      bls Try.prog h7 29 1 [(0, v9)] fun v10 h8 =>
      app Try.prog h8 29 29 v5 v10 fun v11 h9 =>
      st Try.prog h9 29 (nx h2) (off 0 1) v11 fun h10 =>
      asI .i64 (gv ws0 0) fun n8 =>
      out .normal [(.int .i64 (add .i64 n8 1))] h10) (
      asI .i64 (gv ws0 0) fun n9 =>
      out .normal [(.int .i64 (add .i64 n9 1))] h7)) (
    out (.exit 0) [gv ws0 0] h5)

noncomputable def f18 (rec : Rec) (k : Nat) (v0 : Value) (h0 : H) : Option (Value × H) :=
  bx h0 24 v0 fun h1 =>
  al h1 31 [(.int .i64 0), (.slice none 0 0)] fun h2 =>
  ld Try.prog h2 3 (nx h0) 0 fun v1 =>
  asI .i64 v1 fun n0 =>
  bld Try.prog 31 [(0, (.int .i64 n0))] fun v2 =>
  al h2 31 [(.int .i64 0), (.slice none 0 0)] fun h3 =>
  st Try.prog h3 31 (nx h2) 0 v2 fun h4 =>
  ld Try.prog h4 22 (nx h0) (off 0 1) fun v3 =>
  len v3 fun n1 =>
  lp k (f18_l1 rec k h2 v3 n1) [(.int .i64 0)] h4 fun e0 _ h11 =>
  onE e0 0 (
    ld Try.prog h11 31 (nx h2) 0 fun v12 =>
    st Try.prog h11 31 (nx h1) 0 v12 fun h12 =>
    ld Try.prog h12 31 (nx h1) 0 fun v13 =>
    some (v13, h12)) (
    none)

theorem e18 (rec : Rec) (k : Nat) (v0 : Value) (h : H) : bodyT Try.prog E0 SC (XC Try.prog rec k) 18 (Value × H) [.opq v0] h (fun v h => some (v, h)) = f18 rec k v0 h := by kernel_rfl
theorem t18 {k : Nat} {v0 : Value} {h h1 : H} {v : Value} (hh : f18 rn k v0 h = some (v, h1)) : rn 18 #[v0] h = some (v, trunc Try.prog h h1 v) :=
  run_of_bodyT (args := [.opq v0]) rfl ((e18 _ _ _ _).trans hh)
theorem p18 {k : Nat} {v0 : Value} {h h1 : H} {v : Value} (hh : f18 rn k v0 h = some (v, h1)) (hp : plainO v = true) (x : Ext h h1) : rn 18 #[v0] h = some (v, h) := by rw [t18 hh, trunc_pure hp x]
theorem x18 {k : Nat} {v0 : Value} {h h1 : H} {v : Value} (hh : f18 rn k v0 h = some (v, h1)) (hp : plainO v = false) : rn 18 #[v0] h = some (v, h1) := by rw [t18 hh, trunc_not hp]

noncomputable def f19 (rec : Rec) (_k : Nat) (v0 : Value) (n0 : Int) (n1 : Int) (h0 : H) : Option (Value × H) :=
  bx h0 31 v0 fun h1 =>
  ld Try.prog h1 31 (nx h0) 0 fun v1 =>
  calls rec h1 65 [v1, (.int .i64 n0), (.int .i64 n1), (.func (.func 67) #[] #[])] fun v2 h2 =>
  ext v2 0 fun v3 =>
  ext v2 1 fun v4 =>
  asI .i64 v4 fun n2 =>
  some ((.tuple #[v3, (.int .i64 n2)]), h2)

theorem e19 (rec : Rec) (k : Nat) (v0 : Value) (n0 : Int) (n1 : Int) (h : H) : bodyT Try.prog E0 SC (XC Try.prog rec k) 19 (Value × H) [.opq v0, .int .i64 n0, .int .i64 n1] h (fun v h => some (v, h)) = f19 rec k v0 n0 n1 h := by kernel_rfl
theorem t19 {k : Nat} {v0 : Value} {n0 : Int} {n1 : Int} {h h1 : H} {v : Value} (hh : f19 rn k v0 n0 n1 h = some (v, h1)) : rn 19 #[v0, .int .i64 n0, .int .i64 n1] h = some (v, trunc Try.prog h h1 v) :=
  run_of_bodyT (args := [.opq v0, .int .i64 n0, .int .i64 n1]) rfl ((e19 _ _ _ _ _ _).trans hh)
theorem p19 {k : Nat} {v0 : Value} {n0 : Int} {n1 : Int} {h h1 : H} {v : Value} (hh : f19 rn k v0 n0 n1 h = some (v, h1)) (hp : plainO v = true) (x : Ext h h1) : rn 19 #[v0, .int .i64 n0, .int .i64 n1] h = some (v, h) := by rw [t19 hh, trunc_pure hp x]
theorem x19 {k : Nat} {v0 : Value} {n0 : Int} {n1 : Int} {h h1 : H} {v : Value} (hh : f19 rn k v0 n0 n1 h = some (v, h1)) (hp : plainO v = false) : rn 19 #[v0, .int .i64 n0, .int .i64 n1] h = some (v, h1) := by rw [t19 hh, trunc_not hp]

noncomputable def f20 (rec : Rec) (_k : Nat) (v0 : Value) (n0 : Int) (n1 : Int) (h0 : H) : Option (Value × H) :=
  bx h0 31 v0 fun h1 =>
  ld Try.prog h1 31 (nx h0) 0 fun v1 =>
  calls rec h1 65 [v1, (.int .i64 n0), (.int .i64 n1), (.func (.func 68) #[] #[(pt (nx h0) 0)])] fun v2 h2 =>
  ext v2 0 fun v3 =>
  ext v2 1 fun v4 =>
  asI .i64 v4 fun n2 =>
  some ((.tuple #[v3, (.int .i64 n2)]), h2)

theorem e20 (rec : Rec) (k : Nat) (v0 : Value) (n0 : Int) (n1 : Int) (h : H) : bodyT Try.prog E0 SC (XC Try.prog rec k) 20 (Value × H) [.opq v0, .int .i64 n0, .int .i64 n1] h (fun v h => some (v, h)) = f20 rec k v0 n0 n1 h := by kernel_rfl
theorem t20 {k : Nat} {v0 : Value} {n0 : Int} {n1 : Int} {h h1 : H} {v : Value} (hh : f20 rn k v0 n0 n1 h = some (v, h1)) : rn 20 #[v0, .int .i64 n0, .int .i64 n1] h = some (v, trunc Try.prog h h1 v) :=
  run_of_bodyT (args := [.opq v0, .int .i64 n0, .int .i64 n1]) rfl ((e20 _ _ _ _ _ _).trans hh)
theorem p20 {k : Nat} {v0 : Value} {n0 : Int} {n1 : Int} {h h1 : H} {v : Value} (hh : f20 rn k v0 n0 n1 h = some (v, h1)) (hp : plainO v = true) (x : Ext h h1) : rn 20 #[v0, .int .i64 n0, .int .i64 n1] h = some (v, h) := by rw [t20 hh, trunc_pure hp x]
theorem x20 {k : Nat} {v0 : Value} {n0 : Int} {n1 : Int} {h h1 : H} {v : Value} (hh : f20 rn k v0 n0 n1 h = some (v, h1)) (hp : plainO v = false) : rn 20 #[v0, .int .i64 n0, .int .i64 n1] h = some (v, h1) := by rw [t20 hh, trunc_not hp]

noncomputable def f21 (rec : Rec) (_k : Nat) (v0 : Value) (n0 : Int) (n1 : Int) (h0 : H) : Option (Value × H) :=
  bx h0 24 v0 fun h1 =>
  ld Try.prog h1 24 (nx h0) 0 fun v1 =>
  calls rec h1 35 [v1] fun v2 h2 =>
  asB v2 fun q0 =>
  ifB q0 (
    ld Try.prog h2 24 (nx h0) 0 fun v3 =>
    calls rec h2 42 [v3, (.int .i64 n0)] fun v4 h3 =>
    asB v4 fun q1 =>
    ifB q1 (
      ld Try.prog h3 24 (nx h0) 0 fun v5 =>
      calls rec h3 42 [v5, (.int .i64 n1)] fun v6 h4 =>
      asB v6 fun q2 =>
      ifB q2 (
        some ((.bool (not (eq n0 n1))), h4)) (
        some ((.bool false), h4))) (
      some ((.bool false), h3))) (
    some ((.bool false), h2))

theorem e21 (rec : Rec) (k : Nat) (v0 : Value) (n0 : Int) (n1 : Int) (h : H) : bodyT Try.prog E0 SC (XC Try.prog rec k) 21 (Value × H) [.opq v0, .int .i64 n0, .int .i64 n1] h (fun v h => some (v, h)) = f21 rec k v0 n0 n1 h := by kernel_rfl
theorem t21 {k : Nat} {v0 : Value} {n0 : Int} {n1 : Int} {h h1 : H} {v : Value} (hh : f21 rn k v0 n0 n1 h = some (v, h1)) : rn 21 #[v0, .int .i64 n0, .int .i64 n1] h = some (v, trunc Try.prog h h1 v) :=
  run_of_bodyT (args := [.opq v0, .int .i64 n0, .int .i64 n1]) rfl ((e21 _ _ _ _ _ _).trans hh)
theorem p21 {k : Nat} {v0 : Value} {n0 : Int} {n1 : Int} {h h1 : H} {v : Value} (hh : f21 rn k v0 n0 n1 h = some (v, h1)) (hp : plainO v = true) (x : Ext h h1) : rn 21 #[v0, .int .i64 n0, .int .i64 n1] h = some (v, h) := by rw [t21 hh, trunc_pure hp x]
theorem x21 {k : Nat} {v0 : Value} {n0 : Int} {n1 : Int} {h h1 : H} {v : Value} (hh : f21 rn k v0 n0 n1 h = some (v, h1)) (hp : plainO v = false) : rn 21 #[v0, .int .i64 n0, .int .i64 n1] h = some (v, h1) := by rw [t21 hh, trunc_not hp]

noncomputable def f23 (rec : Rec) (_k : Nat) (v0 : Value) (n0 : Int) (n1 : Int) (h0 : H) : Option (Value × H) :=
  bx h0 24 v0 fun h1 =>
  ld Try.prog h1 24 (nx h0) 0 fun v1 =>
  calls rec h1 70 [v1, (.int .i64 n0), (.int .i64 n1), (.int .i64 0)] fun v2 h2 =>
  ext v2 0 fun v3 =>
  ext v2 1 fun v4 =>
  asI .i64 v4 fun n2 =>
  some ((.tuple #[v3, (.int .i64 n2)]), h2)

theorem e23 (rec : Rec) (k : Nat) (v0 : Value) (n0 : Int) (n1 : Int) (h : H) : bodyT Try.prog E0 SC (XC Try.prog rec k) 23 (Value × H) [.opq v0, .int .i64 n0, .int .i64 n1] h (fun v h => some (v, h)) = f23 rec k v0 n0 n1 h := by kernel_rfl
theorem t23 {k : Nat} {v0 : Value} {n0 : Int} {n1 : Int} {h h1 : H} {v : Value} (hh : f23 rn k v0 n0 n1 h = some (v, h1)) : rn 23 #[v0, .int .i64 n0, .int .i64 n1] h = some (v, trunc Try.prog h h1 v) :=
  run_of_bodyT (args := [.opq v0, .int .i64 n0, .int .i64 n1]) rfl ((e23 _ _ _ _ _ _).trans hh)
theorem p23 {k : Nat} {v0 : Value} {n0 : Int} {n1 : Int} {h h1 : H} {v : Value} (hh : f23 rn k v0 n0 n1 h = some (v, h1)) (hp : plainO v = true) (x : Ext h h1) : rn 23 #[v0, .int .i64 n0, .int .i64 n1] h = some (v, h) := by rw [t23 hh, trunc_pure hp x]
theorem x23 {k : Nat} {v0 : Value} {n0 : Int} {n1 : Int} {h h1 : H} {v : Value} (hh : f23 rn k v0 n0 n1 h = some (v, h1)) (hp : plainO v = false) : rn 23 #[v0, .int .i64 n0, .int .i64 n1] h = some (v, h1) := by rw [t23 hh, trunc_not hp]

noncomputable def f24 (rec : Rec) (_k : Nat) (v0 : Value) (n0 : Int) (n1 : Int) (h0 : H) : Option (Value × H) :=
  bx h0 24 v0 fun h1 =>
  ld Try.prog h1 24 (nx h0) 0 fun v1 =>
  calls rec h1 70 [v1, (.int .i64 n0), (.int .i64 n1), (.int .i64 1)] fun v2 h2 =>
  ext v2 0 fun v3 =>
  ext v2 1 fun v4 =>
  asI .i64 v4 fun n2 =>
  some ((.tuple #[v3, (.int .i64 n2)]), h2)

theorem e24 (rec : Rec) (k : Nat) (v0 : Value) (n0 : Int) (n1 : Int) (h : H) : bodyT Try.prog E0 SC (XC Try.prog rec k) 24 (Value × H) [.opq v0, .int .i64 n0, .int .i64 n1] h (fun v h => some (v, h)) = f24 rec k v0 n0 n1 h := by kernel_rfl
theorem t24 {k : Nat} {v0 : Value} {n0 : Int} {n1 : Int} {h h1 : H} {v : Value} (hh : f24 rn k v0 n0 n1 h = some (v, h1)) : rn 24 #[v0, .int .i64 n0, .int .i64 n1] h = some (v, trunc Try.prog h h1 v) :=
  run_of_bodyT (args := [.opq v0, .int .i64 n0, .int .i64 n1]) rfl ((e24 _ _ _ _ _ _).trans hh)
theorem p24 {k : Nat} {v0 : Value} {n0 : Int} {n1 : Int} {h h1 : H} {v : Value} (hh : f24 rn k v0 n0 n1 h = some (v, h1)) (hp : plainO v = true) (x : Ext h h1) : rn 24 #[v0, .int .i64 n0, .int .i64 n1] h = some (v, h) := by rw [t24 hh, trunc_pure hp x]
theorem x24 {k : Nat} {v0 : Value} {n0 : Int} {n1 : Int} {h h1 : H} {v : Value} (hh : f24 rn k v0 n0 n1 h = some (v, h1)) (hp : plainO v = false) : rn 24 #[v0, .int .i64 n0, .int .i64 n1] h = some (v, h1) := by rw [t24 hh, trunc_not hp]

noncomputable def f25 (rec : Rec) (_k : Nat) (v0 : Value) (n0 : Int) (n1 : Int) (h0 : H) : Option (Value × H) :=
  bx h0 24 v0 fun h1 =>
  ld Try.prog h1 24 (nx h0) 0 fun v1 =>
  calls rec h1 70 [v1, (.int .i64 n0), (.int .i64 n1), (.int .i64 2)] fun v2 h2 =>
  ext v2 0 fun v3 =>
  ext v2 1 fun v4 =>
  asI .i64 v4 fun n2 =>
  some ((.tuple #[v3, (.int .i64 n2)]), h2)

theorem e25 (rec : Rec) (k : Nat) (v0 : Value) (n0 : Int) (n1 : Int) (h : H) : bodyT Try.prog E0 SC (XC Try.prog rec k) 25 (Value × H) [.opq v0, .int .i64 n0, .int .i64 n1] h (fun v h => some (v, h)) = f25 rec k v0 n0 n1 h := by kernel_rfl
theorem t25 {k : Nat} {v0 : Value} {n0 : Int} {n1 : Int} {h h1 : H} {v : Value} (hh : f25 rn k v0 n0 n1 h = some (v, h1)) : rn 25 #[v0, .int .i64 n0, .int .i64 n1] h = some (v, trunc Try.prog h h1 v) :=
  run_of_bodyT (args := [.opq v0, .int .i64 n0, .int .i64 n1]) rfl ((e25 _ _ _ _ _ _).trans hh)
theorem p25 {k : Nat} {v0 : Value} {n0 : Int} {n1 : Int} {h h1 : H} {v : Value} (hh : f25 rn k v0 n0 n1 h = some (v, h1)) (hp : plainO v = true) (x : Ext h h1) : rn 25 #[v0, .int .i64 n0, .int .i64 n1] h = some (v, h) := by rw [t25 hh, trunc_pure hp x]
theorem x25 {k : Nat} {v0 : Value} {n0 : Int} {n1 : Int} {h h1 : H} {v : Value} (hh : f25 rn k v0 n0 n1 h = some (v, h1)) (hp : plainO v = false) : rn 25 #[v0, .int .i64 n0, .int .i64 n1] h = some (v, h1) := by rw [t25 hh, trunc_not hp]

noncomputable def f26_l1 (_rec : Rec) (_k : Nat) (v0 : Value) (v1 : Value) (n2 : Int) (ws0 : List Value) (h1 : H) : Option (Ex × List Value × H) :=
  asI .i64 (gv ws0 1) fun n3 =>
  ifB (lt n3 n2) (
    asK (gv ws0 1) fun n4 =>
    six v0 n4 1 fun b0 b1 =>
    ld Try.prog h1 3 b0 b1 fun v2 =>
    asI .i64 v2 fun n5 =>
    asK (gv ws0 1) fun n6 =>
    six v1 n6 1 fun b2 b3 =>
    ld Try.prog h1 3 b2 b3 fun v3 =>
    asI .i64 v3 fun n7 =>
    ifB (not (eq n5 n7)) (
      out .ret [(.bool false), gv ws0 1] h1) (
      asI .i64 (gv ws0 1) fun n8 =>
      out .normal [gv ws0 0, (.int .i64 (add .i64 n8 1))] h1)) (
    out (.exit 0) [gv ws0 0, gv ws0 1] h1)

noncomputable def f26 (rec : Rec) (k : Nat) (v0 : Value) (v1 : Value) (h0 : H) : Option (Value × H) :=
  len v0 fun n0 =>
  len v1 fun n1 =>
  ifB (not (eq n0 n1)) (
    some ((.bool false), h0)) (
    len v0 fun n2 =>
    lp k (f26_l1 rec k v0 v1 n2) [(.bool false), (.int .i64 0)] h0 fun e0 ws1 h2 =>
    onE e0 0 (
      some ((.bool true), h2)) (
      onR e0 (
        some (gv ws1 0, h2))))

theorem e26 (rec : Rec) (k : Nat) (v0 : Value) (v1 : Value) (h : H) : bodyT Try.prog E0 SC (XC Try.prog rec k) 26 (Value × H) [.opq v0, .opq v1] h (fun v h => some (v, h)) = f26 rec k v0 v1 h := by kernel_rfl
theorem t26 {k : Nat} {v0 : Value} {v1 : Value} {h h1 : H} {v : Value} (hh : f26 rn k v0 v1 h = some (v, h1)) : rn 26 #[v0, v1] h = some (v, trunc Try.prog h h1 v) :=
  run_of_bodyT (args := [.opq v0, .opq v1]) rfl ((e26 _ _ _ _ _).trans hh)
theorem p26 {k : Nat} {v0 : Value} {v1 : Value} {h h1 : H} {v : Value} (hh : f26 rn k v0 v1 h = some (v, h1)) (hp : plainO v = true) (x : Ext h h1) : rn 26 #[v0, v1] h = some (v, h) := by rw [t26 hh, trunc_pure hp x]
theorem x26 {k : Nat} {v0 : Value} {v1 : Value} {h h1 : H} {v : Value} (hh : f26 rn k v0 v1 h = some (v, h1)) (hp : plainO v = false) : rn 26 #[v0, v1] h = some (v, h1) := by rw [t26 hh, trunc_not hp]

noncomputable def f27_l1 (rec : Rec) (_k : Nat) (n1 : Int) (v1 : Value) (h0 : H) (n2 : Int) (ws0 : List Value) (h5 : H) : Option (Ex × List Value × H) :=
  asI .i64 (gv ws0 5) fun n3 =>
  ifB (lt n3 n2) (
    asK (gv ws0 5) fun n4 =>
    six v1 n4 1 fun b0 b1 =>
    ld Try.prog h5 3 b0 b1 fun v8 =>
    asI .i64 v8 fun n5 =>
    ifB (lt n5 0) (
      out .ret [(.bool false), (.int .i64 0), gv ws0 2, gv ws0 3, gv ws0 4, gv ws0 5] h5) (
      ld Try.prog h5 29 (nx h0) (off 0 1) fun v9 =>
      len v9 fun n6 =>
      ifB (le n6 n5) (
        out .ret [(.bool false), (.int .i64 0), gv ws0 2, gv ws0 3, gv ws0 4, gv ws0 5] h5) (
        asI .i64 (gv ws0 2) fun n7 =>
        ifB (eq n7 n1) (
          out .ret [(.bool false), (.int .i64 0), gv ws0 2, gv ws0 3, gv ws0 4, gv ws0 5] h5) (
          ld Try.prog h5 29 (nx h0) (off 0 1) fun v10 =>
          six v10 n5 3 fun b2 b3 =>
          ld Try.prog h5 56 b2 b3 fun v11 =>
          al h5 56 [(.int .i64 0), (.int .i64 0), (.int .i64 0)] fun h6 =>
          st Try.prog h6 56 (nx h5) 0 v11 fun h7 =>
          ld Try.prog h7 56 (nx h5) 0 fun v12 =>
          calls rec h7 73 [v12, gv ws0 2] fun v13 h8 =>
          asB v13 fun q3 =>
          ifB (not q3) (
            out .ret [(.bool false), (.int .i64 0), gv ws0 2, gv ws0 3, gv ws0 4, gv ws0 5] h8) (
            ld Try.prog h8 3 (nx h5) (off 0 2) fun v14 =>
            asI .i64 v14 fun n8 =>
            asI .i64 (gv ws0 3) fun n9 =>
            ifB (le n8 n9) (
              out .ret [(.bool false), (.int .i64 0), gv ws0 2, gv ws0 3, gv ws0 4, gv ws0 5] h8) (
              ld Try.prog h8 56 (nx h5) 0 fun v15 =>
              calls rec h8 74 [v15, gv ws0 2] fun v16 h9 =>
              asI .i64 v16 fun n10 =>
              asI .i64 (gv ws0 4) fun n11 =>
              nn n10 (
                ifB (eq (and .i64 (shr .i64 n11 n10) 1) 1) (
                  out .ret [(.bool false), (.int .i64 0), gv ws0 2, gv ws0 3, gv ws0 4, gv ws0 5] h9) (
                  ld Try.prog h9 56 (nx h5) 0 fun v17 =>
                  calls rec h9 74 [v17, gv ws0 2] fun v18 h10 =>
                  asI .i64 v18 fun n12 =>
                  ld Try.prog h10 3 (nx h5) (off 0 2) fun v19 =>
                  asI .i64 v19 fun n13 =>
                  ck (freq (nx h5) (nx h9) (same h10 h9)) (
                    nn n12 (
                      asI .i64 (gv ws0 4) fun n14 =>
                      asI .i64 (gv ws0 5) fun n15 =>
                      out .normal [gv ws0 0, gv ws0 1, (.int .i64 n12), (.int .i64 n13), (.int .i64 (or .i64 n14 (shl .i64 1 n12))), (.int .i64 (add .i64 n15 1))] h10)))))))))) (
    out (.exit 0) [gv ws0 0, gv ws0 1, gv ws0 2, gv ws0 3, gv ws0 4, gv ws0 5] h5)

noncomputable def f27 (rec : Rec) (k : Nat) (v0 : Value) (n0 : Int) (n1 : Int) (v1 : Value) (h0 : H) : Option (Value × H) :=
  bx h0 31 v0 fun h1 =>
  ld Try.prog h1 31 (nx h0) 0 fun v2 =>
  calls rec h1 71 [v2] fun v3 h2 =>
  asB v3 fun q0 =>
  ifB (not q0) (
    some ((.tuple #[(.bool false), (.int .i64 2)]), h2)) (
    ld Try.prog h2 31 (nx h0) 0 fun v4 =>
    calls rec h2 72 [v4, (.int .i64 n0)] fun v5 h3 =>
    asB v5 fun q1 =>
    ifB (not q1) (
      some ((.tuple #[(.bool false), (.int .i64 2)]), h3)) (
      ld Try.prog h3 31 (nx h0) 0 fun v6 =>
      calls rec h3 72 [v6, (.int .i64 n1)] fun v7 h4 =>
      asB v7 fun q2 =>
      ifB (not q2) (
        some ((.tuple #[(.bool false), (.int .i64 2)]), h4)) (
        ifB (eq n0 n1) (
          some ((.tuple #[(.bool false), (.int .i64 2)]), h4)) (
          nn n0 (
            len v1 fun n2 =>
            lp k (f27_l1 rec k n1 v1 h0 n2) [(.bool false), (.int .i64 0), (.int .i64 n0), (.int .i64 0), (.int .i64 (shl .i64 1 n0)), (.int .i64 0)] h4 fun e0 ws1 h11 =>
            onE e0 0 (
              asI .i64 (gv ws1 2) fun n16 =>
              some ((.tuple #[(.bool (eq n16 n1)), (.int .i64 0)]), h11)) (
              onR e0 (
                some ((.tuple #[gv ws1 0, gv ws1 1]), h11))))))))

theorem e27 (rec : Rec) (k : Nat) (v0 : Value) (n0 : Int) (n1 : Int) (v1 : Value) (h : H) : bodyT Try.prog E0 SC (XC Try.prog rec k) 27 (Value × H) [.opq v0, .int .i64 n0, .int .i64 n1, .opq v1] h (fun v h => some (v, h)) = f27 rec k v0 n0 n1 v1 h := by kernel_rfl
theorem t27 {k : Nat} {v0 : Value} {n0 : Int} {n1 : Int} {v1 : Value} {h h1 : H} {v : Value} (hh : f27 rn k v0 n0 n1 v1 h = some (v, h1)) : rn 27 #[v0, .int .i64 n0, .int .i64 n1, v1] h = some (v, trunc Try.prog h h1 v) :=
  run_of_bodyT (args := [.opq v0, .int .i64 n0, .int .i64 n1, .opq v1]) rfl ((e27 _ _ _ _ _ _ _).trans hh)
theorem p27 {k : Nat} {v0 : Value} {n0 : Int} {n1 : Int} {v1 : Value} {h h1 : H} {v : Value} (hh : f27 rn k v0 n0 n1 v1 h = some (v, h1)) (hp : plainO v = true) (x : Ext h h1) : rn 27 #[v0, .int .i64 n0, .int .i64 n1, v1] h = some (v, h) := by rw [t27 hh, trunc_pure hp x]
theorem x27 {k : Nat} {v0 : Value} {n0 : Int} {n1 : Int} {v1 : Value} {h h1 : H} {v : Value} (hh : f27 rn k v0 n0 n1 v1 h = some (v, h1)) (hp : plainO v = false) : rn 27 #[v0, .int .i64 n0, .int .i64 n1, v1] h = some (v, h1) := by rw [t27 hh, trunc_not hp]

noncomputable def f28 (rec : Rec) (_k : Nat) (v0 : Value) (h0 : H) : Option (Value × H) :=
  len v0 fun n0 =>
  sli Try.prog h0 25 v0 none (some (.int .i64 (imin n0 26))) none fun v1 =>
  calls rec h0 75 [v1] fun v2 h1 =>
  some (v2, h1)

theorem e28 (rec : Rec) (k : Nat) (v0 : Value) (h : H) : bodyT Try.prog E0 SC (XC Try.prog rec k) 28 (Value × H) [.opq v0] h (fun v h => some (v, h)) = f28 rec k v0 h := by kernel_rfl
theorem t28 {k : Nat} {v0 : Value} {h h1 : H} {v : Value} (hh : f28 rn k v0 h = some (v, h1)) : rn 28 #[v0] h = some (v, trunc Try.prog h h1 v) :=
  run_of_bodyT (args := [.opq v0]) rfl ((e28 _ _ _ _).trans hh)
theorem p28 {k : Nat} {v0 : Value} {h h1 : H} {v : Value} (hh : f28 rn k v0 h = some (v, h1)) (hp : plainO v = true) (x : Ext h h1) : rn 28 #[v0] h = some (v, h) := by rw [t28 hh, trunc_pure hp x]
theorem x28 {k : Nat} {v0 : Value} {h h1 : H} {v : Value} (hh : f28 rn k v0 h = some (v, h1)) (hp : plainO v = false) : rn 28 #[v0] h = some (v, h1) := by rw [t28 hh, trunc_not hp]

noncomputable def f29_l1 (_rec : Rec) (_k : Nat) (n1 : Int) (v1 : Value) (h0 : H) (n2 : Int) (ws0 : List Value) (h2 : H) : Option (Ex × List Value × H) :=
  asI .i64 (gv ws0 4) fun n3 =>
  ifB (lt n3 n2) (
    asK (gv ws0 4) fun n4 =>
    six v1 n4 1 fun b0 b1 =>
    ld Try.prog h2 3 b0 b1 fun v2 =>
    asI .i64 v2 fun n5 =>
    ifB (lt n5 0) (
      out .ret [(.bool false), gv ws0 1, gv ws0 2, gv ws0 3, gv ws0 4] h2) (
      ld Try.prog h2 22 (nx h0) (off 0 1) fun v3 =>
      len v3 fun n6 =>
      ifB (le n6 n5) (
        out .ret [(.bool false), gv ws0 1, gv ws0 2, gv ws0 3, gv ws0 4] h2) (
        asI .i64 (gv ws0 1) fun n7 =>
        ifB (eq n7 n1) (
          out .ret [(.bool false), gv ws0 1, gv ws0 2, gv ws0 3, gv ws0 4] h2) (
          ld Try.prog h2 22 (nx h0) (off 0 1) fun v4 =>
          six v4 n5 3 fun b2 b3 =>
          ld Try.prog h2 59 b2 b3 fun v5 =>
          al h2 59 [(.int .i64 0), (.int .i64 0), (.int .i64 0)] fun h3 =>
          st Try.prog h3 59 (nx h2) 0 v5 fun h4 =>
          ld Try.prog h4 3 (nx h2) 0 fun v6 =>
          asI .i64 v6 fun n8 =>
          asI .i64 (gv ws0 1) fun n9 =>
          ifB (not (eq n8 n9)) (
            ld Try.prog h4 3 (nx h2) (off 0 1) fun v7 =>
            asI .i64 v7 fun n10 =>
            asI .i64 (gv ws0 1) fun n11 =>
            ifB (not (eq n10 n11)) (
              out .ret [(.bool false), gv ws0 1, gv ws0 2, gv ws0 3, gv ws0 4] h4) (
              ld Try.prog h4 3 (nx h2) (off 0 2) fun v8 =>
              asI .i64 v8 fun n12 =>
              asI .i64 (gv ws0 2) fun n13 =>
              ifB (le n12 n13) (
                out .ret [(.bool false), gv ws0 1, gv ws0 2, gv ws0 3, gv ws0 4] h4) (
                ld Try.prog h4 3 (nx h2) 0 fun v9 =>
                asI .i64 v9 fun n14 =>
                ld Try.prog h4 3 (nx h2) (off 0 1) fun v10 =>
                asI .i64 v10 fun n15 =>
                asI .i64 (gv ws0 1) fun n16 =>
                ld Try.prog h4 3 (nx h2) (off 0 2) fun v11 =>
                asI .i64 v11 fun n17 =>
                asI .i64 (gv ws0 3) fun n18 =>
                nn (sub .i64 (add .i64 n14 n15) n16) (
                  ifB (eq (and .i64 (shr .i64 n18 (sub .i64 (add .i64 n14 n15) n16)) 1) 1) (
                    out .ret [(.bool false), (.int .i64 (sub .i64 (add .i64 n14 n15) n16)), (.int .i64 n17), gv ws0 3, gv ws0 4] h4) (
                    nn (sub .i64 (add .i64 n14 n15) n16) (
                      asI .i64 (gv ws0 3) fun n19 =>
                      asI .i64 (gv ws0 4) fun n20 =>
                      out .normal [gv ws0 0, (.int .i64 (sub .i64 (add .i64 n14 n15) n16)), (.int .i64 n17), (.int .i64 (or .i64 n19 (shl .i64 1 (sub .i64 (add .i64 n14 n15) n16)))), (.int .i64 (add .i64 n20 1))] h4)))))) (
            ld Try.prog h4 3 (nx h2) (off 0 2) fun v12 =>
            asI .i64 v12 fun n21 =>
            asI .i64 (gv ws0 2) fun n22 =>
            ifB (le n21 n22) (
              out .ret [(.bool false), gv ws0 1, gv ws0 2, gv ws0 3, gv ws0 4] h4) (
              ld Try.prog h4 3 (nx h2) 0 fun v13 =>
              asI .i64 v13 fun n23 =>
              ld Try.prog h4 3 (nx h2) (off 0 1) fun v14 =>
              asI .i64 v14 fun n24 =>
              asI .i64 (gv ws0 1) fun n25 =>
              ld Try.prog h4 3 (nx h2) (off 0 2) fun v15 =>
              asI .i64 v15 fun n26 =>
              asI .i64 (gv ws0 3) fun n27 =>
              nn (sub .i64 (add .i64 n23 n24) n25) (
                ifB (eq (and .i64 (shr .i64 n27 (sub .i64 (add .i64 n23 n24) n25)) 1) 1) (
                  out .ret [(.bool false), (.int .i64 (sub .i64 (add .i64 n23 n24) n25)), (.int .i64 n26), gv ws0 3, gv ws0 4] h4) (
                  nn (sub .i64 (add .i64 n23 n24) n25) (
                    asI .i64 (gv ws0 3) fun n28 =>
                    asI .i64 (gv ws0 4) fun n29 =>
                    out .normal [gv ws0 0, (.int .i64 (sub .i64 (add .i64 n23 n24) n25)), (.int .i64 n26), (.int .i64 (or .i64 n28 (shl .i64 1 (sub .i64 (add .i64 n23 n24) n25)))), (.int .i64 (add .i64 n29 1))] h4))))))))) (
    out (.exit 0) [gv ws0 0, gv ws0 1, gv ws0 2, gv ws0 3, gv ws0 4] h2)

noncomputable def f29 (rec : Rec) (k : Nat) (v0 : Value) (n0 : Int) (n1 : Int) (v1 : Value) (h0 : H) : Option (Value × H) :=
  bx h0 24 v0 fun h1 =>
  nn n0 (
    len v1 fun n2 =>
    lp k (f29_l1 rec k n1 v1 h0 n2) [(.bool false), (.int .i64 n0), (.int .i64 0), (.int .i64 (shl .i64 1 n0)), (.int .i64 0)] h1 fun e0 ws1 h5 =>
    onE e0 0 (
      asI .i64 (gv ws1 1) fun n30 =>
      ifB (eq n30 n1) (
        len v1 fun n31 =>
        some ((.bool (lt 0 n31)), h5)) (
        some ((.bool false), h5))) (
      onR e0 (
        some (gv ws1 0, h5))))

theorem e29 (rec : Rec) (k : Nat) (v0 : Value) (n0 : Int) (n1 : Int) (v1 : Value) (h : H) : bodyT Try.prog E0 SC (XC Try.prog rec k) 29 (Value × H) [.opq v0, .int .i64 n0, .int .i64 n1, .opq v1] h (fun v h => some (v, h)) = f29 rec k v0 n0 n1 v1 h := by kernel_rfl
theorem t29 {k : Nat} {v0 : Value} {n0 : Int} {n1 : Int} {v1 : Value} {h h1 : H} {v : Value} (hh : f29 rn k v0 n0 n1 v1 h = some (v, h1)) : rn 29 #[v0, .int .i64 n0, .int .i64 n1, v1] h = some (v, trunc Try.prog h h1 v) :=
  run_of_bodyT (args := [.opq v0, .int .i64 n0, .int .i64 n1, .opq v1]) rfl ((e29 _ _ _ _ _ _ _).trans hh)
theorem p29 {k : Nat} {v0 : Value} {n0 : Int} {n1 : Int} {v1 : Value} {h h1 : H} {v : Value} (hh : f29 rn k v0 n0 n1 v1 h = some (v, h1)) (hp : plainO v = true) (x : Ext h h1) : rn 29 #[v0, .int .i64 n0, .int .i64 n1, v1] h = some (v, h) := by rw [t29 hh, trunc_pure hp x]
theorem x29 {k : Nat} {v0 : Value} {n0 : Int} {n1 : Int} {v1 : Value} {h h1 : H} {v : Value} (hh : f29 rn k v0 n0 n1 v1 h = some (v, h1)) (hp : plainO v = false) : rn 29 #[v0, .int .i64 n0, .int .i64 n1, v1] h = some (v, h1) := by rw [t29 hh, trunc_not hp]

noncomputable def f34 (_rec : Rec) (_k : Nat) (n0 : Int) (h0 : H) : Option (Value × H) :=
  ifB (lt n0 4) (
    nz 2 (
      some ((.int .i64 (quo .i64 (mul .i64 n0 (sub .i64 n0 1)) 2)), h0))) (
    some ((.int .i64 (sub .i64 (mul .i64 2 n0) 4)), h0))

theorem e34 (rec : Rec) (k : Nat) (n0 : Int) (h : H) : bodyT Try.prog E0 SC (XC Try.prog rec k) 34 (Value × H) [.int .i64 n0] h (fun v h => some (v, h)) = f34 rec k n0 h := by kernel_rfl
theorem t34 {k : Nat} {n0 : Int} {h h1 : H} {v : Value} (hh : f34 rn k n0 h = some (v, h1)) : rn 34 #[.int .i64 n0] h = some (v, trunc Try.prog h h1 v) :=
  run_of_bodyT (args := [.int .i64 n0]) rfl ((e34 _ _ _ _).trans hh)
theorem p34 {k : Nat} {n0 : Int} {h h1 : H} {v : Value} (hh : f34 rn k n0 h = some (v, h1)) (hp : plainO v = true) (x : Ext h h1) : rn 34 #[.int .i64 n0] h = some (v, h) := by rw [t34 hh, trunc_pure hp x]
theorem x34 {k : Nat} {n0 : Int} {h h1 : H} {v : Value} (hh : f34 rn k n0 h = some (v, h1)) (hp : plainO v = false) : rn 34 #[.int .i64 n0] h = some (v, h1) := by rw [t34 hh, trunc_not hp]

noncomputable def f35_l2 (_rec : Rec) (_k : Nat) (h2 : H) (v17 : Value) (n16 : Int) (ws1 : List Value) (h5 : H) : Option (Ex × List Value × H) :=
  asI .i64 (gv ws1 1) fun n17 =>
  ifB (lt n17 n16) (
    asK (gv ws1 1) fun n18 =>
    six v17 n18 3 fun b2 b3 =>
    ld Try.prog h5 59 b2 b3 fun v18 =>
    al h5 59 [(.int .i64 0), (.int .i64 0), (.int .i64 0)] fun h6 =>
    st Try.prog h6 59 (nx h5) 0 v18 fun h7 =>
    ld Try.prog h7 3 (nx h5) (off 0 2) fun v19 =>
    asI .i64 v19 fun n19 =>
    ld Try.prog h7 3 (nx h2) (off 0 2) fun v20 =>
    asI .i64 v20 fun n20 =>
    ifB (lt n20 n19) (
      out .ret [(.bool false), gv ws1 1] h7) (
      ld Try.prog h7 3 (nx h5) (off 0 2) fun v21 =>
      asI .i64 v21 fun n21 =>
      ld Try.prog h7 3 (nx h2) (off 0 2) fun v22 =>
      asI .i64 v22 fun n22 =>
      ifB (eq n21 n22) (
        ld Try.prog h7 3 (nx h5) 0 fun v23 =>
        asI .i64 v23 fun n23 =>
        ld Try.prog h7 3 (nx h2) 0 fun v24 =>
        asI .i64 v24 fun n24 =>
        ifB (eq n23 n24) (
          out .ret [(.bool false), gv ws1 1] h7) (
          ld Try.prog h7 3 (nx h5) 0 fun v25 =>
          asI .i64 v25 fun n25 =>
          ld Try.prog h7 3 (nx h2) (off 0 1) fun v26 =>
          asI .i64 v26 fun n26 =>
          ifB (eq n25 n26) (
            out .ret [(.bool false), gv ws1 1] h7) (
            ld Try.prog h7 3 (nx h5) (off 0 1) fun v27 =>
            asI .i64 v27 fun n27 =>
            ld Try.prog h7 3 (nx h2) 0 fun v28 =>
            asI .i64 v28 fun n28 =>
            ifB (eq n27 n28) (
              out .ret [(.bool false), gv ws1 1] h7) (
              ld Try.prog h7 3 (nx h5) (off 0 1) fun v29 =>
              asI .i64 v29 fun n29 =>
              ld Try.prog h7 3 (nx h2) (off 0 1) fun v30 =>
              asI .i64 v30 fun n30 =>
              ifB (eq n29 n30) (
                out .ret [(.bool false), gv ws1 1] h7) (
                asI .i64 (gv ws1 1) fun n31 =>
                out .normal [gv ws1 0, (.int .i64 (add .i64 n31 1))] h7))))) (
        asI .i64 (gv ws1 1) fun n32 =>
        out .normal [gv ws1 0, (.int .i64 (add .i64 n32 1))] h7))) (
    out (.exit 2) [gv ws1 0, gv ws1 1] h5)

noncomputable def f35_l1 (rec : Rec) (k : Nat) (h0 : H) (v4 : Value) (n3 : Int) (ws0 : List Value) (h2 : H) : Option (Ex × List Value × H) :=
  asI .i64 (gv ws0 1) fun n4 =>
  ifB (lt n4 n3) (
    asK (gv ws0 1) fun n5 =>
    six v4 n5 3 fun b0 b1 =>
    ld Try.prog h2 59 b0 b1 fun v5 =>
    al h2 59 [(.int .i64 0), (.int .i64 0), (.int .i64 0)] fun h3 =>
    st Try.prog h3 59 (nx h2) 0 v5 fun h4 =>
    ld Try.prog h4 3 (nx h2) 0 fun v6 =>
    asI .i64 v6 fun n6 =>
    ifB (lt n6 0) (
      out .ret [(.bool false), gv ws0 1] h4) (
      ld Try.prog h4 3 (nx h2) 0 fun v7 =>
      asI .i64 v7 fun n7 =>
      ld Try.prog h4 3 (nx h0) 0 fun v8 =>
      asI .i64 v8 fun n8 =>
      ifB (le n8 n7) (
        out .ret [(.bool false), gv ws0 1] h4) (
        ld Try.prog h4 3 (nx h2) (off 0 1) fun v9 =>
        asI .i64 v9 fun n9 =>
        ifB (lt n9 0) (
          out .ret [(.bool false), gv ws0 1] h4) (
          ld Try.prog h4 3 (nx h2) (off 0 1) fun v10 =>
          asI .i64 v10 fun n10 =>
          ld Try.prog h4 3 (nx h0) 0 fun v11 =>
          asI .i64 v11 fun n11 =>
          ifB (le n11 n10) (
            out .ret [(.bool false), gv ws0 1] h4) (
            ld Try.prog h4 3 (nx h2) 0 fun v12 =>
            asI .i64 v12 fun n12 =>
            ld Try.prog h4 3 (nx h2) (off 0 1) fun v13 =>
            asI .i64 v13 fun n13 =>
            ifB (eq n12 n13) (
              out .ret [(.bool false), gv ws0 1] h4) (
              ld Try.prog h4 3 (nx h2) (off 0 2) fun v14 =>
              asI .i64 v14 fun n14 =>
              ifB (lt n14 1) (
                out .ret [(.bool false), gv ws0 1] h4) (
                ld Try.prog h4 3 (nx h2) (off 0 2) fun v15 =>
                asI .i64 v15 fun n15 =>
                ifB (lt 30 n15) (
                  out .ret [(.bool false), gv ws0 1] h4) (
                  ld Try.prog h4 22 (nx h0) (off 0 1) fun v16 =>
                  sli Try.prog h4 22 v16 none (some (gv ws0 1)) none fun v17 =>
                  len v17 fun n16 =>
                  lp k (f35_l2 rec k h2 v17 n16) [gv ws0 0, (.int .i64 0)] h4 fun e0 ws2 h8 =>
                  onE e0 2 (
                    asI .i64 (gv ws0 1) fun n33 =>
                    out .normal [gv ws2 0, (.int .i64 (add .i64 n33 1))] h8) (
                    onR e0 (
                      out .ret [gv ws2 0, gv ws0 1] h8)))))))))) (
    out (.exit 0) [gv ws0 0, gv ws0 1] h2)

noncomputable def f35 (rec : Rec) (k : Nat) (v0 : Value) (h0 : H) : Option (Value × H) :=
  bx h0 24 v0 fun h1 =>
  ld Try.prog h1 3 (nx h0) 0 fun v1 =>
  asI .i64 v1 fun n0 =>
  ifB (lt n0 1) (
    some ((.bool false), h1)) (
    ld Try.prog h1 3 (nx h0) 0 fun v2 =>
    asI .i64 v2 fun n1 =>
    ifB (lt 7 n1) (
      some ((.bool false), h1)) (
      ld Try.prog h1 22 (nx h0) (off 0 1) fun v3 =>
      len v3 fun n2 =>
      ifB (lt 24 n2) (
        some ((.bool false), h1)) (
        ld Try.prog h1 22 (nx h0) (off 0 1) fun v4 =>
        len v4 fun n3 =>
        lp k (f35_l1 rec k h0 v4 n3) [(.bool false), (.int .i64 0)] h1 fun e1 ws3 h9 =>
        onE e1 0 (
          some ((.bool true), h9)) (
          onR e1 (
            some (gv ws3 0, h9))))))

theorem e35 (rec : Rec) (k : Nat) (v0 : Value) (h : H) : bodyT Try.prog E0 SC (XC Try.prog rec k) 35 (Value × H) [.opq v0] h (fun v h => some (v, h)) = f35 rec k v0 h := by kernel_rfl
theorem t35 {k : Nat} {v0 : Value} {h h1 : H} {v : Value} (hh : f35 rn k v0 h = some (v, h1)) : rn 35 #[v0] h = some (v, trunc Try.prog h h1 v) :=
  run_of_bodyT (args := [.opq v0]) rfl ((e35 _ _ _ _).trans hh)
theorem p35 {k : Nat} {v0 : Value} {h h1 : H} {v : Value} (hh : f35 rn k v0 h = some (v, h1)) (hp : plainO v = true) (x : Ext h h1) : rn 35 #[v0] h = some (v, h) := by rw [t35 hh, trunc_pure hp x]
theorem x35 {k : Nat} {v0 : Value} {h h1 : H} {v : Value} (hh : f35 rn k v0 h = some (v, h1)) (hp : plainO v = false) : rn 35 #[v0] h = some (v, h1) := by rw [t35 hh, trunc_not hp]

noncomputable def f36_l1 (_rec : Rec) (_k : Nat) (h0 : H) (v2 : Value) (n0 : Int) (ws0 : List Value) (h3 : H) : Option (Ex × List Value × H) :=
  asI .i64 (gv ws0 1) fun n1 =>
  ifB (lt n1 n0) (
    asK (gv ws0 1) fun n2 =>
    six v2 n2 1 fun b0 b1 =>
    ld Try.prog h3 3 b0 b1 fun v3 =>
    asI .i64 v3 fun n3 =>
    ld Try.prog h3 3 (nx h0) 0 fun v4 =>
    asI .i64 v4 fun n4 =>
    nn n4 (
      ifB (not (eq n3 (sub .i64 (shl .i64 1 n4) 1))) (
        out .ret [(.bool false), gv ws0 1] h3) (
        asI .i64 (gv ws0 1) fun n5 =>
        out .normal [gv ws0 0, (.int .i64 (add .i64 n5 1))] h3))) (
    out (.exit 0) [gv ws0 0, gv ws0 1] h3)

noncomputable def f36 (rec : Rec) (k : Nat) (v0 : Value) (h0 : H) : Option (Value × H) :=
  bx h0 24 v0 fun h1 =>
  ld Try.prog h1 24 (nx h0) 0 fun v1 =>
  calls rec h1 40 [v1] fun v2 h2 =>
  len v2 fun n0 =>
  lp k (f36_l1 rec k h0 v2 n0) [(.bool false), (.int .i64 0)] h2 fun e0 ws1 h4 =>
  onE e0 0 (
    some ((.bool true), h4)) (
    onR e0 (
      some (gv ws1 0, h4)))

theorem e36 (rec : Rec) (k : Nat) (v0 : Value) (h : H) : bodyT Try.prog E0 SC (XC Try.prog rec k) 36 (Value × H) [.opq v0] h (fun v h => some (v, h)) = f36 rec k v0 h := by kernel_rfl
theorem t36 {k : Nat} {v0 : Value} {h h1 : H} {v : Value} (hh : f36 rn k v0 h = some (v, h1)) : rn 36 #[v0] h = some (v, trunc Try.prog h h1 v) :=
  run_of_bodyT (args := [.opq v0]) rfl ((e36 _ _ _ _).trans hh)
theorem p36 {k : Nat} {v0 : Value} {h h1 : H} {v : Value} (hh : f36 rn k v0 h = some (v, h1)) (hp : plainO v = true) (x : Ext h h1) : rn 36 #[v0] h = some (v, h) := by rw [t36 hh, trunc_pure hp x]
theorem x36 {k : Nat} {v0 : Value} {h h1 : H} {v : Value} (hh : f36 rn k v0 h = some (v, h1)) (hp : plainO v = false) : rn 36 #[v0] h = some (v, h1) := by rw [t36 hh, trunc_not hp]

noncomputable def f37_l1 (rec : Rec) (_k : Nat) (v4 : Value) (v5 : Value) (n0 : Int) (ws0 : List Value) (h4 : H) : Option (Ex × List Value × H) :=
  asI .i64 (gv ws0 0) fun n1 =>
  ifB (lt n1 n0) (
    asK (gv ws0 0) fun n2 =>
    six v5 n2 3 fun b0 b1 =>
    ld Try.prog h4 56 b0 b1 fun v6 =>
    al h4 56 [(.int .i64 0), (.int .i64 0), (.int .i64 0)] fun h5 =>
    st Try.prog h5 56 (nx h4) 0 v6 fun h6 =>
    ld Try.prog h6 56 (nx h4) 0 fun v7 =>
    calls rec h6 78 [v4, v7] fun v8 h7 =>
    asB v8 fun _ =>
    asI .i64 (gv ws0 0) fun n3 =>
    out .normal [(.int .i64 (add .i64 n3 1))] h7) (
    out (.exit 0) [gv ws0 0] h4)

noncomputable def f37 (rec : Rec) (k : Nat) (v0 : Value) (h0 : H) : Option (Value × H) :=
  bx h0 31 v0 fun h1 =>
  ld Try.prog h1 31 (nx h0) 0 fun v1 =>
  calls rec h1 71 [v1] fun v2 h2 =>
  asB v2 fun q0 =>
  ifB (not q0) (
    some ((.tuple #[(.slice none 0 0), (.int .i64 2)]), h2)) (
    ld Try.prog h2 31 (nx h0) 0 fun v3 =>
    calls rec h2 77 [v3] fun v4 h3 =>
    ld Try.prog h3 29 (nx h0) (off 0 1) fun v5 =>
    len v5 fun n0 =>
    lp k (f37_l1 rec k v4 v5 n0) [(.int .i64 0)] h3 fun e0 _ h8 =>
    onE e0 0 (
      some ((.tuple #[v4, (.int .i64 0)]), h8)) (
      none))

theorem e37 (rec : Rec) (k : Nat) (v0 : Value) (h : H) : bodyT Try.prog E0 SC (XC Try.prog rec k) 37 (Value × H) [.opq v0] h (fun v h => some (v, h)) = f37 rec k v0 h := by kernel_rfl
theorem t37 {k : Nat} {v0 : Value} {h h1 : H} {v : Value} (hh : f37 rn k v0 h = some (v, h1)) : rn 37 #[v0] h = some (v, trunc Try.prog h h1 v) :=
  run_of_bodyT (args := [.opq v0]) rfl ((e37 _ _ _ _).trans hh)
theorem p37 {k : Nat} {v0 : Value} {h h1 : H} {v : Value} (hh : f37 rn k v0 h = some (v, h1)) (hp : plainO v = true) (x : Ext h h1) : rn 37 #[v0] h = some (v, h) := by rw [t37 hh, trunc_pure hp x]
theorem x37 {k : Nat} {v0 : Value} {h h1 : H} {v : Value} (hh : f37 rn k v0 h = some (v, h1)) (hp : plainO v = false) : rn 37 #[v0] h = some (v, h1) := by rw [t37 hh, trunc_not hp]

noncomputable def f38_l1 (_rec : Rec) (_k : Nat) (h0 : H) (v6 : Value) (n1 : Int) (ws0 : List Value) (h5 : H) : Option (Ex × List Value × H) :=
  asI .i64 (gv ws0 2) fun n2 =>
  ifB (lt n2 n1) (
    asK (gv ws0 2) fun n3 =>
    six v6 n3 3 fun b0 b1 =>
    ld Try.prog h5 56 b0 b1 fun v7 =>
    al h5 56 [(.int .i64 0), (.int .i64 0), (.int .i64 0)] fun h6 =>
    st Try.prog h6 56 (nx h5) 0 v7 fun h7 =>
    ld Try.prog h7 3 (nx h5) 0 fun v8 =>
    asI .i64 v8 fun n4 =>
    asI .i64 (gv ws0 0) fun n5 =>
    nn n4 (
      ifB (eq (and .i64 (shr .i64 n5 n4) 1) 1) (
        ld Try.prog h7 3 (nx h5) 0 fun v9 =>
        asI .i64 v9 fun n6 =>
        nn n6 (
          ld Try.prog h7 3 (nx h5) (off 0 1) fun v10 =>
          asI .i64 v10 fun n7 =>
          nn n7 (
            asI .i64 (gv ws0 0) fun n8 =>
            asI .i64 (gv ws0 2) fun n9 =>
            ld Try.prog h7 29 (nx h0) (off 0 1) fun v11 =>
            len v11 fun n10 =>
            ifB (eq (add .i64 n9 1) n10) (
              bls Try.prog h7 25 1 [(0, (.int .i64 (or .i64 n8 (or .i64 (shl .i64 1 n6) (shl .i64 1 n7)))))] fun v12 h8 =>
              app Try.prog h8 25 25 (gv ws0 1) v12 fun v13 h9 =>
              asI .i64 (gv ws0 2) fun n11 =>
              out .normal [(.int .i64 (or .i64 n8 (or .i64 (shl .i64 1 n6) (shl .i64 1 n7)))), v13, (.int .i64 (add .i64 n11 1))] h9) (
              ld Try.prog h7 29 (nx h0) (off 0 1) fun v14 =>
              asI .i64 (gv ws0 2) fun n12 =>
              six v14 (add .i64 n12 1) 3 fun b2 b3 =>
              ld Try.prog h7 3 b2 (off b3 2) fun v15 =>
              asI .i64 v15 fun n13 =>
              ld Try.prog h7 3 (nx h5) (off 0 2) fun v16 =>
              asI .i64 v16 fun n14 =>
              ifB (lt n14 n13) (
                bls Try.prog h7 25 1 [(0, (.int .i64 (or .i64 n8 (or .i64 (shl .i64 1 n6) (shl .i64 1 n7)))))] fun v17 h10 =>
                app Try.prog h10 25 25 (gv ws0 1) v17 fun v18 h11 =>
                asI .i64 (gv ws0 2) fun n15 =>
                out .normal [(.int .i64 (or .i64 n8 (or .i64 (shl .i64 1 n6) (shl .i64 1 n7)))), v18, (.int .i64 (add .i64 n15 1))] h11) (
                asI .i64 (gv ws0 2) fun n16 =>
                out .normal [(.int .i64 (or .i64 n8 (or .i64 (shl .i64 1 n6) (shl .i64 1 n7)))), gv ws0 1, (.int .i64 (add .i64 n16 1))] h7))))) (
        ld Try.prog h7 3 (nx h5) (off 0 1) fun v19 =>
        asI .i64 v19 fun n17 =>
        asI .i64 (gv ws0 0) fun n18 =>
        nn n17 (
          ifB (eq (and .i64 (shr .i64 n18 n17) 1) 1) (
            ld Try.prog h7 3 (nx h5) 0 fun v20 =>
            asI .i64 v20 fun n19 =>
            nn n19 (
              ld Try.prog h7 3 (nx h5) (off 0 1) fun v21 =>
              asI .i64 v21 fun n20 =>
              nn n20 (
                asI .i64 (gv ws0 0) fun n21 =>
                asI .i64 (gv ws0 2) fun n22 =>
                ld Try.prog h7 29 (nx h0) (off 0 1) fun v22 =>
                len v22 fun n23 =>
                ifB (eq (add .i64 n22 1) n23) (
                  bls Try.prog h7 25 1 [(0, (.int .i64 (or .i64 n21 (or .i64 (shl .i64 1 n19) (shl .i64 1 n20)))))] fun v23 h12 =>
                  app Try.prog h12 25 25 (gv ws0 1) v23 fun v24 h13 =>
                  asI .i64 (gv ws0 2) fun n24 =>
                  out .normal [(.int .i64 (or .i64 n21 (or .i64 (shl .i64 1 n19) (shl .i64 1 n20)))), v24, (.int .i64 (add .i64 n24 1))] h13) (
                  ld Try.prog h7 29 (nx h0) (off 0 1) fun v25 =>
                  asI .i64 (gv ws0 2) fun n25 =>
                  six v25 (add .i64 n25 1) 3 fun b4 b5 =>
                  ld Try.prog h7 3 b4 (off b5 2) fun v26 =>
                  asI .i64 v26 fun n26 =>
                  ld Try.prog h7 3 (nx h5) (off 0 2) fun v27 =>
                  asI .i64 v27 fun n27 =>
                  ifB (lt n27 n26) (
                    bls Try.prog h7 25 1 [(0, (.int .i64 (or .i64 n21 (or .i64 (shl .i64 1 n19) (shl .i64 1 n20)))))] fun v28 h14 =>
                    app Try.prog h14 25 25 (gv ws0 1) v28 fun v29 h15 =>
                    asI .i64 (gv ws0 2) fun n28 =>
                    out .normal [(.int .i64 (or .i64 n21 (or .i64 (shl .i64 1 n19) (shl .i64 1 n20)))), v29, (.int .i64 (add .i64 n28 1))] h15) (
                    asI .i64 (gv ws0 2) fun n29 =>
                    out .normal [(.int .i64 (or .i64 n21 (or .i64 (shl .i64 1 n19) (shl .i64 1 n20)))), gv ws0 1, (.int .i64 (add .i64 n29 1))] h7))))) (
            asI .i64 (gv ws0 2) fun n30 =>
            ld Try.prog h7 29 (nx h0) (off 0 1) fun v30 =>
            len v30 fun n31 =>
            ifB (eq (add .i64 n30 1) n31) (
              bls Try.prog h7 25 1 [(0, gv ws0 0)] fun v31 h16 =>
              app Try.prog h16 25 25 (gv ws0 1) v31 fun v32 h17 =>
              asI .i64 (gv ws0 2) fun n32 =>
              out .normal [gv ws0 0, v32, (.int .i64 (add .i64 n32 1))] h17) (
              ld Try.prog h7 29 (nx h0) (off 0 1) fun v33 =>
              asI .i64 (gv ws0 2) fun n33 =>
              six v33 (add .i64 n33 1) 3 fun b6 b7 =>
              ld Try.prog h7 3 b6 (off b7 2) fun v34 =>
              asI .i64 v34 fun n34 =>
              ld Try.prog h7 3 (nx h5) (off 0 2) fun v35 =>
              asI .i64 v35 fun n35 =>
              ifB (lt n35 n34) (
                bls Try.prog h7 25 1 [(0, gv ws0 0)] fun v36 h18 =>
                app Try.prog h18 25 25 (gv ws0 1) v36 fun v37 h19 =>
                asI .i64 (gv ws0 2) fun n36 =>
                out .normal [gv ws0 0, v37, (.int .i64 (add .i64 n36 1))] h19) (
                asI .i64 (gv ws0 2) fun n37 =>
                out .normal [gv ws0 0, gv ws0 1, (.int .i64 (add .i64 n37 1))] h7))))))) (
    out (.exit 0) [gv ws0 0, gv ws0 1, gv ws0 2] h5)

noncomputable def f38 (rec : Rec) (k : Nat) (v0 : Value) (n0 : Int) (h0 : H) : Option (Value × H) :=
  bx h0 31 v0 fun h1 =>
  ld Try.prog h1 31 (nx h0) 0 fun v1 =>
  calls rec h1 71 [v1] fun v2 h2 =>
  asB v2 fun q0 =>
  ifB (not q0) (
    some ((.tuple #[(.slice none 0 0), (.int .i64 2)]), h2)) (
    ld Try.prog h2 31 (nx h0) 0 fun v3 =>
    calls rec h2 72 [v3, (.int .i64 n0)] fun v4 h3 =>
    asB v4 fun q1 =>
    ifB (not q1) (
      some ((.tuple #[(.slice none 0 0), (.int .i64 2)]), h3)) (
      nn n0 (
        bls Try.prog h3 25 1 [(0, (.int .i64 (shl .i64 1 n0)))] fun v5 h4 =>
        ld Try.prog h4 29 (nx h0) (off 0 1) fun v6 =>
        len v6 fun n1 =>
        lp k (f38_l1 rec k h0 v6 n1) [(.int .i64 (shl .i64 1 n0)), v5, (.int .i64 0)] h4 fun e0 ws1 h20 =>
        onE e0 0 (
          some ((.tuple #[gv ws1 1, (.int .i64 0)]), h20)) (
          none))))

theorem e38 (rec : Rec) (k : Nat) (v0 : Value) (n0 : Int) (h : H) : bodyT Try.prog E0 SC (XC Try.prog rec k) 38 (Value × H) [.opq v0, .int .i64 n0] h (fun v h => some (v, h)) = f38 rec k v0 n0 h := by kernel_rfl
theorem t38 {k : Nat} {v0 : Value} {n0 : Int} {h h1 : H} {v : Value} (hh : f38 rn k v0 n0 h = some (v, h1)) : rn 38 #[v0, .int .i64 n0] h = some (v, trunc Try.prog h h1 v) :=
  run_of_bodyT (args := [.opq v0, .int .i64 n0]) rfl ((e38 _ _ _ _ _).trans hh)
theorem p38 {k : Nat} {v0 : Value} {n0 : Int} {h h1 : H} {v : Value} (hh : f38 rn k v0 n0 h = some (v, h1)) (hp : plainO v = true) (x : Ext h h1) : rn 38 #[v0, .int .i64 n0] h = some (v, h) := by rw [t38 hh, trunc_pure hp x]
theorem x38 {k : Nat} {v0 : Value} {n0 : Int} {h h1 : H} {v : Value} (hh : f38 rn k v0 n0 h = some (v, h1)) (hp : plainO v = false) : rn 38 #[v0, .int .i64 n0] h = some (v, h1) := by rw [t38 hh, trunc_not hp]

noncomputable def f39_l1 (rec : Rec) (_k : Nat) (v4 : Value) (v5 : Value) (n0 : Int) (ws0 : List Value) (h4 : H) : Option (Ex × List Value × H) :=
  asI .i64 (gv ws0 1) fun n1 =>
  ifB (lt n1 n0) (
    asK (gv ws0 1) fun n2 =>
    six v5 n2 3 fun b0 b1 =>
    ld Try.prog h4 56 b0 b1 fun v6 =>
    al h4 56 [(.int .i64 0), (.int .i64 0), (.int .i64 0)] fun h5 =>
    st Try.prog h5 56 (nx h4) 0 v6 fun h6 =>
    ld Try.prog h6 56 (nx h4) 0 fun v7 =>
    calls rec h6 78 [v4, v7] fun v8 h7 =>
    asB v8 fun q1 =>
    ifB (not q1) (
      bls Try.prog h7 25 1 [(0, gv ws0 1)] fun v9 h8 =>
      app Try.prog h8 25 25 (gv ws0 0) v9 fun v10 h9 =>
      asI .i64 (gv ws0 1) fun n3 =>
      out .normal [v10, (.int .i64 (add .i64 n3 1))] h9) (
      asI .i64 (gv ws0 1) fun n4 =>
      out .normal [gv ws0 0, (.int .i64 (add .i64 n4 1))] h7)) (
    out (.exit 0) [gv ws0 0, gv ws0 1] h4)

noncomputable def f39 (rec : Rec) (k : Nat) (v0 : Value) (h0 : H) : Option (Value × H) :=
  bx h0 31 v0 fun h1 =>
  ld Try.prog h1 31 (nx h0) 0 fun v1 =>
  calls rec h1 71 [v1] fun v2 h2 =>
  asB v2 fun q0 =>
  ifB (not q0) (
    some ((.tuple #[(.slice none 0 0), (.int .i64 2)]), h2)) (
    ld Try.prog h2 31 (nx h0) 0 fun v3 =>
    calls rec h2 77 [v3] fun v4 h3 =>
    ld Try.prog h3 29 (nx h0) (off 0 1) fun v5 =>
    len v5 fun n0 =>
    lp k (f39_l1 rec k v4 v5 n0) [(.slice none 0 0), (.int .i64 0)] h3 fun e0 ws1 h10 =>
    onE e0 0 (
      some ((.tuple #[gv ws1 0, (.int .i64 0)]), h10)) (
      none))

theorem e39 (rec : Rec) (k : Nat) (v0 : Value) (h : H) : bodyT Try.prog E0 SC (XC Try.prog rec k) 39 (Value × H) [.opq v0] h (fun v h => some (v, h)) = f39 rec k v0 h := by kernel_rfl
theorem t39 {k : Nat} {v0 : Value} {h h1 : H} {v : Value} (hh : f39 rn k v0 h = some (v, h1)) : rn 39 #[v0] h = some (v, trunc Try.prog h h1 v) :=
  run_of_bodyT (args := [.opq v0]) rfl ((e39 _ _ _ _).trans hh)
theorem p39 {k : Nat} {v0 : Value} {h h1 : H} {v : Value} (hh : f39 rn k v0 h = some (v, h1)) (hp : plainO v = true) (x : Ext h h1) : rn 39 #[v0] h = some (v, h) := by rw [t39 hh, trunc_pure hp x]
theorem x39 {k : Nat} {v0 : Value} {h h1 : H} {v : Value} (hh : f39 rn k v0 h = some (v, h1)) (hp : plainO v = false) : rn 39 #[v0] h = some (v, h1) := by rw [t39 hh, trunc_not hp]

noncomputable def f40 (rec : Rec) (_k : Nat) (v0 : Value) (h0 : H) : Option (Value × H) :=
  bx h0 24 v0 fun h1 =>
  ld Try.prog h1 24 (nx h0) 0 fun v1 =>
  calls rec h1 79 [v1] fun v2 h2 =>
  len v2 fun n0 =>
  six v2 (sub .i64 n0 1) 1 fun b0 b1 =>
  ld Try.prog h2 25 b0 b1 fun v3 =>
  some (v3, h2)

theorem e40 (rec : Rec) (k : Nat) (v0 : Value) (h : H) : bodyT Try.prog E0 SC (XC Try.prog rec k) 40 (Value × H) [.opq v0] h (fun v h => some (v, h)) = f40 rec k v0 h := by kernel_rfl
theorem t40 {k : Nat} {v0 : Value} {h h1 : H} {v : Value} (hh : f40 rn k v0 h = some (v, h1)) : rn 40 #[v0] h = some (v, trunc Try.prog h h1 v) :=
  run_of_bodyT (args := [.opq v0]) rfl ((e40 _ _ _ _).trans hh)
theorem p40 {k : Nat} {v0 : Value} {h h1 : H} {v : Value} (hh : f40 rn k v0 h = some (v, h1)) (hp : plainO v = true) (x : Ext h h1) : rn 40 #[v0] h = some (v, h) := by rw [t40 hh, trunc_pure hp x]
theorem x40 {k : Nat} {v0 : Value} {h h1 : H} {v : Value} (hh : f40 rn k v0 h = some (v, h1)) (hp : plainO v = false) : rn 40 #[v0] h = some (v, h1) := by rw [t40 hh, trunc_not hp]

noncomputable def f41_l1 (_rec : Rec) (_k : Nat) (v2 : Value) (n1 : Int) (ws0 : List Value) (h3 : H) : Option (Ex × List Value × H) :=
  asI .i64 (gv ws0 0) fun n2 =>
  ifB (lt n2 n1) (
    asK (gv ws0 0) fun n3 =>
    nn n3 (
      asK (gv ws0 0) fun n4 =>
      six v2 n4 1 fun b0 b1 =>
      st Try.prog h3 3 b0 b1 (.int .i64 (shl .i64 1 n3)) fun h4 =>
      asI .i64 (gv ws0 0) fun n5 =>
      out .normal [(.int .i64 (add .i64 n5 1))] h4)) (
    out (.exit 0) [gv ws0 0] h3)

noncomputable def f41_l2 (_rec : Rec) (_k : Nat) (v2 : Value) (v3 : Value) (n6 : Int) (ws2 : List Value) (h6 : H) : Option (Ex × List Value × H) :=
  asI .i64 (gv ws2 1) fun n7 =>
  ifB (lt n7 n6) (
    asK (gv ws2 1) fun n8 =>
    six v3 n8 3 fun b2 b3 =>
    ld Try.prog h6 59 b2 b3 fun v4 =>
    al h6 59 [(.int .i64 0), (.int .i64 0), (.int .i64 0)] fun h7 =>
    st Try.prog h7 59 (nx h6) 0 v4 fun h8 =>
    ld Try.prog h8 3 (nx h6) 0 fun v5 =>
    asI .i64 v5 fun n9 =>
    six v2 n9 1 fun b4 b5 =>
    ld Try.prog h8 3 b4 b5 fun v6 =>
    asI .i64 v6 fun n10 =>
    ld Try.prog h8 3 (nx h6) (off 0 1) fun v7 =>
    asI .i64 v7 fun n11 =>
    six v2 n11 1 fun b6 b7 =>
    ld Try.prog h8 3 b6 b7 fun v8 =>
    asI .i64 v8 fun n12 =>
    ld Try.prog h8 3 (nx h6) 0 fun v9 =>
    asI .i64 v9 fun n13 =>
    six v2 n13 1 fun b8 b9 =>
    ld Try.prog h8 3 b8 b9 fun v10 =>
    asI .i64 v10 fun n14 =>
    ifB (eq n14 (or .i64 n10 n12)) (
      ld Try.prog h8 3 (nx h6) (off 0 1) fun v11 =>
      asI .i64 v11 fun n15 =>
      six v2 n15 1 fun b10 b11 =>
      ld Try.prog h8 3 b10 b11 fun v12 =>
      asI .i64 v12 fun n16 =>
      ifB (eq n16 (or .i64 n10 n12)) (
        bls Try.prog h8 25 1 [(0, gv ws2 1)] fun v13 h9 =>
        app Try.prog h9 25 25 (gv ws2 0) v13 fun v14 h10 =>
        ld Try.prog h10 3 (nx h6) 0 fun v15 =>
        asI .i64 v15 fun n17 =>
        ld Try.prog h10 3 (nx h6) (off 0 1) fun v16 =>
        asI .i64 v16 fun n18 =>
        six v2 n17 1 fun b12 b13 =>
        st Try.prog h10 3 b12 b13 (.int .i64 (or .i64 n10 n12)) fun h11 =>
        ck (fre (nx h6) (nx h10) (off 0 1) 1 b12 b13 1) (
          six v2 n18 1 fun b14 b15 =>
          st Try.prog h11 3 b14 b15 (.int .i64 (or .i64 n10 n12)) fun h12 =>
          asI .i64 (gv ws2 1) fun n19 =>
          out .normal [v14, (.int .i64 (add .i64 n19 1))] h12)) (
        ld Try.prog h8 3 (nx h6) 0 fun v17 =>
        asI .i64 v17 fun n20 =>
        ld Try.prog h8 3 (nx h6) (off 0 1) fun v18 =>
        asI .i64 v18 fun n21 =>
        six v2 n20 1 fun b16 b17 =>
        st Try.prog h8 3 b16 b17 (.int .i64 (or .i64 n10 n12)) fun h13 =>
        ck (fre (nx h6) (nx h8) (off 0 1) 1 b16 b17 1) (
          six v2 n21 1 fun b18 b19 =>
          st Try.prog h13 3 b18 b19 (.int .i64 (or .i64 n10 n12)) fun h14 =>
          asI .i64 (gv ws2 1) fun n22 =>
          out .normal [gv ws2 0, (.int .i64 (add .i64 n22 1))] h14))) (
      ld Try.prog h8 3 (nx h6) 0 fun v19 =>
      asI .i64 v19 fun n23 =>
      ld Try.prog h8 3 (nx h6) (off 0 1) fun v20 =>
      asI .i64 v20 fun n24 =>
      six v2 n23 1 fun b20 b21 =>
      st Try.prog h8 3 b20 b21 (.int .i64 (or .i64 n10 n12)) fun h15 =>
      ck (fre (nx h6) (nx h8) (off 0 1) 1 b20 b21 1) (
        six v2 n24 1 fun b22 b23 =>
        st Try.prog h15 3 b22 b23 (.int .i64 (or .i64 n10 n12)) fun h16 =>
        asI .i64 (gv ws2 1) fun n25 =>
        out .normal [gv ws2 0, (.int .i64 (add .i64 n25 1))] h16))) (
    out (.exit 2) [gv ws2 0, gv ws2 1] h6)

noncomputable def f41 (rec : Rec) (k : Nat) (v0 : Value) (h0 : H) : Option (Value × H) :=
  bx h0 24 v0 fun h1 =>
  ld Try.prog h1 3 (nx h0) 0 fun v1 =>
  asI .i64 v1 fun n0 =>
  mks Try.prog h1 25 n0 n0 fun v2 h2 =>
  len v2 fun n1 =>
  lp k (f41_l1 rec k v2 n1) [(.int .i64 0)] h2 fun e0 _ h5 =>
  onE e0 0 (
    ld Try.prog h5 22 (nx h0) (off 0 1) fun v3 =>
    len v3 fun n6 =>
    lp k (f41_l2 rec k v2 v3 n6) [(.slice none 0 0), (.int .i64 0)] h5 fun e1 ws3 h17 =>
    onE e1 2 (
      some (gv ws3 0, h17)) (
      none)) (
    none)

theorem e41 (rec : Rec) (k : Nat) (v0 : Value) (h : H) : bodyT Try.prog E0 SC (XC Try.prog rec k) 41 (Value × H) [.opq v0] h (fun v h => some (v, h)) = f41 rec k v0 h := by kernel_rfl
theorem t41 {k : Nat} {v0 : Value} {h h1 : H} {v : Value} (hh : f41 rn k v0 h = some (v, h1)) : rn 41 #[v0] h = some (v, trunc Try.prog h h1 v) :=
  run_of_bodyT (args := [.opq v0]) rfl ((e41 _ _ _ _).trans hh)
theorem p41 {k : Nat} {v0 : Value} {h h1 : H} {v : Value} (hh : f41 rn k v0 h = some (v, h1)) (hp : plainO v = true) (x : Ext h h1) : rn 41 #[v0] h = some (v, h) := by rw [t41 hh, trunc_pure hp x]
theorem x41 {k : Nat} {v0 : Value} {h h1 : H} {v : Value} (hh : f41 rn k v0 h = some (v, h1)) (hp : plainO v = false) : rn 41 #[v0] h = some (v, h1) := by rw [t41 hh, trunc_not hp]

noncomputable def f42 (_rec : Rec) (_k : Nat) (v0 : Value) (n0 : Int) (h0 : H) : Option (Value × H) :=
  bx h0 24 v0 fun h1 =>
  ifB (le 0 n0) (
    ld Try.prog h1 3 (nx h0) 0 fun v1 =>
    asI .i64 v1 fun n1 =>
    some ((.bool (lt n0 n1)), h1)) (
    some ((.bool false), h1))

theorem e42 (rec : Rec) (k : Nat) (v0 : Value) (n0 : Int) (h : H) : bodyT Try.prog E0 SC (XC Try.prog rec k) 42 (Value × H) [.opq v0, .int .i64 n0] h (fun v h => some (v, h)) = f42 rec k v0 n0 h := by kernel_rfl
theorem t42 {k : Nat} {v0 : Value} {n0 : Int} {h h1 : H} {v : Value} (hh : f42 rn k v0 n0 h = some (v, h1)) : rn 42 #[v0, .int .i64 n0] h = some (v, trunc Try.prog h h1 v) :=
  run_of_bodyT (args := [.opq v0, .int .i64 n0]) rfl ((e42 _ _ _ _ _).trans hh)
theorem p42 {k : Nat} {v0 : Value} {n0 : Int} {h h1 : H} {v : Value} (hh : f42 rn k v0 n0 h = some (v, h1)) (hp : plainO v = true) (x : Ext h h1) : rn 42 #[v0, .int .i64 n0] h = some (v, h) := by rw [t42 hh, trunc_pure hp x]
theorem x42 {k : Nat} {v0 : Value} {n0 : Int} {h h1 : H} {v : Value} (hh : f42 rn k v0 n0 h = some (v, h1)) (hp : plainO v = false) : rn 42 #[v0, .int .i64 n0] h = some (v, h1) := by rw [t42 hh, trunc_not hp]

noncomputable def f43_l2 (_rec : Rec) (_k : Nat) (n0 : Int) (v3 : Value) (n4 : Int) (ws1 : List Value) (h4 : H) : Option (Ex × List Value × H) :=
  asI .i64 (gv ws1 1) fun n5 =>
  ifB (lt n5 n4) (
    asK (gv ws1 1) fun n6 =>
    six v3 n6 1 fun b2 b3 =>
    ld Try.prog h4 3 b2 b3 fun v4 =>
    asI .i64 v4 fun n7 =>
    nn n0 (
      asK (gv ws1 1) fun n8 =>
      nn n8 (
        asI .i64 (gv ws1 0) fun n9 =>
        asI .i64 (gv ws1 1) fun n10 =>
        out .normal [(.int .i64 (or .i64 n9 (shl .i64 (and .i64 (shr .i64 n7 n0) 1) n8))), (.int .i64 (add .i64 n10 1))] h4))) (
    out (.exit 2) [gv ws1 0, gv ws1 1] h4)

noncomputable def f43_l1 (rec : Rec) (k : Nat) (n0 : Int) (v2 : Value) (n1 : Int) (ws0 : List Value) (h3 : H) : Option (Ex × List Value × H) :=
  asI .i64 (gv ws0 1) fun n2 =>
  ifB (lt n2 n1) (
    asK (gv ws0 1) fun n3 =>
    six v2 n3 1 fun b0 b1 =>
    ld Try.prog h3 25 b0 b1 fun v3 =>
    len v3 fun n4 =>
    lp k (f43_l2 rec k n0 v3 n4) [(.int .i64 0), (.int .i64 0)] h3 fun e0 ws2 h5 =>
    onE e0 2 (
      bls Try.prog h5 25 1 [(0, gv ws2 0)] fun v5 h6 =>
      app Try.prog h6 25 25 (gv ws0 0) v5 fun v6 h7 =>
      asI .i64 (gv ws0 1) fun n11 =>
      out .normal [v6, (.int .i64 (add .i64 n11 1))] h7) (
      none)) (
    out (.exit 0) [gv ws0 0, gv ws0 1] h3)

noncomputable def f43 (rec : Rec) (k : Nat) (v0 : Value) (n0 : Int) (h0 : H) : Option (Value × H) :=
  bx h0 24 v0 fun h1 =>
  ld Try.prog h1 24 (nx h0) 0 fun v1 =>
  calls rec h1 79 [v1] fun v2 h2 =>
  len v2 fun n1 =>
  lp k (f43_l1 rec k n0 v2 n1) [(.slice none 0 0), (.int .i64 0)] h2 fun e1 ws3 h8 =>
  onE e1 0 (
    some (gv ws3 0, h8)) (
    none)

theorem e43 (rec : Rec) (k : Nat) (v0 : Value) (n0 : Int) (h : H) : bodyT Try.prog E0 SC (XC Try.prog rec k) 43 (Value × H) [.opq v0, .int .i64 n0] h (fun v h => some (v, h)) = f43 rec k v0 n0 h := by kernel_rfl
theorem t43 {k : Nat} {v0 : Value} {n0 : Int} {h h1 : H} {v : Value} (hh : f43 rn k v0 n0 h = some (v, h1)) : rn 43 #[v0, .int .i64 n0] h = some (v, trunc Try.prog h h1 v) :=
  run_of_bodyT (args := [.opq v0, .int .i64 n0]) rfl ((e43 _ _ _ _ _).trans hh)
theorem p43 {k : Nat} {v0 : Value} {n0 : Int} {h h1 : H} {v : Value} (hh : f43 rn k v0 n0 h = some (v, h1)) (hp : plainO v = true) (x : Ext h h1) : rn 43 #[v0, .int .i64 n0] h = some (v, h) := by rw [t43 hh, trunc_pure hp x]
theorem x43 {k : Nat} {v0 : Value} {n0 : Int} {h h1 : H} {v : Value} (hh : f43 rn k v0 n0 h = some (v, h1)) (hp : plainO v = false) : rn 43 #[v0, .int .i64 n0] h = some (v, h1) := by rw [t43 hh, trunc_not hp]

noncomputable def f45 (rec : Rec) (_k : Nat) (v0 : Value) (n0 : Int) (h0 : H) : Option (Value × H) :=
  bx h0 31 v0 fun h1 =>
  ld Try.prog h1 31 (nx h0) 0 fun v1 =>
  calls rec h1 71 [v1] fun v2 h2 =>
  asB v2 fun q0 =>
  ifB (not q0) (
    some ((.tuple #[(.slice none 0 0), (.int .i64 2)]), h2)) (
    ld Try.prog h2 31 (nx h0) 0 fun v3 =>
    calls rec h2 72 [v3, (.int .i64 n0)] fun v4 h3 =>
    asB v4 fun q1 =>
    ifB (not q1) (
      some ((.tuple #[(.slice none 0 0), (.int .i64 2)]), h3)) (
      ld Try.prog h3 31 (nx h0) 0 fun v5 =>
      calls rec h3 81 [v5, (.int .i64 n0), (.int .i64 0)] fun v6 h4 =>
      some ((.tuple #[v6, (.int .i64 0)]), h4)))

theorem e45 (rec : Rec) (k : Nat) (v0 : Value) (n0 : Int) (h : H) : bodyT Try.prog E0 SC (XC Try.prog rec k) 45 (Value × H) [.opq v0, .int .i64 n0] h (fun v h => some (v, h)) = f45 rec k v0 n0 h := by kernel_rfl
theorem t45 {k : Nat} {v0 : Value} {n0 : Int} {h h1 : H} {v : Value} (hh : f45 rn k v0 n0 h = some (v, h1)) : rn 45 #[v0, .int .i64 n0] h = some (v, trunc Try.prog h h1 v) :=
  run_of_bodyT (args := [.opq v0, .int .i64 n0]) rfl ((e45 _ _ _ _ _).trans hh)
theorem p45 {k : Nat} {v0 : Value} {n0 : Int} {h h1 : H} {v : Value} (hh : f45 rn k v0 n0 h = some (v, h1)) (hp : plainO v = true) (x : Ext h h1) : rn 45 #[v0, .int .i64 n0] h = some (v, h) := by rw [t45 hh, trunc_pure hp x]
theorem x45 {k : Nat} {v0 : Value} {n0 : Int} {h h1 : H} {v : Value} (hh : f45 rn k v0 n0 h = some (v, h1)) (hp : plainO v = false) : rn 45 #[v0, .int .i64 n0] h = some (v, h1) := by rw [t45 hh, trunc_not hp]

end Go.AM
