/- Parts of the proof, put together: what the functions of the program answer, and plain laws. -/
import Derived.LoopN
import Derived.Test.YtnhmgokjijlhbaaAmRun
import Derived.Test.YtnhmgokjijlhbaaTms3

section

/- The staged forms of functions 9, 17, 26, 27, 28, 33, 34, 35, 54, 59, 62, 63, 64, 65, 66, 67, 89, 90, 102, and what calls of these answer. -/
namespace Go.AM
open Go.Proofs
noncomputable def f9 (rec : Rec) (_k : Nat) (v0 : Value) (v1 : Value) (n0 : Int) (h0 : H) : Option (Value × H) :=
  calls rec h0 18 [v0] fun v2 h1 =>
  calls rec h1 18 [v1] fun v3 h2 =>
  calls rec h2 27 [v2, v3] fun v4 h3 =>
  ext v4 0 fun v5 =>
  asI .i64 v5 fun n1 =>
  ext v4 1 fun v6 =>
  asI .i64 v6 fun n2 =>
  calls rec h3 18 [v0] fun v7 h4 =>
  calls rec h4 18 [v1] fun v8 h5 =>
  calls rec h5 28 [v7, v8, (.int .i64 n0)] fun v9 h6 =>
  ext v9 0 fun v10 =>
  ext v9 1 fun v11 =>
  asI .i64 v11 fun n3 =>
  calls rec h6 21 [v0] fun v12 h7 =>
  asB v12 fun q0 =>
  ifB (not q0) (
    ifB (eq n1 0) (
      len v10 fun n4 =>
      ifB (eq n4 0) (
        ifB (eq n2 2) (
          ifB (eq n3 2) (
            calls rec h7 19 [] fun v13 h8 =>
            asB v13 fun q1 =>
            some ((.bool q1), h8)) (
            some ((.bool false), h7))) (
          some ((.bool false), h7))) (
        some ((.bool false), h7))) (
      some ((.bool false), h7))) (
    calls rec h7 33 [v0, v1] fun v14 h9 =>
    asB v14 fun q2 =>
    ifB (not q2) (
      ifB (eq n1 0) (
        len v10 fun n5 =>
        ifB (eq n5 0) (
          ifB (eq n2 2) (
            ifB (eq n3 2) (
              calls rec h9 19 [] fun v15 h10 =>
              asB v15 fun q3 =>
              some ((.bool q3), h10)) (
              some ((.bool false), h9))) (
            some ((.bool false), h9))) (
          some ((.bool false), h9))) (
        some ((.bool false), h9))) (
      calls rec h9 34 [v0, v1] fun v16 h11 =>
      asI .i64 v16 fun n6 =>
      ifB (not (eq n1 n6)) (
        some ((.bool false), h11)) (
        ifB (not (eq n2 0)) (
          some ((.bool false), h11)) (
          calls rec h11 19 [] fun v17 h12 =>
          asB v17 fun q4 =>
          ifB (not q4) (
            some ((.bool false), h12)) (
            ifB (lt n0 0) (
              len v10 fun n7 =>
              ifB (eq n7 0) (
                some ((.bool (eq n3 2)), h12)) (
                some ((.bool false), h12))) (
              len v0 fun n8 =>
              ifB (le n8 n0) (
                len v10 fun n9 =>
                ifB (eq n9 0) (
                  some ((.bool (eq n3 2)), h12)) (
                  some ((.bool false), h12))) (
                calls rec h12 35 [v0, v1, (.int .i64 n0)] fun v18 h13 =>
                ext v18 0 fun v19 =>
                ext v18 1 fun v20 =>
                asI .i64 v20 fun n10 =>
                calls rec h13 26 [v10, v19] fun v21 h14 =>
                asB v21 fun q5 =>
                ifB q5 (
                  some ((.bool (eq n3 n10)), h14)) (
                  some ((.bool false), h14)))))))))

theorem e9 (rec : Rec) (k : Nat) (v0 : Value) (v1 : Value) (n0 : Int) (h : H) : bodyT Try.prog E0 SC (XC Try.prog rec k) 9 (Value × H) [.opq v0, .opq v1, .int .i64 n0] h (fun v h => some (v, h)) = f9 rec k v0 v1 n0 h := by kernel_rfl

theorem t9 {k : Nat} {v0 : Value} {v1 : Value} {n0 : Int} {h h1 : H} {v : Value} (hh : f9 rn k v0 v1 n0 h = some (v, h1)) : rn 9 #[v0, v1, .int .i64 n0] h = some (v, trunc Try.prog h h1 v) :=
  run_of_bodyT (args := [.opq v0, .opq v1, .int .i64 n0]) rfl ((e9 _ _ _ _ _ _).trans hh)

theorem x9 {k : Nat} {v0 : Value} {v1 : Value} {n0 : Int} {h h1 : H} {v : Value} (hh : f9 rn k v0 v1 n0 h = some (v, h1)) (hp : plainO v = false) : rn 9 #[v0, v1, .int .i64 n0] h = some (v, h1) := by rw [t9 hh, trunc_not hp]

noncomputable def f17 (rec : Rec) (_k : Nat) (v0 : Value) (h0 : H) : Option (Value × H) :=
  calls rec h0 53 [v0] fun v1 h1 =>
  asB v1 fun q0 =>
  ifB (not q0) (
    some ((.tuple #[(.slice none 0 0), (.int .i64 2)]), h1)) (
    calls rec h1 54 [v0] fun v2 h2 =>
    calls rec h2 55 [v2] fun v3 h3 =>
    eqv Try.prog 22 v3 (.slice none 0 0) fun q1 =>
    ifB q1 (
      some ((.tuple #[(.slice none 0 0), (.int .i64 4)]), h3)) (
      some ((.tuple #[v3, (.int .i64 0)]), h3)))

theorem e17 (rec : Rec) (k : Nat) (v0 : Value) (h : H) : bodyT Try.prog E0 SC (XC Try.prog rec k) 17 (Value × H) [.opq v0] h (fun v h => some (v, h)) = f17 rec k v0 h := by kernel_rfl

theorem t17 {k : Nat} {v0 : Value} {h h1 : H} {v : Value} (hh : f17 rn k v0 h = some (v, h1)) : rn 17 #[v0] h = some (v, trunc Try.prog h h1 v) :=
  run_of_bodyT (args := [.opq v0]) rfl ((e17 _ _ _ _).trans hh)

theorem x17 {k : Nat} {v0 : Value} {h h1 : H} {v : Value} (hh : f17 rn k v0 h = some (v, h1)) (hp : plainO v = false) : rn 17 #[v0] h = some (v, h1) := by rw [t17 hh, trunc_not hp]

noncomputable def f26_l1 (_rec : Rec) (_k : Nat) (v0 : Value) (v1 : Value) (n2 : Int) (ws0 : List Value) (h1 : H) : Option (Ex × List Value × H) :=
  asI .i64 (gv ws0 1) fun n3 =>
  ifB (lt n3 n2) (
    asK (gv ws0 1) fun n4 =>
    six v0 n4 1 fun b0 b1 =>
    ld Try.prog h1 3 b0 b1 fun v2 =>
    asI .i64 v2 fun n5 =>
    asK (gv ws0 1) fun n6 =>
    six v1 n6 1 fun b2 b3 =>
    ld Try.prog h1 3 b2 b3 fun v3 =>
    asI .i64 v3 fun n7 =>
    ifB (not (eq n5 n7)) (
      out .ret [(.bool false), gv ws0 1] h1) (
      asI .i64 (gv ws0 1) fun n8 =>
      out .normal [gv ws0 0, (.int .i64 (add .i64 n8 1))] h1)) (
    out (.exit 0) [gv ws0 0, gv ws0 1] h1)

noncomputable def f26 (rec : Rec) (k : Nat) (v0 : Value) (v1 : Value) (h0 : H) : Option (Value × H) :=
  len v0 fun n0 =>
  len v1 fun n1 =>
  ifB (not (eq n0 n1)) (
    some ((.bool false), h0)) (
    len v0 fun n2 =>
    lp k (f26_l1 rec k v0 v1 n2) [(.bool false), (.int .i64 0)] h0 fun e0 ws1 h2 =>
    onE e0 0 (
      some ((.bool true), h2)) (
      onR e0 (
        some (gv ws1 0, h2))))

theorem e26 (rec : Rec) (k : Nat) (v0 : Value) (v1 : Value) (h : H) : bodyT Try.prog E0 SC (XC Try.prog rec k) 26 (Value × H) [.opq v0, .opq v1] h (fun v h => some (v, h)) = f26 rec k v0 v1 h := by kernel_rfl

noncomputable def f27 (rec : Rec) (_k : Nat) (v0 : Value) (v1 : Value) (h0 : H) : Option (Value × H) :=
  calls rec h0 53 [v0] fun v2 h1 =>
  asB v2 fun q0 =>
  ifB (not q0) (
    some ((.tuple #[(.int .i64 0), (.int .i64 2)]), h1)) (
    calls rec h1 65 [v0, v1] fun v3 h2 =>
    asB v3 fun q1 =>
    ifB (not q1) (
      some ((.tuple #[(.int .i64 0), (.int .i64 2)]), h2)) (
      calls rec h2 54 [v0] fun v4 h3 =>
      nil v4 (
        asP v4 fun b0 b1 =>
        ld Try.prog h3 22 b0 (off b1 2) fun v5 =>
        calls rec h3 66 [v0, v1] fun v6 h4 =>
        asI .i64 v6 fun n0 =>
        ck (freq b0 (nx h3) (same h4 h3)) (
          six v5 n0 1 fun b2 b3 =>
          ld Try.prog h4 3 b2 b3 fun v7 =>
          asI .i64 v7 fun n1 =>
          some ((.tuple #[(.int .i64 n1), (.int .i64 0)]), h4)))))

theorem e27 (rec : Rec) (k : Nat) (v0 : Value) (v1 : Value) (h : H) : bodyT Try.prog E0 SC (XC Try.prog rec k) 27 (Value × H) [.opq v0, .opq v1] h (fun v h => some (v, h)) = f27 rec k v0 v1 h := by kernel_rfl

noncomputable def f28 (rec : Rec) (_k : Nat) (v0 : Value) (v1 : Value) (n0 : Int) (h0 : H) : Option (Value × H) :=
  calls rec h0 53 [v0] fun v2 h1 =>
  asB v2 fun q0 =>
  ifB (not q0) (
    some ((.tuple #[(.slice none 0 0), (.int .i64 2)]), h1)) (
    calls rec h1 65 [v0, v1] fun v3 h2 =>
    asB v3 fun q1 =>
    ifB (not q1) (
      some ((.tuple #[(.slice none 0 0), (.int .i64 2)]), h2)) (
      ifB (lt n0 0) (
        some ((.tuple #[(.slice none 0 0), (.int .i64 2)]), h2)) (
        len v0 fun n1 =>
        ifB (le n1 n0) (
          some ((.tuple #[(.slice none 0 0), (.int .i64 2)]), h2)) (
          calls rec h2 67 [v0, v1, (.int .i64 n0)] fun v4 h3 =>
          ext v4 0 fun v5 =>
          ext v4 1 fun v6 =>
          asB v6 fun q2 =>
          ifB (not q2) (
            some ((.tuple #[(.slice none 0 0), (.int .i64 4)]), h3)) (
            some ((.tuple #[v5, (.int .i64 0)]), h3))))))

theorem e28 (rec : Rec) (k : Nat) (v0 : Value) (v1 : Value) (n0 : Int) (h : H) : bodyT Try.prog E0 SC (XC Try.prog rec k) 28 (Value × H) [.opq v0, .opq v1, .int .i64 n0] h (fun v h => some (v, h)) = f28 rec k v0 v1 n0 h := by kernel_rfl

noncomputable def f33_l1 (_rec : Rec) (_k : Nat) (v0 : Value) (v1 : Value) (n0 : Int) (ws0 : List Value) (h1 : H) : Option (Ex × List Value × H) :=
  asI .i64 (gv ws0 1) fun n1 =>
  ifB (lt n1 n0) (
    asK (gv ws0 1) fun n2 =>
    six v1 n2 1 fun b0 b1 =>
    ld Try.prog h1 3 b0 b1 fun v2 =>
    asI .i64 v2 fun n3 =>
    len v0 fun n4 =>
    asI .i64 (gv ws0 1) fun n5 =>
    ifB (le n4 n5) (
      out .ret [(.bool false), gv ws0 1] h1) (
      ifB (lt n3 1) (
        out .ret [(.bool false), gv ws0 1] h1) (
        asK (gv ws0 1) fun n6 =>
        six v0 n6 1 fun b2 b3 =>
        ld Try.prog h1 3 b2 b3 fun v3 =>
        asI .i64 v3 fun n7 =>
        ifB (lt n7 n3) (
          out .ret [(.bool false), gv ws0 1] h1) (
          asI .i64 (gv ws0 1) fun n8 =>
          out .normal [gv ws0 0, (.int .i64 (add .i64 n8 1))] h1)))) (
    out (.exit 0) [gv ws0 0, gv ws0 1] h1)

noncomputable def f33 (rec : Rec) (k : Nat) (v0 : Value) (v1 : Value) (h0 : H) : Option (Value × H) :=
  len v1 fun n0 =>
  lp k (f33_l1 rec k v0 v1 n0) [(.bool false), (.int .i64 0)] h0 fun e0 ws1 h2 =>
  onE e0 0 (
    len v1 fun n9 =>
    len v0 fun n10 =>
    some ((.bool (eq n9 n10)), h2)) (
    onR e0 (
      some (gv ws1 0, h2)))

theorem e33 (rec : Rec) (k : Nat) (v0 : Value) (v1 : Value) (h : H) : bodyT Try.prog E0 SC (XC Try.prog rec k) 33 (Value × H) [.opq v0, .opq v1] h (fun v h => some (v, h)) = f33 rec k v0 v1 h := by kernel_rfl

noncomputable def f34 (rec : Rec) (_k : Nat) (v0 : Value) (v1 : Value) (h0 : H) : Option (Value × H) :=
  calls rec h0 62 [v0] fun v2 h1 =>
  calls rec h1 63 [v0, v1] fun v3 h2 =>
  asI .i64 v3 fun n0 =>
  six v2 n0 1 fun b0 b1 =>
  ld Try.prog h2 3 b0 b1 fun v4 =>
  asI .i64 v4 fun n1 =>
  some ((.int .i64 n1), h2)

theorem e34 (rec : Rec) (k : Nat) (v0 : Value) (v1 : Value) (h : H) : bodyT Try.prog E0 SC (XC Try.prog rec k) 34 (Value × H) [.opq v0, .opq v1] h (fun v h => some (v, h)) = f34 rec k v0 v1 h := by kernel_rfl

noncomputable def f35 (rec : Rec) (_k : Nat) (v0 : Value) (v1 : Value) (n0 : Int) (h0 : H) : Option (Value × H) :=
  calls rec h0 64 [v0, v1, (.int .i64 n0)] fun v2 h1 =>
  ext v2 0 fun v3 =>
  ext v2 1 fun v4 =>
  asB v4 fun q0 =>
  ifB q0 (
    some ((.tuple #[v3, (.int .i64 0)]), h1)) (
    some ((.tuple #[(.slice none 0 0), (.int .i64 4)]), h1))

theorem e35 (rec : Rec) (k : Nat) (v0 : Value) (v1 : Value) (n0 : Int) (h : H) : bodyT Try.prog E0 SC (XC Try.prog rec k) 35 (Value × H) [.opq v0, .opq v1, .int .i64 n0] h (fun v h => some (v, h)) = f35 rec k v0 v1 n0 h := by kernel_rfl

noncomputable def f54_l2 (rec : Rec) (_k : Nat) (v0 : Value) (ws0 : List Value) (n2 : Int) (ws1 : List Value) (h4 : H) : Option (Ex × List Value × H) :=
  asI .i64 (gv ws1 1) fun n3 =>
  ifB (lt n3 n2) (
    calls rec h4 89 [v0, gv ws0 0] fun v3 h5 =>
    calls rec h5 67 [v0, v3, gv ws1 1] fun v4 h6 =>
    ext v4 0 fun v5 =>
    ext v4 1 fun v6 =>
    asB v6 fun q0 =>
    ifB q0 (
      calls rec h6 66 [v0, v5] fun v7 h7 =>
      asI .i64 v7 fun n4 =>
      bls Try.prog h7 22 1 [(0, (.int .i64 n4))] fun v8 h8 =>
      app Try.prog h8 22 22 (gv ws1 0) v8 fun v9 h9 =>
      asI .i64 (gv ws1 1) fun n5 =>
      out .normal [v9, (.int .i64 (add .i64 n5 1))] h9) (
      bls Try.prog h6 22 1 [(0, (.int .i64 (-1)))] fun v10 h10 =>
      app Try.prog h10 22 22 (gv ws1 0) v10 fun v11 h11 =>
      asI .i64 (gv ws1 1) fun n6 =>
      out .normal [v11, (.int .i64 (add .i64 n6 1))] h11)) (
    out (.exit 2) [gv ws1 0, gv ws1 1] h4)

noncomputable def f54_l1 (rec : Rec) (k : Nat) (v0 : Value) (h0 : H) (n0 : Int) (ws0 : List Value) (h3 : H) : Option (Ex × List Value × H) :=
  asI .i64 (gv ws0 0) fun n1 =>
  ifB (lt n1 n0) (
    len v0 fun n2 =>
    lp k (f54_l2 rec k v0 ws0 n2) [(.slice none 0 0), (.int .i64 0)] h3 fun e0 ws2 h12 =>
    onE e0 2 (
      ld Try.prog h12 60 (nx h0) (off 0 1) fun v12 =>
      bls Try.prog h12 60 1 [(0, gv ws2 0)] fun v13 h13 =>
      app Try.prog h13 60 60 v12 v13 fun v14 h14 =>
      st Try.prog h14 60 (nx h0) (off 0 1) v14 fun h15 =>
      asI .i64 (gv ws0 0) fun n7 =>
      out .normal [(.int .i64 (add .i64 n7 1))] h15) (
      none)) (
    out (.exit 0) [gv ws0 0] h3)

noncomputable def f54_l4 (_rec : Rec) (_k : Nat) (v15 : Value) (v16 : Value) (ws4 : List Value) (v20 : Value) (n11 : Int) (ws5 : List Value) (h23 : H) : Option (Ex × List Value × H) :=
  asI .i64 (gv ws5 0) fun n12 =>
  ifB (lt n12 n11) (
    asK (gv ws5 0) fun n13 =>
    six v20 n13 1 fun b2 b3 =>
    ld Try.prog h23 3 b2 b3 fun v21 =>
    asI .i64 v21 fun n14 =>
    ifB (not (eq n14 (-1))) (
      six v15 n14 1 fun b4 b5 =>
      ld Try.prog h23 22 b4 b5 fun v22 =>
      bls Try.prog h23 22 1 [(0, gv ws4 1)] fun v23 h24 =>
      app Try.prog h24 22 22 v22 v23 fun v24 h25 =>
      six v15 n14 1 fun b6 b7 =>
      st Try.prog h25 22 b6 b7 v24 fun h26 =>
      asK (gv ws4 1) fun n15 =>
      six v16 n15 1 fun b8 b9 =>
      ld Try.prog h26 3 b8 b9 fun v25 =>
      asI .i64 v25 fun n16 =>
      asK (gv ws4 1) fun n17 =>
      six v16 n17 1 fun b10 b11 =>
      st Try.prog h26 3 b10 b11 (.int .i64 (add .i64 n16 1)) fun h27 =>
      asI .i64 (gv ws5 0) fun n18 =>
      out .normal [(.int .i64 (add .i64 n18 1))] h27) (
      asI .i64 (gv ws5 0) fun n19 =>
      out .normal [(.int .i64 (add .i64 n19 1))] h23)) (
    out (.exit 6) [gv ws5 0] h23)

noncomputable def f54_l3 (rec : Rec) (k : Nat) (h0 : H) (v15 : Value) (v16 : Value) (v19 : Value) (n8 : Int) (ws4 : List Value) (h22 : H) : Option (Ex × List Value × H) :=
  asI .i64 (gv ws4 1) fun n9 =>
  ifB (lt n9 n8) (
    asK (gv ws4 1) fun n10 =>
    six v19 n10 1 fun b0 b1 =>
    ld Try.prog h22 22 b0 b1 fun v20 =>
    len v20 fun n11 =>
    lp k (f54_l4 rec k v15 v16 ws4 v20 n11) [(.int .i64 0)] h22 fun e2 _ h28 =>
    onE e2 6 (
      asK (gv ws4 1) fun n20 =>
      six v16 n20 1 fun b12 b13 =>
      ld Try.prog h28 3 b12 b13 fun v26 =>
      asI .i64 v26 fun n21 =>
      ifB (eq n21 0) (
        ld Try.prog h28 22 (nx h0) (off 0 2) fun v27 =>
        asK (gv ws4 1) fun n22 =>
        six v27 n22 1 fun b14 b15 =>
        st Try.prog h28 3 b14 b15 (.int .i64 0) fun h29 =>
        bls Try.prog h29 22 1 [(0, gv ws4 1)] fun v28 h30 =>
        app Try.prog h30 22 22 (gv ws4 0) v28 fun v29 h31 =>
        asI .i64 (gv ws4 1) fun n23 =>
        out .normal [v29, (.int .i64 (add .i64 n23 1))] h31) (
        asI .i64 (gv ws4 1) fun n24 =>
        out .normal [gv ws4 0, (.int .i64 (add .i64 n24 1))] h28)) (
      none)) (
    out (.exit 4) [gv ws4 0, gv ws4 1] h22)

noncomputable def f54_l6 (_rec : Rec) (_k : Nat) (h0 : H) (v16 : Value) (v31 : Value) (n27 : Int) (ws9 : List Value) (h34 : H) : Option (Ex × List Value × H) :=
  asI .i64 (gv ws9 1) fun n28 =>
  ifB (lt n28 n27) (
    asK (gv ws9 1) fun n29 =>
    six v31 n29 1 fun b20 b21 =>
    ld Try.prog h34 3 b20 b21 fun v32 =>
    asI .i64 v32 fun n30 =>
    six v16 n30 1 fun b22 b23 =>
    ld Try.prog h34 3 b22 b23 fun v33 =>
    asI .i64 v33 fun n31 =>
    six v16 n30 1 fun b24 b25 =>
    st Try.prog h34 3 b24 b25 (.int .i64 (sub .i64 n31 1)) fun h35 =>
    six v16 n30 1 fun b26 b27 =>
    ld Try.prog h35 3 b26 b27 fun v34 =>
    asI .i64 v34 fun n32 =>
    ifB (eq n32 0) (
      ld Try.prog h35 22 (nx h0) (off 0 2) fun v35 =>
      ld Try.prog h35 22 (nx h0) (off 0 2) fun v36 =>
      six (gv ws9 0) 0 1 fun b28 b29 =>
      ld Try.prog h35 3 b28 b29 fun v37 =>
      asI .i64 v37 fun n33 =>
      six v36 n33 1 fun b30 b31 =>
      ld Try.prog h35 3 b30 b31 fun v38 =>
      asI .i64 v38 fun n34 =>
      six v35 n30 1 fun b32 b33 =>
      st Try.prog h35 3 b32 b33 (.int .i64 (add .i64 n34 1)) fun h36 =>
      bls Try.prog h36 22 1 [(0, (.int .i64 n30))] fun v39 h37 =>
      app Try.prog h37 22 22 (gv ws9 0) v39 fun v40 h38 =>
      asI .i64 (gv ws9 1) fun n35 =>
      out .normal [v40, (.int .i64 (add .i64 n35 1))] h38) (
      asI .i64 (gv ws9 1) fun n36 =>
      out .normal [gv ws9 0, (.int .i64 (add .i64 n36 1))] h35)) (
    out (.exit 10) [gv ws9 0, gv ws9 1] h34)

noncomputable def f54_l5 (rec : Rec) (k : Nat) (h0 : H) (v15 : Value) (v16 : Value) (ws8 : List Value) (h33 : H) : Option (Ex × List Value × H) :=
  len (gv ws8 0) fun n25 =>
  ifB (lt 0 n25) (
    six (gv ws8 0) 0 1 fun b16 b17 =>
    ld Try.prog h33 3 b16 b17 fun v30 =>
    asI .i64 v30 fun n26 =>
    six v15 n26 1 fun b18 b19 =>
    ld Try.prog h33 22 b18 b19 fun v31 =>
    len v31 fun n27 =>
    lp k (f54_l6 rec k h0 v16 v31 n27) [gv ws8 0, (.int .i64 0)] h33 fun e4 ws10 h39 =>
    onE e4 10 (
      sli Try.prog h39 22 (gv ws10 0) (some (.int .i64 1)) none none fun v41 =>
      out .normal [v41] h39) (
      none)) (
    out (.exit 8) [gv ws8 0] h33)

noncomputable def f54 (rec : Rec) (k : Nat) (v0 : Value) (h0 : H) : Option (Value × H) :=
  bld Try.prog 76 [(0, v0)] fun v1 =>
  bx h0 76 v1 fun h1 =>
  calls rec h1 57 [v0] fun v2 h2 =>
  asI .i64 v2 fun n0 =>
  lp k (f54_l1 rec k v0 h0 n0) [(.int .i64 0)] h2 fun e1 _ h16 =>
  onE e1 0 (
    mks Try.prog h16 60 n0 n0 fun v15 h17 =>
    mks Try.prog h17 22 n0 n0 fun v16 h18 =>
    bls Try.prog h18 22 1 [(0, (.int .i64 (-1)))] fun v17 h19 =>
    calls rec h19 90 [v17, (.int .i64 n0)] fun v18 h20 =>
    st Try.prog h20 22 (nx h0) (off 0 2) v18 fun h21 =>
    ld Try.prog h21 60 (nx h0) (off 0 1) fun v19 =>
    len v19 fun n8 =>
    lp k (f54_l3 rec k h0 v15 v16 v19 n8) [(.slice none 0 0), (.int .i64 0)] h21 fun e3 ws7 h32 =>
    onE e3 4 (
      lp k (f54_l5 rec k h0 v15 v16) [gv ws7 0] h32 fun e5 _ h40 =>
      onE e5 8 (
        some ((pt (nx h0) 0), h40)) (
        none)) (
      none)) (
    none)

theorem e54 (rec : Rec) (k : Nat) (v0 : Value) (h : H) : bodyT Try.prog E0 SC (XC Try.prog rec k) 54 (Value × H) [.opq v0] h (fun v h => some (v, h)) = f54 rec k v0 h := by kernel_rfl

noncomputable def f59 (rec : Rec) (_k : Nat) (v0 : Value) (h0 : H) : Option (Value × H) :=
  calls rec h0 66 [v0, v0] fun v1 h1 =>
  asI .i64 v1 fun n0 =>
  some ((.int .i64 n0), h1)

theorem e59 (rec : Rec) (k : Nat) (v0 : Value) (h : H) : bodyT Try.prog E0 SC (XC Try.prog rec k) 59 (Value × H) [.opq v0] h (fun v h => some (v, h)) = f59 rec k v0 h := by kernel_rfl

noncomputable def f62_l1 (_rec : Rec) (_k : Nat) (v0 : Value) (n0 : Int) (ws0 : List Value) (h1 : H) : Option (Ex × List Value × H) :=
  asI .i64 (gv ws0 1) fun n1 =>
  ifB (lt n1 n0) (
    asK (gv ws0 1) fun n2 =>
    six v0 n2 1 fun b0 b1 =>
    ld Try.prog h1 3 b0 b1 fun v1 =>
    asI .i64 v1 fun n3 =>
    asI .i64 (gv ws0 0) fun n4 =>
    asI .i64 (gv ws0 1) fun n5 =>
    out .normal [(.int .i64 (mul .i64 n4 n3)), (.int .i64 (add .i64 n5 1))] h1) (
    out (.exit 0) [gv ws0 0, gv ws0 1] h1)

noncomputable def f62_l2 (_rec : Rec) (_k : Nat) (v3 : Value) (n9 : Int) (ws2 : List Value) (h5 : H) : Option (Ex × List Value × H) :=
  asI .i64 (gv ws2 0) fun n10 =>
  ifB (lt n10 n9) (
    asK (gv ws2 0) fun n11 =>
    six v3 n11 1 fun b2 b3 =>
    st Try.prog h5 3 b2 b3 (.int .i64 1) fun h6 =>
    asI .i64 (gv ws2 0) fun n12 =>
    out .normal [(.int .i64 (add .i64 n12 1))] h6) (
    out (.exit 2) [gv ws2 0] h5)

noncomputable def f62_l4 (rec : Rec) (_k : Nat) (v0 : Value) (v2 : Value) (v3 : Value) (ws4 : List Value) (n15 : Int) (ws5 : List Value) (h9 : H) : Option (Ex × List Value × H) :=
  asI .i64 (gv ws5 0) fun n16 =>
  ifB (lt n16 n15) (
    calls rec h9 64 [v0, v3, gv ws5 0] fun v4 h10 =>
    ext v4 0 fun v5 =>
    ext v4 1 fun v6 =>
    asB v6 fun q0 =>
    ifB q0 (
      asK (gv ws4 0) fun n17 =>
      six v2 n17 1 fun b4 b5 =>
      ld Try.prog h10 22 b4 b5 fun v7 =>
      calls rec h10 63 [v0, v5] fun v8 h11 =>
      asI .i64 v8 fun n18 =>
      ck (freq b4 (nx h10) (same h11 h10)) (
        bls Try.prog h11 22 1 [(0, (.int .i64 n18))] fun v9 h12 =>
        ck (freq b4 (nx h11) (same h12 h11)) (
          app Try.prog h12 22 22 v7 v9 fun v10 h13 =>
          asK (gv ws4 0) fun n19 =>
          six v2 n19 1 fun b6 b7 =>
          st Try.prog h13 22 b6 b7 v10 fun h14 =>
          asI .i64 (gv ws5 0) fun n20 =>
          out .normal [(.int .i64 (add .i64 n20 1))] h14))) (
      asI .i64 (gv ws5 0) fun n21 =>
      out .normal [(.int .i64 (add .i64 n21 1))] h10)) (
    out (.exit 6) [gv ws5 0] h9)

noncomputable def f62_l5 (_rec : Rec) (_k : Nat) (v0 : Value) (v3 : Value) (ws7 : List Value) (h16 : H) : Option (Ex × List Value × H) :=
  asI .i64 (gv ws7 0) fun n23 =>
  ifB (le 0 n23) (
    asK (gv ws7 0) fun n24 =>
    six v3 n24 1 fun b8 b9 =>
    ld Try.prog h16 3 b8 b9 fun v11 =>
    asI .i64 v11 fun n25 =>
    asK (gv ws7 0) fun n26 =>
    six v3 n26 1 fun b10 b11 =>
    st Try.prog h16 3 b10 b11 (.int .i64 (add .i64 n25 1)) fun h17 =>
    asK (gv ws7 0) fun n27 =>
    six v3 n27 1 fun b12 b13 =>
    ld Try.prog h17 3 b12 b13 fun v12 =>
    asI .i64 v12 fun n28 =>
    asK (gv ws7 0) fun n29 =>
    six v0 n29 1 fun b14 b15 =>
    ld Try.prog h17 3 b14 b15 fun v13 =>
    asI .i64 v13 fun n30 =>
    ifB (le n28 n30) (
      out (.exit 8) [gv ws7 0] h17) (
      asK (gv ws7 0) fun n31 =>
      six v3 n31 1 fun b16 b17 =>
      st Try.prog h17 3 b16 b17 (.int .i64 1) fun h18 =>
      asI .i64 (gv ws7 0) fun n32 =>
      out .normal [(.int .i64 (sub .i64 n32 1))] h18)) (
    out (.exit 8) [gv ws7 0] h16)

noncomputable def f62_l3 (rec : Rec) (k : Nat) (v0 : Value) (ws1 : List Value) (v2 : Value) (v3 : Value) (ws4 : List Value) (h8 : H) : Option (Ex × List Value × H) :=
  asI .i64 (gv ws4 0) fun n13 =>
  asI .i64 (gv ws1 0) fun n14 =>
  ifB (lt n13 n14) (
    len v0 fun n15 =>
    lp k (f62_l4 rec k v0 v2 v3 ws4 n15) [(.int .i64 0)] h8 fun e2 _ h15 =>
    onE e2 6 (
      len v0 fun n22 =>
      lp k (f62_l5 rec k v0 v3) [(.int .i64 (sub .i64 n22 1))] h15 fun e3 _ h19 =>
      onE e3 8 (
        asI .i64 (gv ws4 0) fun n33 =>
        out .normal [(.int .i64 (add .i64 n33 1))] h19) (
        none)) (
      none)) (
    out (.exit 4) [gv ws4 0] h8)

noncomputable def f62_l6 (_rec : Rec) (_k : Nat) (v14 : Value) (n36 : Int) (ws10 : List Value) (h22 : H) : Option (Ex × List Value × H) :=
  asI .i64 (gv ws10 0) fun n37 =>
  ifB (lt n37 n36) (
    asK (gv ws10 0) fun n38 =>
    six v14 n38 1 fun b18 b19 =>
    st Try.prog h22 3 b18 b19 (.int .i64 (-1)) fun h23 =>
    asI .i64 (gv ws10 0) fun n39 =>
    out .normal [(.int .i64 (add .i64 n39 1))] h23) (
    out (.exit 10) [gv ws10 0] h22)

noncomputable def f62_l9 (_rec : Rec) (_k : Nat) (v14 : Value) (v16 : Value) (n45 : Int) (ws14 : List Value) (h27 : H) : Option (Ex × List Value × H) :=
  asI .i64 (gv ws14 1) fun n46 =>
  ifB (lt n46 n45) (
    asK (gv ws14 1) fun n47 =>
    six v16 n47 1 fun b24 b25 =>
    ld Try.prog h27 3 b24 b25 fun v17 =>
    asI .i64 v17 fun n48 =>
    asB (gv ws14 0) fun q1 =>
    ifB q1 (
      asI .i64 (gv ws14 1) fun n49 =>
      out .normal [(.bool true), (.int .i64 (add .i64 n49 1))] h27) (
      six v14 n48 1 fun b26 b27 =>
      ld Try.prog h27 3 b26 b27 fun v18 =>
      asI .i64 v18 fun n50 =>
      asI .i64 (gv ws14 1) fun n51 =>
      out .normal [(.bool (lt n50 0)), (.int .i64 (add .i64 n51 1))] h27)) (
    out (.exit 16) [gv ws14 0, gv ws14 1] h27)

noncomputable def f62_l8 (rec : Rec) (k : Nat) (v2 : Value) (v14 : Value) (n40 : Int) (ws13 : List Value) (h26 : H) : Option (Ex × List Value × H) :=
  asI .i64 (gv ws13 1) fun n41 =>
  ifB (lt n41 n40) (
    asK (gv ws13 1) fun n42 =>
    six v14 n42 1 fun b20 b21 =>
    ld Try.prog h26 3 b20 b21 fun v15 =>
    asI .i64 v15 fun n43 =>
    asK (gv ws13 1) fun n44 =>
    six v2 n44 1 fun b22 b23 =>
    ld Try.prog h26 22 b22 b23 fun v16 =>
    len v16 fun n45 =>
    lp k (f62_l9 rec k v14 v16 n45) [(.bool (le 0 n43)), (.int .i64 0)] h26 fun e6 ws15 h28 =>
    onE e6 16 (
      asB (gv ws15 0) fun q2 =>
      ifB (not q2) (
        bls Try.prog h28 22 1 [(0, gv ws13 1)] fun v19 h29 =>
        app Try.prog h29 22 22 (gv ws13 0) v19 fun v20 h30 =>
        asI .i64 (gv ws13 1) fun n52 =>
        out .normal [v20, (.int .i64 (add .i64 n52 1))] h30) (
        asI .i64 (gv ws13 1) fun n53 =>
        out .normal [gv ws13 0, (.int .i64 (add .i64 n53 1))] h28)) (
      none)) (
    out (.exit 14) [gv ws13 0, gv ws13 1] h26)

noncomputable def f62_l10 (_rec : Rec) (_k : Nat) (v14 : Value) (ws12 : List Value) (ws16 : List Value) (n54 : Int) (ws17 : List Value) (h32 : H) : Option (Ex × List Value × H) :=
  asI .i64 (gv ws17 0) fun n55 =>
  ifB (lt n55 n54) (
    asK (gv ws17 0) fun n56 =>
    six (gv ws16 0) n56 1 fun b28 b29 =>
    ld Try.prog h32 3 b28 b29 fun v21 =>
    asI .i64 v21 fun n57 =>
    six v14 n57 1 fun b30 b31 =>
    st Try.prog h32 3 b30 b31 (gv ws12 1) fun h33 =>
    asI .i64 (gv ws17 0) fun n58 =>
    out .normal [(.int .i64 (add .i64 n58 1))] h33) (
    out (.exit 18) [gv ws17 0] h32)

noncomputable def f62_l7 (rec : Rec) (k : Nat) (v2 : Value) (v14 : Value) (ws12 : List Value) (h25 : H) : Option (Ex × List Value × H) :=
  len v14 fun n40 =>
  lp k (f62_l8 rec k v2 v14 n40) [(.slice none 0 0), (.int .i64 0)] h25 fun e7 ws16 h31 =>
  onE e7 14 (
    len (gv ws16 0) fun n54 =>
    lp k (f62_l10 rec k v14 ws12 ws16 n54) [(.int .i64 0)] h31 fun e8 _ h34 =>
    onE e8 18 (
      len (gv ws16 0) fun n59 =>
      ifB (eq n59 0) (
        out .ret [v14, gv ws12 1] h34) (
        asI .i64 (gv ws12 1) fun n60 =>
        out .normal [gv ws12 0, (.int .i64 (add .i64 n60 1))] h34)) (
      none)) (
    none)

noncomputable def f62 (rec : Rec) (k : Nat) (v0 : Value) (h0 : H) : Option (Value × H) :=
  len v0 fun n0 =>
  lp k (f62_l1 rec k v0 n0) [(.int .i64 1), (.int .i64 0)] h0 fun e0 ws1 h2 =>
  onE e0 0 (
    asK (gv ws1 0) fun n6 =>
    asK (gv ws1 0) fun n7 =>
    mks Try.prog h2 60 n6 n7 fun v2 h3 =>
    len v0 fun n8 =>
    mks Try.prog h3 22 n8 n8 fun v3 h4 =>
    len v3 fun n9 =>
    lp k (f62_l2 rec k v3 n9) [(.int .i64 0)] h4 fun e1 _ h7 =>
    onE e1 2 (
      lp k (f62_l3 rec k v0 ws1 v2 v3) [(.int .i64 0)] h7 fun e4 _ h20 =>
      onE e4 4 (
        asK (gv ws1 0) fun n34 =>
        asK (gv ws1 0) fun n35 =>
        mks Try.prog h20 22 n34 n35 fun v14 h21 =>
        len v14 fun n36 =>
        lp k (f62_l6 rec k v14 n36) [(.int .i64 0)] h21 fun e5 _ h24 =>
        onE e5 10 (
          lp k (f62_l7 rec k v2 v14) [(.slice none 0 0), (.int .i64 0)] h24 fun e9 ws19 h35 =>
          onR e9 (
            some (gv ws19 0, h35))) (
          none)) (
        none)) (
      none)) (
    none)

theorem e62 (rec : Rec) (k : Nat) (v0 : Value) (h : H) : bodyT Try.prog E0 SC (XC Try.prog rec k) 62 (Value × H) [.opq v0] h (fun v h => some (v, h)) = f62 rec k v0 h := by kernel_rfl

noncomputable def f63_l1 (_rec : Rec) (_k : Nat) (v0 : Value) (v1 : Value) (n0 : Int) (ws0 : List Value) (h1 : H) : Option (Ex × List Value × H) :=
  asI .i64 (gv ws0 1) fun n1 =>
  ifB (lt n1 n0) (
    asK (gv ws0 1) fun n2 =>
    six v1 n2 1 fun b0 b1 =>
    ld Try.prog h1 3 b0 b1 fun v2 =>
    asI .i64 v2 fun n3 =>
    asK (gv ws0 1) fun n4 =>
    six v0 n4 1 fun b2 b3 =>
    ld Try.prog h1 3 b2 b3 fun v3 =>
    asI .i64 v3 fun n5 =>
    asI .i64 (gv ws0 0) fun n6 =>
    asI .i64 (gv ws0 1) fun n7 =>
    out .normal [(.int .i64 (sub .i64 (add .i64 (mul .i64 n6 n5) n3) 1)), (.int .i64 (add .i64 n7 1))] h1) (
    out (.exit 0) [gv ws0 0, gv ws0 1] h1)

noncomputable def f63 (rec : Rec) (k : Nat) (v0 : Value) (v1 : Value) (h0 : H) : Option (Value × H) :=
  len v1 fun n0 =>
  lp k (f63_l1 rec k v0 v1 n0) [(.int .i64 0), (.int .i64 0)] h0 fun e0 ws1 h2 =>
  onE e0 0 (
    some (gv ws1 0, h2)) (
    none)

theorem e63 (rec : Rec) (k : Nat) (v0 : Value) (v1 : Value) (h : H) : bodyT Try.prog E0 SC (XC Try.prog rec k) 63 (Value × H) [.opq v0, .opq v1] h (fun v h => some (v, h)) = f63 rec k v0 v1 h := by kernel_rfl

noncomputable def f64_l1 (_rec : Rec) (_k : Nat) (v0 : Value) (n0 : Int) (v3 : Value) (n1 : Int) (ws0 : List Value) (h3 : H) : Option (Ex × List Value × H) :=
  asI .i64 (gv ws0 2) fun n2 =>
  ifB (lt n2 n1) (
    asK (gv ws0 2) fun n3 =>
    six v3 n3 1 fun b0 b1 =>
    ld Try.prog h3 3 b0 b1 fun v4 =>
    asI .i64 v4 fun n4 =>
    asK (gv ws0 2) fun n5 =>
    six v3 n5 1 fun b2 b3 =>
    st Try.prog h3 3 b2 b3 (.int .i64 (sub .i64 n4 1)) fun h4 =>
    asI .i64 (gv ws0 2) fun n6 =>
    ifB (eq n6 n0) (
      asK (gv ws0 2) fun n7 =>
      six v0 n7 1 fun b4 b5 =>
      ld Try.prog h4 3 b4 b5 fun v5 =>
      asI .i64 v5 fun n8 =>
      asK (gv ws0 2) fun n9 =>
      six v3 n9 1 fun b6 b7 =>
      st Try.prog h4 3 b6 b7 (.int .i64 n8) fun h5 =>
      asK (gv ws0 2) fun n10 =>
      six v3 n10 1 fun b8 b9 =>
      ld Try.prog h5 3 b8 b9 fun v6 =>
      asI .i64 v6 fun n11 =>
      ifB (eq n11 0) (
        out .ret [(.slice none 0 0), (.bool false), gv ws0 2] h5) (
        asI .i64 (gv ws0 2) fun n12 =>
        out .normal [gv ws0 0, gv ws0 1, (.int .i64 (add .i64 n12 1))] h5)) (
      asK (gv ws0 2) fun n13 =>
      six v3 n13 1 fun b10 b11 =>
      ld Try.prog h4 3 b10 b11 fun v7 =>
      asI .i64 v7 fun n14 =>
      ifB (eq n14 0) (
        out .ret [(.slice none 0 0), (.bool false), gv ws0 2] h4) (
        asI .i64 (gv ws0 2) fun n15 =>
        out .normal [gv ws0 0, gv ws0 1, (.int .i64 (add .i64 n15 1))] h4))) (
    out (.exit 0) [gv ws0 0, gv ws0 1, gv ws0 2] h3)

noncomputable def f64 (rec : Rec) (k : Nat) (v0 : Value) (v1 : Value) (n0 : Int) (h0 : H) : Option (Value × H) :=
  bls Try.prog h0 22 0 [] fun v2 h1 =>
  app Try.prog h1 22 22 v2 v1 fun v3 h2 =>
  len v3 fun n1 =>
  lp k (f64_l1 rec k v0 n0 v3 n1) [(.slice none 0 0), (.bool false), (.int .i64 0)] h2 fun e0 ws1 h6 =>
  onE e0 0 (
    some ((.tuple #[v3, (.bool true)]), h6)) (
    onR e0 (
      some ((.tuple #[gv ws1 0, gv ws1 1]), h6)))

theorem e64 (rec : Rec) (k : Nat) (v0 : Value) (v1 : Value) (n0 : Int) (h : H) : bodyT Try.prog E0 SC (XC Try.prog rec k) 64 (Value × H) [.opq v0, .opq v1, .int .i64 n0] h (fun v h => some (v, h)) = f64 rec k v0 v1 n0 h := by kernel_rfl

noncomputable def f65_l1 (_rec : Rec) (_k : Nat) (v0 : Value) (v1 : Value) (n2 : Int) (ws0 : List Value) (h1 : H) : Option (Ex × List Value × H) :=
  asI .i64 (gv ws0 1) fun n3 =>
  ifB (lt n3 n2) (
    asK (gv ws0 1) fun n4 =>
    six v1 n4 1 fun b0 b1 =>
    ld Try.prog h1 3 b0 b1 fun v2 =>
    asI .i64 v2 fun n5 =>
    ifB (lt n5 1) (
      out .ret [(.bool false), gv ws0 1] h1) (
      asK (gv ws0 1) fun n6 =>
      six v0 n6 1 fun b2 b3 =>
      ld Try.prog h1 3 b2 b3 fun v3 =>
      asI .i64 v3 fun n7 =>
      ifB (lt n7 n5) (
        out .ret [(.bool false), gv ws0 1] h1) (
        asI .i64 (gv ws0 1) fun n8 =>
        out .normal [gv ws0 0, (.int .i64 (add .i64 n8 1))] h1))) (
    out (.exit 0) [gv ws0 0, gv ws0 1] h1)

noncomputable def f65 (rec : Rec) (k : Nat) (v0 : Value) (v1 : Value) (h0 : H) : Option (Value × H) :=
  len v1 fun n0 =>
  len v0 fun n1 =>
  ifB (not (eq n0 n1)) (
    some ((.bool false), h0)) (
    len v1 fun n2 =>
    lp k (f65_l1 rec k v0 v1 n2) [(.bool false), (.int .i64 0)] h0 fun e0 ws1 h2 =>
    onE e0 0 (
      some ((.bool true), h2)) (
      onR e0 (
        some (gv ws1 0, h2))))

theorem e65 (rec : Rec) (k : Nat) (v0 : Value) (v1 : Value) (h : H) : bodyT Try.prog E0 SC (XC Try.prog rec k) 65 (Value × H) [.opq v0, .opq v1] h (fun v h => some (v, h)) = f65 rec k v0 v1 h := by kernel_rfl

noncomputable def f66_l1 (_rec : Rec) (_k : Nat) (v0 : Value) (v1 : Value) (n0 : Int) (ws0 : List Value) (h1 : H) : Option (Ex × List Value × H) :=
  asI .i64 (gv ws0 1) fun n1 =>
  ifB (lt n1 n0) (
    asK (gv ws0 1) fun n2 =>
    six v0 n2 1 fun b0 b1 =>
    ld Try.prog h1 3 b0 b1 fun v2 =>
    asI .i64 v2 fun n3 =>
    asI .i64 (gv ws0 0) fun n4 =>
    asK (gv ws0 1) fun n5 =>
    six v1 n5 1 fun b2 b3 =>
    ld Try.prog h1 3 b2 b3 fun v3 =>
    asI .i64 v3 fun n6 =>
    asI .i64 (gv ws0 1) fun n7 =>
    out .normal [(.int .i64 (sub .i64 (add .i64 (mul .i64 n4 n3) n6) 1)), (.int .i64 (add .i64 n7 1))] h1) (
    out (.exit 0) [gv ws0 0, gv ws0 1] h1)

noncomputable def f66 (rec : Rec) (k : Nat) (v0 : Value) (v1 : Value) (h0 : H) : Option (Value × H) :=
  len v0 fun n0 =>
  lp k (f66_l1 rec k v0 v1 n0) [(.int .i64 0), (.int .i64 0)] h0 fun e0 ws1 h2 =>
  onE e0 0 (
    some (gv ws1 0, h2)) (
    none)

theorem e66 (rec : Rec) (k : Nat) (v0 : Value) (v1 : Value) (h : H) : bodyT Try.prog E0 SC (XC Try.prog rec k) 66 (Value × H) [.opq v0, .opq v1] h (fun v h => some (v, h)) = f66 rec k v0 v1 h := by kernel_rfl

noncomputable def f67_l1 (_rec : Rec) (_k : Nat) (v0 : Value) (v1 : Value) (n0 : Int) (v2 : Value) (n2 : Int) (ws0 : List Value) (h2 : H) : Option (Ex × List Value × H) :=
  asI .i64 (gv ws0 2) fun n3 =>
  ifB (lt n3 n2) (
    asK (gv ws0 2) fun n4 =>
    six v1 n4 1 fun b0 b1 =>
    ld Try.prog h2 3 b0 b1 fun v3 =>
    asI .i64 v3 fun n5 =>
    asK (gv ws0 2) fun n6 =>
    six v2 n6 1 fun b2 b3 =>
    st Try.prog h2 3 b2 b3 (.int .i64 (sub .i64 n5 1)) fun h3 =>
    asI .i64 (gv ws0 2) fun n7 =>
    ifB (eq n7 n0) (
      asK (gv ws0 2) fun n8 =>
      six v0 n8 1 fun b4 b5 =>
      ld Try.prog h3 3 b4 b5 fun v4 =>
      asI .i64 v4 fun n9 =>
      asK (gv ws0 2) fun n10 =>
      six v2 n10 1 fun b6 b7 =>
      st Try.prog h3 3 b6 b7 (.int .i64 n9) fun h4 =>
      asK (gv ws0 2) fun n11 =>
      six v2 n11 1 fun b8 b9 =>
      ld Try.prog h4 3 b8 b9 fun v5 =>
      asI .i64 v5 fun n12 =>
      ifB (eq n12 0) (
        out .ret [(.slice none 0 0), (.bool false), gv ws0 2] h4) (
        asI .i64 (gv ws0 2) fun n13 =>
        out .normal [gv ws0 0, gv ws0 1, (.int .i64 (add .i64 n13 1))] h4)) (
      asK (gv ws0 2) fun n14 =>
      six v2 n14 1 fun b10 b11 =>
      ld Try.prog h3 3 b10 b11 fun v6 =>
      asI .i64 v6 fun n15 =>
      ifB (eq n15 0) (
        out .ret [(.slice none 0 0), (.bool false), gv ws0 2] h3) (
        asI .i64 (gv ws0 2) fun n16 =>
        out .normal [gv ws0 0, gv ws0 1, (.int .i64 (add .i64 n16 1))] h3))) (
    out (.exit 0) [gv ws0 0, gv ws0 1, gv ws0 2] h2)

noncomputable def f67 (rec : Rec) (k : Nat) (v0 : Value) (v1 : Value) (n0 : Int) (h0 : H) : Option (Value × H) :=
  len v0 fun n1 =>
  mks Try.prog h0 22 n1 n1 fun v2 h1 =>
  len v1 fun n2 =>
  lp k (f67_l1 rec k v0 v1 n0 v2 n2) [(.slice none 0 0), (.bool false), (.int .i64 0)] h1 fun e0 ws1 h5 =>
  onE e0 0 (
    some ((.tuple #[v2, (.bool true)]), h5)) (
    onR e0 (
      some ((.tuple #[gv ws1 0, gv ws1 1]), h5)))

theorem e67 (rec : Rec) (k : Nat) (v0 : Value) (v1 : Value) (n0 : Int) (h : H) : bodyT Try.prog E0 SC (XC Try.prog rec k) 67 (Value × H) [.opq v0, .opq v1, .int .i64 n0] h (fun v h => some (v, h)) = f67 rec k v0 v1 n0 h := by kernel_rfl

noncomputable def f89_l1 (_rec : Rec) (_k : Nat) (v0 : Value) (v1 : Value) (ws0 : List Value) (h2 : H) : Option (Ex × List Value × H) :=
  asI .i64 (gv ws0 1) fun n3 =>
  ifB (le 0 n3) (
    asK (gv ws0 1) fun n4 =>
    six v0 n4 1 fun b0 b1 =>
    ld Try.prog h2 3 b0 b1 fun v2 =>
    asI .i64 v2 fun n5 =>
    asI .i64 (gv ws0 0) fun n6 =>
    nz n5 (
      asK (gv ws0 1) fun n7 =>
      six v1 n7 1 fun b2 b3 =>
      st Try.prog h2 3 b2 b3 (.int .i64 (add .i64 (rem .i64 n6 n5) 1)) fun h3 =>
      asK (gv ws0 1) fun n8 =>
      six v0 n8 1 fun b4 b5 =>
      ld Try.prog h3 3 b4 b5 fun v3 =>
      asI .i64 v3 fun n9 =>
      asI .i64 (gv ws0 0) fun n10 =>
      nz n9 (
        asI .i64 (gv ws0 1) fun n11 =>
        out .normal [(.int .i64 (quo .i64 n10 n9)), (.int .i64 (sub .i64 n11 1))] h3))) (
    out (.exit 0) [gv ws0 0, gv ws0 1] h2)

noncomputable def f89 (rec : Rec) (k : Nat) (v0 : Value) (n0 : Int) (h0 : H) : Option (Value × H) :=
  len v0 fun n1 =>
  mks Try.prog h0 22 n1 n1 fun v1 h1 =>
  len v0 fun n2 =>
  lp k (f89_l1 rec k v0 v1) [(.int .i64 n0), (.int .i64 (sub .i64 n2 1))] h1 fun e0 _ h4 =>
  onE e0 0 (
    some (v1, h4)) (
    none)

theorem e89 (rec : Rec) (k : Nat) (v0 : Value) (n0 : Int) (h : H) : bodyT Try.prog E0 SC (XC Try.prog rec k) 89 (Value × H) [.opq v0, .int .i64 n0] h (fun v h => some (v, h)) = f89 rec k v0 n0 h := by kernel_rfl

noncomputable def f90_l1 (_rec : Rec) (_k : Nat) (v4 : Value) (ws0 : List Value) (h4 : H) : Option (Ex × List Value × H) :=
  len v4 fun n5 =>
  asI .i64 (gv ws0 0) fun n6 =>
  ifB (lt n6 n5) (
    sli Try.prog h4 22 v4 (some (gv ws0 0)) none none fun v5 =>
    sli Try.prog h4 22 v4 none (some (gv ws0 0)) none fun v6 =>
    cpy Try.prog h4 22 v5 v6 fun n7 h5 =>
    asI .i64 (gv ws0 0) fun n8 =>
    out .normal [(.int .i64 (add .i64 n8 n7))] h5) (
    out (.exit 0) [gv ws0 0] h4)

noncomputable def f90 (rec : Rec) (k : Nat) (v0 : Value) (n0 : Int) (h0 : H) : Option (Value × H) :=
  ifB (lt n0 0) (
    none) (
    len v0 fun n1 =>
    calls rec h0 102 [(.int .u64 (wr .u64 n1)), (.int .u64 (wr .u64 n0))] fun v1 h1 =>
    ext v1 0 fun v2 =>
    asI .u64 v2 fun n2 =>
    ext v1 1 fun v3 =>
    asI .u64 v3 fun n3 =>
    ifB (lt 0 n2) (
      none) (
      ifB (lt 9223372036854775807 n3) (
        none) (
        mks Try.prog h1 22 (wr .i64 n3) (wr .i64 n3) fun v4 h2 =>
        cpy Try.prog h2 22 v4 v0 fun n4 h3 =>
        lp k (f90_l1 rec k v4) [(.int .i64 n4)] h3 fun e0 _ h6 =>
        onE e0 0 (
          some (v4, h6)) (
          none))))

theorem e90 (rec : Rec) (k : Nat) (v0 : Value) (n0 : Int) (h : H) : bodyT Try.prog E0 SC (XC Try.prog rec k) 90 (Value × H) [.opq v0, .int .i64 n0] h (fun v h => some (v, h)) = f90 rec k v0 n0 h := by kernel_rfl

noncomputable def f102 (rec : Rec) (_k : Nat) (v0 : Value) (v1 : Value) (h0 : H) : Option (Value × H) :=
  calls rec h0 104 [v0, v1] fun v2 h1 =>
  ext v2 0 fun v3 =>
  asI .u64 v3 fun n0 =>
  ext v2 1 fun v4 =>
  asI .u64 v4 fun n1 =>
  some ((.tuple #[(.int .u64 n0), (.int .u64 n1)]), h1)

theorem e102 (rec : Rec) (k : Nat) (v0 : Value) (v1 : Value) (h : H) : bodyT Try.prog E0 SC (XC Try.prog rec k) 102 (Value × H) [.opq v0, .opq v1] h (fun v h => some (v, h)) = f102 rec k v0 v1 h := by kernel_rfl

end Go.AM

end

section

/- The staged forms of functions 25, 61, 68, and what calls of these answer. -/
/- The staged forms of functions 78, 79, and what calls of these answer. -/
namespace Go.AM
open Go.Proofs
noncomputable def f25_l2 (rec : Rec) (_k : Nat) (v0 : Value) (v1 : Value) (ws0 : List Value) (n3 : Int) (ws1 : List Value) (h5 : H) : Option (Ex × List Value × H) :=
  asI .i64 (gv ws1 2) fun n4 =>
  ifB (lt n4 n3) (
    calls rec h5 64 [v0, gv ws1 0, gv ws1 2] fun v5 h6 =>
    ext v5 0 fun v6 =>
    ext v5 1 fun v7 =>
    asB v7 fun q0 =>
    ifB (not q0) (
      asI .i64 (gv ws1 2) fun n5 =>
      out .normal [gv ws1 0, gv ws1 1, (.int .i64 (add .i64 n5 1))] h6) (
      calls rec h6 63 [v0, v6] fun v8 h7 =>
      asI .i64 v8 fun n6 =>
      six v1 n6 1 fun b2 b3 =>
      ld Try.prog h7 3 b2 b3 fun v9 =>
      asI .i64 v9 fun n7 =>
      asI .i64 (gv ws0 2) fun n8 =>
      ifB (lt n7 (sub .i64 n8 1)) (
        asI .i64 (gv ws1 2) fun n9 =>
        out .normal [gv ws1 0, gv ws1 1, (.int .i64 (add .i64 n9 1))] h7) (
        bls Try.prog h7 22 1 [(0, gv ws1 2)] fun v10 h8 =>
        app Try.prog h8 22 22 (gv ws1 1) v10 fun v11 h9 =>
        out (.exit 2) [v6, v11, gv ws1 2] h9))) (
    out (.exit 2) [gv ws1 0, gv ws1 1, gv ws1 2] h5)

noncomputable def f25_l1 (rec : Rec) (k : Nat) (v0 : Value) (v1 : Value) (ws0 : List Value) (h4 : H) : Option (Ex × List Value × H) :=
  asI .i64 (gv ws0 2) fun n2 =>
  ifB (lt 0 n2) (
    len v0 fun n3 =>
    lp k (f25_l2 rec k v0 v1 ws0 n3) [gv ws0 0, gv ws0 1, (.int .i64 0)] h4 fun e0 ws2 h10 =>
    onE e0 2 (
      asI .i64 (gv ws0 2) fun n10 =>
      out .normal [gv ws2 0, gv ws2 1, (.int .i64 (sub .i64 n10 1))] h10) (
      none)) (
    out (.exit 0) [gv ws0 0, gv ws0 1, gv ws0 2] h4)

noncomputable def f25 (rec : Rec) (k : Nat) (v0 : Value) (h0 : H) : Option (Value × H) :=
  calls rec h0 62 [v0] fun v1 h1 =>
  calls rec h1 63 [v0, v0] fun v2 h2 =>
  asI .i64 v2 fun n0 =>
  six v1 n0 1 fun b0 b1 =>
  ld Try.prog h2 3 b0 b1 fun v3 =>
  asI .i64 v3 fun n1 =>
  ifB (lt n1 0) (
    some ((.tuple #[(.slice none 0 0), (.int .i64 4)]), h2)) (
    bls Try.prog h2 22 0 [] fun v4 h3 =>
    lp k (f25_l1 rec k v0 v1) [v0, v4, (.int .i64 n1)] h3 fun e1 ws3 h11 =>
    onE e1 0 (
      some ((.tuple #[gv ws3 1, (.int .i64 0)]), h11)) (
      none))

theorem e25 (rec : Rec) (k : Nat) (v0 : Value) (h : H) : bodyT Try.prog E0 SC (XC Try.prog rec k) 25 (Value × H) [.opq v0] h (fun v h => some (v, h)) = f25 rec k v0 h := by kernel_rfl

noncomputable def f61 (_rec : Rec) (_k : Nat) (n0 : Int) (v0 : Value) (v1 : Value) (h0 : H) : Option (Value × H) :=
  ifB (not (eq n0 (-1))) (
    asP v0 fun _ _ =>
    asP v0 fun b2 b3 =>
    ld Try.prog h0 70 b2 b3 fun v2 =>
    nil v2 (
      asP v2 fun b4 b5 =>
      ld Try.prog h0 22 b4 (off b5 2) fun v3 =>
      six v3 n0 1 fun b6 b7 =>
      ld Try.prog h0 3 b6 b7 fun v4 =>
      asI .i64 v4 fun n1 =>
      asP v0 fun _ _ =>
      asP v0 fun b10 b11 =>
      ld Try.prog h0 70 b10 b11 fun v5 =>
      nil v5 (
        asP v5 fun b12 b13 =>
        ld Try.prog h0 22 b12 (off b13 2) fun v6 =>
        asP v1 fun _ _ =>
        asP v1 fun b16 b17 =>
        ld Try.prog h0 3 b16 b17 fun v7 =>
        asI .i64 v7 fun n2 =>
        six v6 n2 1 fun b18 b19 =>
        ld Try.prog h0 3 b18 b19 fun v8 =>
        asI .i64 v8 fun n3 =>
        some ((.bool (eq n1 (sub .i64 n3 1))), h0)))) (
    some ((.bool false), h0))

theorem e61 (rec : Rec) (k : Nat) (n0 : Int) (v0 : Value) (v1 : Value) (h : H) : bodyT Try.prog E0 SC (XC Try.prog rec k) 61 (Value × H) [.int .i64 n0, .opq v0, .opq v1] h (fun v h => some (v, h)) = f61 rec k n0 v0 v1 h := by kernel_rfl

noncomputable def f68 (rec : Rec) (_k : Nat) (v0 : Value) (n0 : Int) (n1 : Int) (h0 : H) : Option (Value × H) :=
  len v0 fun n2 =>
  ifB (le 1 n2) (
    len v0 fun n3 =>
    ifB (le n3 n1) (
      calls rec h0 78 [v0] fun v1 h1 =>
      asI .i64 v1 fun n4 =>
      ifB (le 0 n4) (
        calls rec h1 79 [v0] fun v2 h2 =>
        asI .i64 v2 fun n5 =>
        some ((.bool (lt n5 n0)), h2)) (
        some ((.bool false), h1))) (
      some ((.bool false), h0))) (
    some ((.bool false), h0))

theorem e68 (rec : Rec) (k : Nat) (v0 : Value) (n0 : Int) (n1 : Int) (h : H) : bodyT Try.prog E0 SC (XC Try.prog rec k) 68 (Value × H) [.opq v0, .int .i64 n0, .int .i64 n1] h (fun v h => some (v, h)) = f68 rec k v0 n0 n1 h := by kernel_rfl

end Go.AM
namespace Go.AM
open Go.Proofs
noncomputable def f78_l1 (_rec : Rec) (_k : Nat) (v0 : Value) (ws0 : List Value) (h1 : H) : Option (Ex × List Value × H) :=
  len v0 fun n2 =>
  asI .i64 (gv ws0 1) fun n3 =>
  ifB (lt n3 n2) (
    asK (gv ws0 1) fun n4 =>
    six v0 n4 1 fun b2 b3 =>
    ld Try.prog h1 3 b2 b3 fun v2 =>
    asI .i64 v2 fun n5 =>
    asI .i64 (gv ws0 0) fun n6 =>
    asI .i64 (gv ws0 1) fun n7 =>
    out .normal [(.int .i64 (imin n6 n5)), (.int .i64 (add .i64 n7 1))] h1) (
    out (.exit 0) [gv ws0 0, gv ws0 1] h1)

noncomputable def f78 (rec : Rec) (k : Nat) (v0 : Value) (h0 : H) : Option (Value × H) :=
  len v0 fun n0 =>
  ifB (lt n0 1) (
    none) (
    six v0 0 1 fun b0 b1 =>
    ld Try.prog h0 3 b0 b1 fun v1 =>
    asI .i64 v1 fun n1 =>
    lp k (f78_l1 rec k v0) [(.int .i64 n1), (.int .i64 1)] h0 fun e0 ws1 h2 =>
    onE e0 0 (
      some (gv ws1 0, h2)) (
      none))

theorem e78 (rec : Rec) (k : Nat) (v0 : Value) (h : H) : bodyT Try.prog E0 SC (XC Try.prog rec k) 78 (Value × H) [.opq v0] h (fun v h => some (v, h)) = f78 rec k v0 h := by kernel_rfl

theorem t78 {k : Nat} {v0 : Value} {h h1 : H} {v : Value} (hh : f78 rn k v0 h = some (v, h1)) : rn 78 #[v0] h = some (v, trunc Try.prog h h1 v) :=
  run_of_bodyT (args := [.opq v0]) rfl ((e78 _ _ _ _).trans hh)

theorem p78 {k : Nat} {v0 : Value} {h h1 : H} {v : Value} (hh : f78 rn k v0 h = some (v, h1)) (hp : plainO v = true) (x : Ext h h1) : rn 78 #[v0] h = some (v, h) := by rw [t78 hh, trunc_pure hp x]

noncomputable def f79_l1 (_rec : Rec) (_k : Nat) (v0 : Value) (ws0 : List Value) (h1 : H) : Option (Ex × List Value × H) :=
  len v0 fun n2 =>
  asI .i64 (gv ws0 1) fun n3 =>
  ifB (lt n3 n2) (
    asK (gv ws0 1) fun n4 =>
    six v0 n4 1 fun b2 b3 =>
    ld Try.prog h1 3 b2 b3 fun v2 =>
    asI .i64 v2 fun n5 =>
    asI .i64 (gv ws0 0) fun n6 =>
    asI .i64 (gv ws0 1) fun n7 =>
    out .normal [(.int .i64 (imax n6 n5)), (.int .i64 (add .i64 n7 1))] h1) (
    out (.exit 0) [gv ws0 0, gv ws0 1] h1)

noncomputable def f79 (rec : Rec) (k : Nat) (v0 : Value) (h0 : H) : Option (Value × H) :=
  len v0 fun n0 =>
  ifB (lt n0 1) (
    none) (
    six v0 0 1 fun b0 b1 =>
    ld Try.prog h0 3 b0 b1 fun v1 =>
    asI .i64 v1 fun n1 =>
    lp k (f79_l1 rec k v0) [(.int .i64 n1), (.int .i64 1)] h0 fun e0 ws1 h2 =>
    onE e0 0 (
      some (gv ws1 0, h2)) (
      none))

theorem e79 (rec : Rec) (k : Nat) (v0 : Value) (h : H) : bodyT Try.prog E0 SC (XC Try.prog rec k) 79 (Value × H) [.opq v0] h (fun v h => some (v, h)) = f79 rec k v0 h := by kernel_rfl

theorem t79 {k : Nat} {v0 : Value} {h h1 : H} {v : Value} (hh : f79 rn k v0 h = some (v, h1)) : rn 79 #[v0] h = some (v, trunc Try.prog h h1 v) :=
  run_of_bodyT (args := [.opq v0]) rfl ((e79 _ _ _ _).trans hh)

theorem p79 {k : Nat} {v0 : Value} {h h1 : H} {v : Value} (hh : f79 rn k v0 h = some (v, h1)) (hp : plainO v = true) (x : Ext h h1) : rn 79 #[v0] h = some (v, h) := by rw [t79 hh, trunc_pure hp x]

end Go.AM

end

section

/- Two slices: are they the same? The least and the greatest number (the same texts as elsewhere, for claims that need no more). -/
namespace Go.AM
open Go.Proofs
variable {R : Type}
attribute [local simp] nx_eq nx_new nx_set blk_new blk_set asI_int asK_int asB_bool asP_ptr al_eq bx_eq len_slice onE_exit onE_ret onR_ret Value.cells d3 d22 w3 cell_new cell_set rd_new rd_set off eq lt le ifB gv out
theorem foldI_lq {α σ : Type} (g : σ → α → σ) : ∀ (l : List α) (i : Nat) (s : σ), foldI (fun _ x st => g st x) l i s = l.foldl g s := by
  intro l
  induction l with
  | nil => intro i s; rfl
  | cons x l ih => intro i s; exact ih _ _

theorem s78q {v : Value} {x0 : Int} {l : List Int} {h : H} (hs : SlR h 3 1 v (cellsI (x0 :: l))) (hlen : l.length < 100000) : rn 78 #[v] h = some (iv (minP (x0 :: l)), h) := by
  refine p78 (k := 200010) (h1 := h) ?_ rfl (.refl _)
  have hn : ∀ {T : Type} (K : Int → Option T), len v K = K ((l.length + 1 : Nat) : Int) := fun K => by rw [hs.len, List.length_map, List.length_cons]
  have hl := lp_same (ρ := Empty) (F := f78_l1 rn 200010 v) (k := 200010) (l := l) (h := h) (fun i st => [iv st, iv ((i : Int) + 1)])
    (fun _ x st => .inl (imin st x)) (fun _ _ => True) (fun _ => .ret) (fun _ => []) 0 (fun st => [iv st, iv ((l.length : Int) + 1)]) (ws := [iv x0, iv 1]) (s0 := x0) rfl trivial (by omega) (by simp)
    (fun _ _ => by simp [f78_l1, hn])
    (by
      intro i x st hx _
      have hi := (List.getElem?_eq_some_iff.1 hx).1
      refine ⟨fun _ _ => trivial, ?_⟩
      have g1 : ∀ (K : Value → Option (Ex × List Value × H)), (six v ((i : Int) + 1) 1 fun b o => (h.cell b o).bind K) = K (iv x) := fun K => hs.c0 (by omega) (x := [iv x]) (by rw [show ((i : Int) + 1).toNat = i + 1 by omega]; simp [hx]) rfl K
      have hadd : add .i64 ((i : Int) + 1) 1 = (i : Int) + 1 + 1 := add64 (by omega) (by omega)
      simp [f78_l1, hn, show i < l.length by omega, g1, rnd, hadd])
  rw [itL_inl (fun _ x st => imin st x), foldI_lq (fun st x => imin st x)] at hl
  have g0 : ∀ (K : Value → Option (Value × H)), (six v 0 1 fun b o => (h.cell b o).bind K) = K (iv x0) := fun K => hs.c0 (by omega) (x := [iv x0]) rfl rfl K
  simp [f78, hn, g0, lp_eq hl.1, minP, show ¬ ((l.length : Int) + 1 < 1) by omega]

theorem s79q {v : Value} {x0 : Int} {l : List Int} {h : H} (hs : SlR h 3 1 v (cellsI (x0 :: l))) (hlen : l.length < 100000) : rn 79 #[v] h = some (iv (maxP (x0 :: l)), h) := by
  refine p79 (k := 200010) (h1 := h) ?_ rfl (.refl _)
  have hn : ∀ {T : Type} (K : Int → Option T), len v K = K ((l.length + 1 : Nat) : Int) := fun K => by rw [hs.len, List.length_map, List.length_cons]
  have hl := lp_same (ρ := Empty) (F := f79_l1 rn 200010 v) (k := 200010) (l := l) (h := h) (fun i st => [iv st, iv ((i : Int) + 1)])
    (fun _ x st => .inl (imax st x)) (fun _ _ => True) (fun _ => .ret) (fun _ => []) 0 (fun st => [iv st, iv ((l.length : Int) + 1)]) (ws := [iv x0, iv 1]) (s0 := x0) rfl trivial (by omega) (by simp)
    (fun _ _ => by simp [f79_l1, hn])
    (by
      intro i x st hx _
      have hi := (List.getElem?_eq_some_iff.1 hx).1
      refine ⟨fun _ _ => trivial, ?_⟩
      have g1 : ∀ (K : Value → Option (Ex × List Value × H)), (six v ((i : Int) + 1) 1 fun b o => (h.cell b o).bind K) = K (iv x) := fun K => hs.c0 (by omega) (x := [iv x]) (by rw [show ((i : Int) + 1).toNat = i + 1 by omega]; simp [hx]) rfl K
      have hadd : add .i64 ((i : Int) + 1) 1 = (i : Int) + 1 + 1 := add64 (by omega) (by omega)
      simp [f79_l1, hn, show i < l.length by omega, g1, rnd, hadd])
  rw [itL_inl (fun _ x st => imax st x), foldI_lq (fun st x => imax st x)] at hl
  have g0 : ∀ (K : Value → Option (Value × H)), (six v 0 1 fun b o => (h.cell b o).bind K) = K (iv x0) := fun K => hs.c0 (by omega) (x := [iv x0]) rfl rfl K
  simp [f79, hn, g0, lp_eq hl.1, maxP, show ¬ ((l.length : Int) + 1 < 1) by omega]

end Go.AM

end

section

/- Timetable, Check, and the document's; RoundsTables. -/
namespace Go.AM
open Go.Proofs
variable {R : Type}
attribute [local simp] nx_eq nx_new nx_set blk_new blk_set asI_int asK_int asB_bool asP_ptr al_eq bx_eq len_slice onE_exit onE_ret onR_ret Value.cells d3 d4 d22 d27 d45 d47 d50 d52 d67 d88 d89 w22 w27 cell_new cell_set rd_new rd_set off eq lt le ifB gv out eqF1 eqF2 eqF3 eqF4 eqF5 eqF6 eqF7 eqF8 ext20 ext21
/-- The first right timetable. -/
def tableP (p e : Int) (l : List Sp) : Option (List Int) := firstP p l (fullS l) e.toNat []

/-- Is a timetable right? -/
def rightP (p e : Int) (l : List Sp) (t : List Int) : Bool := decide ((t.length : Int) = e) && t.all (fun x => decide (0 ≤ x) && decide (x < p)) && l.all (fun c => keepP p c (atI t c.a) (atI t c.b))

theorem shl_full {l : List Sp} (h : l.length ≤ 12) : sub .i64 (AM.shl .i64 1 (l.length : Int)) 1 = (fullS l : Int) := by
  have h1 : 2 ^ l.length ≤ 2 ^ 12 := Nat.pow_le_pow_right (by omega) h
  have h2 : 0 < 2 ^ l.length := Nat.pos_of_ne_zero (by simp)
  rw [shl1_nat (by omega), sub64 (by omega) (by omega)]
  unfold fullS
  omega

theorem s47 {p e : Int} {sl : Value} {l : List Sp} {h : H} (hs : SlR h 67 4 sl (l.map Sp.cells)) :
    ∃ v' h' c, rn 47 #[.agg #[iv p, iv e, sl]] h = some (.tuple #[v', iv c], h') ∧ Ext h h' ∧
      (tabOk p e l = false ∧ v' = .slice none 0 0 ∧ c = 2 ∨ tabOk p e l = true ∧ tableP p e l = none ∧ v' = .slice none 0 0 ∧ c = 4 ∨ tabOk p e l = true ∧ c = 0 ∧ ∃ r, tableP p e l = some r ∧ r.length = e.toNat ∧ SlR h' 3 1 v' (cellsI r)) := by
  have x1 := Ext.new h (.row [iv p, iv e, sl] 52 true)
  have hb1 : (h.new (.row [iv p, iv e, sl] 52 true)).blk h.nx = some (.row [iv p, iv e, sl] 52 true) := blk_new_self _ _
  have kbx : ∀ (K : H → Option (Value × H)), bx h 52 (.agg #[iv p, iv e, sl]) K = K (h.new (.row [iv p, iv e, sl] 52 true)) := fun K => rfl
  have hs1 := hs.ext x1
  generalize h.new (.row [iv p, iv e, sl] 52 true) = h1 at *
  have c71 := fun (K : Value → H → Option (Value × H)) => calls_eq (K := K) (xs := [.agg #[iv p, iv e, sl]]) (s71 (p := p) (e := e) hs1)
  have hsn : ∀ {T : Type} (K : Int → Option T), len sl K = K (l.length : Int) := fun K => by rw [hs.len]; simp
  by_cases hv : tabOk p e l = true
  · have he6 : 1 ≤ e ∧ e ≤ 6 := by simp only [tabOk, Bool.and_eq_true, decide_eq_true_iff] at hv; omega
    have hl12 : l.length ≤ 12 := by simp [tabOk] at hv; omega
    have hfl : fullS l < 2 ^ 62 := by
      have h1 : 2 ^ l.length ≤ 2 ^ 12 := Nat.pow_le_pow_right (by omega) hl12
      unfold fullS; omega
    obtain ⟨v', h', e77, x', hres⟩ := s77 hv hfl hs1
    have c77 := fun (K : Value → H → Option (Value × H)) => calls_eq (K := K) (xs := [.agg #[iv p, iv e, sl], iv (fullS l)]) e77
    rcases hres with ⟨hno, rfl⟩ | ⟨r, hyes, hrl, hsr⟩
    · refine ⟨.slice none 0 0, h', 4, x47 (k := 0) ?_ rfl, x1.trans x', .inr (.inl ⟨hv, hno, rfl, rfl⟩)⟩
      have kn : ∀ (K : Bool → Option (Value × H)), eqv Try.prog 22 (.slice none 0 0) (.slice none 0 0) K = K true := fun K => by unfold eqv; rw [nil22]
      unfold f47
      rw [kbx]
      simp [rd_of hb1, c71, hv, cell_of hb1, hsn, nn_ge, shl_full hl12, c77, kn]
    · refine ⟨v', h', 0, x47 (k := 0) ?_ hsr.notR2, x1.trans x', .inr (.inr ⟨hv, rfl, r, hyes, hrl, hsr⟩)⟩
      have hr : r ≠ [] := by intro e; subst e; simp at hrl; omega
      have kn := fun (K : Bool → Option (Value × H)) => nil22e hsr hr K
      unfold f47
      rw [kbx]
      simp [rd_of hb1, c71, hv, cell_of hb1, hsn, nn_ge, shl_full hl12, c77, kn]
  · have hv' : tabOk p e l = false := by simpa using hv
    refine ⟨.slice none 0 0, h1, 2, x47 (k := 0) ?_ rfl, x1, .inl ⟨hv', rfl, rfl⟩⟩
    unfold f47
    rw [kbx]
    simp [rd_of hb1, c71, hv']

theorem s81 {h : H} {c : Sp} {p e : Int} {sv tv : Value} {t : List Int} {b1 b2 : Nat} (hp : 1 ≤ p ∧ p ≤ 12) (hc : 0 ≤ c.a ∧ c.a < t.length ∧ 0 ≤ c.b ∧ c.b < t.length ∧ 0 ≤ c.lo ∧ c.lo ≤ 22) (hr : ∀ x ∈ t, 0 ≤ x ∧ x < p)
    (h1 : b1 < h.nx) (hb1 : h.blk b1 = some (.row [iv p, iv e, sv] 52 true)) (h2 : b2 < h.nx) (hb2 : h.blk b2 = some (.row [tv] 22 true)) (ht : SlR h 3 1 tv (cellsI t)) :
    rn 81 #[c.val, pt b1 0, pt b2 0] h = some (.bool (!keepP p c (atI t c.a) (atI t c.b)), h) := by
  refine p81 (k := 0) (h1 := h.new (.row c.cells 67 true)) ?_ rfl (.new _ _)
  have x1 := Ext.new h (.row c.cells 67 true)
  have hc1 := (x1.blk b1 h1).trans hb1
  have hc2 := (x1.blk b2 h2).trans hb2
  have ht1 := ht.ext x1
  have hcb : (h.new (.row c.cells 67 true)).blk h.nx = some (.row c.cells 67 true) := blk_new_self _ _
  simp only [f81, bx_eq, asP_ptr, Value.cells, Sp.val]
  generalize h.new (.row c.cells 67 true) = g at *
  simp only [Sp.cells] at hcb
  have ea := fun (K : Value → Option (Value × H)) => getS ht1 (i := c.a) (by omega) hc.2.1 K
  have eb := fun (K : Value → Option (Value × H)) => getS ht1 (i := c.b) (by omega) hc.2.2.2.1 K
  have c82 := fun (K : Value → H → Option (Value × H)) => calls_eq (K := K) (xs := [.agg #[iv p, iv e, sv], .agg #[iv c.a, iv c.b, iv c.lo, iv c.hi], iv (atI t c.a), iv (atI t c.b)]) (s82 (e := e) (sl := sv) (c := c) (h := g) hp (by omega) (at_rng hr (by omega) hc.2.1) (at_rng hr (by omega) hc.2.2.2.1))
  simp [rd_of hcb, cell_of hcb, rd_of hc1, cell_of hc2, ea, eb, c82]

theorem s48 {p e : Int} {sl tv : Value} {l : List Sp} {t : List Int} {h : H} (hs : SlR h 67 4 sl (l.map Sp.cells)) (ht : SlR h 3 1 tv (cellsI t)) (ht5 : t.length < 100000) :
    rn 48 #[.agg #[iv p, iv e, sl], tv] h = some (if tabOk p e l = true then .tuple #[.bool (rightP p e l t), iv 0] else .tuple #[.bool false, iv 2], h) := by
  have x1 := Ext.new h (.row [iv p, iv e, sl] 52 true)
  have x2 := Ext.new (h.new (.row [iv p, iv e, sl] 52 true)) (.row [tv] 22 true)
  have xx := x1.trans x2
  have hn2 : ((h.new (.row [iv p, iv e, sl] 52 true)).new (.row [tv] 22 true)).nx = h.nx + 2 := rfl
  have hb1 : ((h.new (.row [iv p, iv e, sl] 52 true)).new (.row [tv] 22 true)).blk h.nx = some (.row [iv p, iv e, sl] 52 true) := by simp
  have hb2 : ((h.new (.row [iv p, iv e, sl] 52 true)).new (.row [tv] 22 true)).blk (h.nx + 1) = some (.row [tv] 22 true) := by simp
  have hs1 := hs.ext xx
  have ht1 := ht.ext xx
  obtain ⟨tx, tn, tc, rfl⟩ := ht.isSl
  have kbx : ∀ (K : H → H → Option (Value × H)), (bx h 52 (.agg #[iv p, iv e, sl]) fun h1 => bx h1 22 (.slice tx tn tc) fun h2 => K h1 h2) = K (h.new (.row [iv p, iv e, sl] 52 true)) ((h.new (.row [iv p, iv e, sl] 52 true)).new (.row [.slice tx tn tc] 22 true)) := fun K => rfl
  have htn : ∀ {T : Type} (K : Int → Option T), len (.slice tx tn tc) K = K (t.length : Int) := fun K => by rw [ht.len]; simp
  have n1 : (h.new (.row [iv p, iv e, sl] 52 true)).nx = h.nx + 1 := rfl
  have hstart : ∀ v g, (AM.ld Try.prog ((h.new (.row [iv p, iv e, sl] 52 true)).new (.row [.slice tx tn tc] 22 true)) 52 h.nx 0 fun v2 => calls rn ((h.new (.row [iv p, iv e, sl] 52 true)).new (.row [.slice tx tn tc] 22 true)) 71 [v2] fun v3 h3 => asB v3 fun q0 =>
      ifB (!q0) (some ((.tuple #[(.bool false), (.int .i64 2)]), h3)) (AM.ld Try.prog h3 22 (h.nx + 1) 0 fun v4 => len v4 fun n0 => AM.ld Try.prog h3 3 h.nx (AM.off 0 1) fun v5 => asI .i64 v5 fun n1 =>
        ifB (!(AM.eq n0 n1)) (some ((.tuple #[(.bool false), (.int .i64 0)]), h3)) (AM.ld Try.prog h3 22 (h.nx + 1) 0 fun v6 => calls rn h3 78 [v6] fun v7 h4 => asI .i64 v7 fun n2 =>
          ifB (AM.lt n2 0) (some ((.tuple #[(.bool false), (.int .i64 0)]), h4)) (AM.ld Try.prog h4 22 (h.nx + 1) 0 fun v8 => calls rn h4 79 [v8] fun v9 h5 => asI .i64 v9 fun n3 => AM.ld Try.prog h5 3 h.nx 0 fun v10 => asI .i64 v10 fun n4 =>
            ck (freq h.nx (AM.nx h4) (same h5 h4)) (ifB (AM.le n4 n3) (some ((.tuple #[(.bool false), (.int .i64 0)]), h5)) (AM.ld Try.prog h5 50 h.nx (AM.off 0 2) fun v11 =>
              calls rn h5 80 [v11, (.func (.func 81) #[] #[(pt h.nx 0), (pt (h.nx + 1) 0)])] fun v12 h6 => asB v12 fun q1 => some ((.tuple #[(.bool (!q1)), (.int .i64 0)]), h6))))))) = some (v, g) → f48 rn 0 (.agg #[iv p, iv e, sl]) (.slice tx tn tc) h = some (v, g) := fun v g hv => hv
  clear kbx
  generalize (h.new (.row [iv p, iv e, sl] 52 true)).new (.row [.slice tx tn tc] 22 true) = g at *
  have c71 := fun (K : Value → H → Option (Value × H)) => calls_eq (K := K) (xs := [.agg #[iv p, iv e, sl]]) (s71 (p := p) (e := e) hs1)
  by_cases hv : tabOk p e l = true
  · rw [if_pos hv]
    obtain ⟨hp1, hp12⟩ := tab_p hv
    have he6 : 1 ≤ e ∧ e ≤ 6 := by simp only [tabOk, Bool.and_eq_true, decide_eq_true_iff] at hv; omega
    refine p48 (k := 0) (h1 := g) (hstart _ _ ?_) rfl xx
    by_cases hte : (t.length : Int) = e
    · obtain ⟨x0, t', rfl⟩ : ∃ x0 t', t = x0 :: t' := by
        cases t with
        | nil => simp at hte; omega
        | cons x0 t' => exact ⟨x0, t', rfl⟩
      have c78 := fun (K : Value → H → Option (Value × H)) => calls_eq (K := K) (xs := [.slice tx tn tc]) (s78q ht1 (by simp at ht5; omega))
      have c79 := fun (K : Value → H → Option (Value × H)) => calls_eq (K := K) (xs := [.slice tx tn tc]) (s79q ht1 (by simp at ht5; omega))
      have hmin : 0 ≤ minP (x0 :: t') ↔ ∀ x ∈ x0 :: t', 0 ≤ x := by
        rw [List.forall_mem_cons]; exact fold_min t' x0 0
      have hmax : maxP (x0 :: t') ≤ p - 1 ↔ ∀ x ∈ x0 :: t', x ≤ p - 1 := by
        rw [List.forall_mem_cons]; exact fold_max t' x0 (p - 1)
      have hall : (x0 :: t').all (fun x => decide (0 ≤ x) && decide (x < p)) = (decide (0 ≤ minP (x0 :: t')) && decide (maxP (x0 :: t') ≤ p - 1)) := by
        rw [Bool.eq_iff_iff, List.all_eq_true, Bool.and_eq_true, decide_eq_true_iff, decide_eq_true_iff, hmin, hmax]
        constructor
        · intro h
          refine ⟨fun x hx => ?_, fun x hx => ?_⟩ <;> have := h x hx <;> rw [Bool.and_eq_true, decide_eq_true_iff, decide_eq_true_iff] at this <;> omega
        · rintro ⟨h1, h2⟩ x hx
          have := h1 x hx
          have := h2 x hx
          rw [Bool.and_eq_true, decide_eq_true_iff, decide_eq_true_iff]
          omega
      have hck : ∀ (z : Option (Value × H)), ck (freq h.nx g.nx (same g g)) z = z := fun z => by
        rw [same_self]
        have : h.nx < g.nx := by omega
        simp [freq, this, AM.ck]
      generalize hmn : minP (x0 :: t') = mn at *
      generalize hmx : maxP (x0 :: t') = mx at *
      by_cases hm0 : mn < 0
      · have hright : rightP p e l (x0 :: t') = false := by
          unfold rightP
          rw [hall, decide_eq_false (show ¬ 0 ≤ mn by omega)]; simp
        simp [rd_of hb1, c71, hv, cell_of hb2, cell_of hb1, htn, hte, c78, hm0, hright]
      · by_cases hmp : p ≤ mx
        · have hright : rightP p e l (x0 :: t') = false := by
            unfold rightP
            rw [hall, decide_eq_false (show ¬ mx ≤ p - 1 by omega)]; simp
          simp [rd_of hb1, c71, hv, cell_of hb2, cell_of hb1, htn, hte, c78, c79, hm0, hmp, hck, hright]
        · have hrng : ∀ x ∈ x0 :: t', 0 ≤ x ∧ x < p := fun x hx => by
            have := hmin.1 (by omega) x hx
            have := hmax.1 (by omega) x hx
            omega
          have c80 := fun (K : Value → H → Option (Value × H)) => calls_eq (K := K) (xs := [sl, .func (.func 81) #[] #[pt h.nx 0, pt (h.nx + 1) 0]]) (s80 (v1 := .func (.func 81) #[] #[pt h.nx 0, pt (h.nx + 1) 0]) (p := fun c => !keepP p c (atI (x0 :: t') c.a) (atI (x0 :: t') c.b)) hs1 (fun c hc => by
            have := sp_of hv hc
            exact s81 (e := e) ⟨hp1, hp12⟩ (by omega) hrng (by omega) hb1 (by omega) hb2 ht1))
          have hright : rightP p e l (x0 :: t') = !(l.any fun c => !keepP p c (atI (x0 :: t') c.a) (atI (x0 :: t') c.b)) := by
            unfold rightP
            rw [hall, decide_eq_true hte, decide_eq_true (show 0 ≤ mn by omega), decide_eq_true (show mx ≤ p - 1 by omega), Bool.true_and, Bool.true_and, List.any_eq_not_all_not]
            simp
          generalize (l.any fun c => !keepP p c (atI (x0 :: t') c.a) (atI (x0 :: t') c.b)) = q at c80 hright
          have hte' : (t'.length : Int) + 1 = e := by simpa using hte
          simp [hte', rd_of hb1, c71, hv, cell_of hb2, cell_of hb1, htn, hte, c78, c79, hm0, hmp, hck, c80, hright]
    · have hright : rightP p e l t = false := by unfold rightP; rw [decide_eq_false hte]; rfl
      simp [rd_of hb1, c71, hv, cell_of hb2, cell_of hb1, htn, hte, hright]
  · have hv' : tabOk p e l = false := by simpa using hv
    rw [if_neg hv]
    refine p48 (k := 0) (h1 := g) (hstart _ _ ?_) rfl xx
    simp [rd_of hb1, c71, hv']

theorem right_take {p e : Int} {l : List Sp} {t : List Int} (hv : tabOk p e l = true) : rightP p e l (t.take 14) = rightP p e l t := by
  have he6 : 1 ≤ e ∧ e ≤ 6 := by simp only [tabOk, Bool.and_eq_true, decide_eq_true_iff] at hv; omega
  by_cases hc : t.length ≤ 14
  · rw [List.take_of_length_le hc]
  · unfold rightP
    rw [decide_eq_false (show ¬ ((t.take 14).length : Int) = e by simp; omega), decide_eq_false (show ¬ (t.length : Int) = e by omega)]
    rfl

end Go.AM

end

section

/- The table of some spans; the document's Blame; RoundsBlames. -/
namespace Go.AM
open Go.Proofs
variable {R : Type}
attribute [local simp] nx_eq nx_new nx_set blk_new blk_set asI_int asK_int asB_bool asP_ptr al_eq bx_eq len_slice onE_exit onE_ret onR_ret Value.cells d3 d4 d22 d27 d45 d47 d50 d52 d67 d88 d89 w3 w22 w27 w45 w47 cell_new cell_set rd_new rd_set off eq lt le ifB gv out eqF1 eqF2 eqF3 eqF4 eqF5 eqF6 eqF7 eqF8 ext20 ext21 kbld47 kbld89
/-- Does no timetable keep the spans of a set? -/
def infeas (p e : Int) (l : List Sp) (set : Nat) : Prop := firstP p l set e.toNat [] = none

theorem infeas_iff {p e : Int} {l : List Sp} {set : Nat} (hv : tabOk p e l = true) : infeas p e l set ↔ ¬ ∃ r : List Int, (r.length : Int) = e ∧ goodT p l set 0 r := by
  have he6 : 1 ≤ e ∧ e ≤ 6 := by simp only [tabOk, Bool.and_eq_true, decide_eq_true_iff] at hv; omega
  constructor
  · rintro h ⟨r, hr, hg⟩
    exact first_none hv e.toNat [] r (by simp; omega) h List.nil_prefix hr hg
  · intro h
    unfold infeas
    cases hf : firstP p l set e.toNat [] with
    | none => rfl
    | some r =>
      have := firstP_len _ _ _ hf
      exact absurd ⟨r, by simp at this; omega, (first_some hv e.toNat [] r (by simp; omega) (by simp) hf).2⟩ h

theorem keep_imax {a b : Int} (ha : 0 ≤ a) : 0 ≤ imax a b := by have := imax_or a b; omega

theorem keep_iff {p : Int} {c : Sp} {x y : Int} : keepP p c x y = true ↔ c.lo + (y - x - c.lo) % p ≤ c.hi := by unfold keepP; exact decide_eq_true_iff

/-! ### The least of the smallest -/
theorem range_find {β : Type} {F : Nat → Option β} : ∀ (n : Nat), ((List.range n).findSome? F = none ↔ ∀ i, i < n → F i = none) ∧ ∀ r, (List.range n).findSome? F = some r → ∃ i, i < n ∧ F i = some r ∧ ∀ j, j < i → F j = none := by
  intro n
  induction n with
  | zero => exact ⟨by simp, by simp⟩
  | succ n ih =>
    rw [List.range_succ, List.findSome?_append]
    refine ⟨?_, fun r hr => ?_⟩
    · constructor
      · intro h i hi
        have h1 : (List.range n).findSome? F = none := by
          cases hh : (List.range n).findSome? F with
          | none => rfl
          | some r => rw [hh] at h; simp at h
        by_cases hin : i < n
        · exact ih.1.1 h1 i hin
        · have : i = n := by omega
          subst this
          rw [h1] at h
          simpa using h
      · intro h
        rw [ih.1.2 fun i hi => h i (by omega)]
        simp [h n (by omega)]
    · cases hh : (List.range n).findSome? F with
      | some r' =>
        rw [hh] at hr
        simp at hr
        subst hr
        obtain ⟨i, h1, h2, h3⟩ := ih.2 r' hh
        exact ⟨i, by omega, h2, h3⟩
      | none =>
        rw [hh] at hr
        have hn := ih.1.1 hh
        refine ⟨n, by omega, ?_, hn⟩
        simpa using hr

/-- The least of the smallest sets that no timetable keeps. -/
def IsB (p e : Int) (l : List Sp) (n s : Nat) : Prop := s < n ∧ infeas p e l s ∧ ∀ t, t < n → infeas p e l t → pop s < pop t ∨ pop s = pop t ∧ s ≤ t

theorem feas_zero {p e : Int} {l : List Sp} (hv : tabOk p e l = true) : ¬ infeas p e l 0 := by
  rw [infeas_iff hv]
  intro h
  have he6 : 1 ≤ e ∧ e ≤ 6 := by simp only [tabOk, Bool.and_eq_true, decide_eq_true_iff] at hv; omega
  obtain ⟨hp1, hp12⟩ := tab_p hv
  exact h ⟨List.replicate e.toNat 0, by simp; omega, fun x hx => by rw [List.mem_replicate] at hx; omega, fun j c _ hs => by simp at hs⟩

theorem pop_full {n s : Nat} (hn : n ≤ 12) (hs : s < 2 ^ n) : pop s ≤ n := by
  unfold pop
  rw [show 12 = n + (12 - n) by omega, List.range_add, List.countP_append]
  have h1 : ((List.range n).countP fun i => s.testBit i) ≤ n := Nat.le_trans List.countP_le_length (by simp)
  have h2 : (((List.range (12 - n)).map (n + ·)).countP fun i => s.testBit i) = 0 := by
    rw [List.countP_eq_zero]
    intro x hx
    obtain ⟨y, _, rfl⟩ := List.mem_map.1 hx
    rw [testBit_big hs (by omega)]
    simp
  omega

theorem blame_spec {p e : Int} {l : List Sp} (hv : tabOk p e l = true) : (∀ s, blameP p e l = some s → IsB p e l (2 ^ l.length) s) ∧ (blameP p e l = none → ∀ t, t < 2 ^ l.length → ¬ infeas p e l t) := by
  have hl12 : l.length ≤ 12 := by simp [tabOk] at hv; omega
  have h4096 : 2 ^ l.length ≤ 4096 := Nat.pow_le_pow_right (n := 2) (by omega) hl12
  have hpos : ∀ t, t < 2 ^ l.length → infeas p e l t → ∃ s, s < l.length ∧ pop t = s + 1 := by
    intro t ht hi
    have h0 : 0 < t := Nat.pos_of_ne_zero fun h => by subst h; exact feas_zero hv hi
    have h1 := pop_pos h0 (by omega)
    have h2 := pop_full hl12 ht
    exact ⟨pop t - 1, by omega, by omega⟩
  have hnone : ∀ s, blameIn p e l s = none ↔ ∀ t, t < 2 ^ l.length → ¬ (pop t = s + 1 ∧ infeas p e l t) := by
    intro s
    unfold blameIn
    rw [(range_find _).1]
    refine forall_congr' fun t => forall_congr' fun ht => ?_
    show (if pop t = s + 1 ∧ firstP p l t e.toNat [] = none then some t else none) = none ↔ ¬ (pop t = s + 1 ∧ firstP p l t e.toNat [] = none)
    by_cases h : pop t = s + 1 ∧ firstP p l t e.toNat [] = none
    · rw [if_pos h]; simp [h]
    · rw [if_neg h]; simp [h]
  refine ⟨fun s hs => ?_, fun hs t ht hi => ?_⟩
  · obtain ⟨i, hi, h1, h2⟩ := (range_find _).2 s hs
    obtain ⟨j, hj, h3, h4⟩ := (range_find _).2 s h1
    split at h3
    · rename_i hc
      cases h3
      refine ⟨hj, hc.2, fun t ht hti => ?_⟩
      obtain ⟨s', hs', hps⟩ := hpos t ht hti
      rw [hc.1, hps]
      rcases Nat.lt_trichotomy i s' with h | h | h
      · left; omega
      · subst h
        right
        refine ⟨rfl, ?_⟩
        refine Classical.byContradiction fun hc' => ?_
        have := h4 t (by omega)
        rw [if_pos (show pop t = i + 1 ∧ firstP p l t e.toNat [] = none from ⟨hps, hti⟩)] at this
        cases this
      · exact absurd ⟨hps, hti⟩ ((hnone s').1 (h2 s' h) t ht)
    · cases h3
  · obtain ⟨s', hs', hps⟩ := hpos t ht hi
    have := (range_find l.length).1.1 hs s' hs'
    exact (hnone s').1 this t ht ⟨hps, hi⟩

end Go.AM

end

section

/- RoundsTimes, plainly: sets of spans, times that are moved, cycles. -/
namespace Go.AM
open Go.Proofs
/-! ### The spans of a set -/
def subL (set : Nat) : List Sp → Nat → List Sp
  | [], _ => []
  | c :: l, i => if set.testBit i = true then c :: subL set l (i + 1) else subL set l (i + 1)

theorem subL_append {set : Nat} : ∀ (a b : List Sp) (i : Nat), subL set (a ++ b) i = subL set a i ++ subL set b (i + a.length) := by
  intro a
  induction a with
  | nil => intro b i; rfl
  | cons c a ih =>
    intro b i
    simp only [List.cons_append, subL, ih, List.length_cons]
    rw [show i + (a.length + 1) = i + 1 + a.length by omega]
    split <;> rfl

theorem subL_take {set : Nat} {l : List Sp} {i : Nat} {c : Sp} (hc : l[i]? = some c) : subL set (l.take (i + 1)) 0 = subL set (l.take i) 0 ++ (if set.testBit i = true then [c] else []) := by
  have hi := (List.getElem?_eq_some_iff.1 hc).1
  rw [List.take_add_one, hc, subL_append, List.length_take, Nat.min_eq_left (by omega), Nat.zero_add]
  rfl

theorem subL_len {set : Nat} : ∀ (l : List Sp) (i : Nat), (subL set l i).length ≤ l.length := by
  intro l
  induction l with
  | nil => intro i; simp [subL]
  | cons c l ih =>
    intro i
    have := ih (i + 1)
    simp only [subL]
    split <;> simp <;> omega

theorem mem_subL {set : Nat} {c' : Sp} : ∀ (l : List Sp) (i : Nat), c' ∈ subL set l i ↔ ∃ j, l[j]? = some c' ∧ set.testBit (i + j) = true := by
  intro l
  induction l with
  | nil => intro i; simp [subL]
  | cons c l ih =>
    intro i
    have h2 : (∃ j, (c :: l)[j]? = some c' ∧ set.testBit (i + j) = true) ↔ (set.testBit i = true ∧ c' = c) ∨ ∃ j, l[j]? = some c' ∧ set.testBit (i + 1 + j) = true := by
      constructor
      · rintro ⟨j, h1, h2⟩
        cases j with
        | zero => simp at h1; subst h1; exact .inl ⟨h2, rfl⟩
        | succ j => exact .inr ⟨j, by simpa using h1, by rw [show i + 1 + j = i + (j + 1) by omega]; exact h2⟩
      · rintro (⟨h1, rfl⟩ | ⟨j, h1, h2⟩)
        · exact ⟨0, rfl, h1⟩
        · exact ⟨j + 1, by simpa using h1, by rw [show i + (j + 1) = i + 1 + j by omega]; exact h2⟩
    rw [h2]
    simp only [subL]
    split
    · rename_i hb
      rw [List.mem_cons, ih]
      simp [hb]
    · rename_i hb
      rw [ih]
      simp [hb]

section
variable {p e : Int} {l : List Sp}
theorem sub_ok {set : Nat} (hv : tabOk p e l = true) : tabOk p e (subL set l 0) = true := by
  have hlen := subL_len (set := set) l 0
  have hv' := hv
  simp only [tabOk, Bool.and_eq_true, decide_eq_true_iff, List.all_eq_true] at hv' ⊢
  refine ⟨⟨hv'.1.1, by omega⟩, fun c' hc' => ?_⟩
  obtain ⟨j, hc, _⟩ := (mem_subL l 0).1 hc'
  exact hv'.2 c' (List.mem_of_getElem? hc)

theorem sub_good {set : Nat} {r : List Int} (hv : tabOk p e l = true) : goodT p (subL set l 0) (fullS (subL set l 0)) 0 r ↔ goodT p l set 0 r := by
  constructor
  · rintro ⟨h1, h2⟩
    refine ⟨h1, fun j c hj hs hm => ?_⟩
    obtain ⟨j', hj'⟩ := List.getElem?_of_mem ((mem_subL (set := set) l 0).2 ⟨j, hj, by rw [Nat.zero_add]; exact hs⟩)
    exact h2 j' c hj' (full_bit hj') hm
  · rintro ⟨h1, h2⟩
    refine ⟨h1, fun j c hj _ hm => ?_⟩
    obtain ⟨j', hj', hs⟩ := (mem_subL (set := set) l 0).1 (List.mem_of_getElem? hj)
    rw [Nat.zero_add] at hs
    exact h2 j' c hj' hs hm

theorem sub_infeas {set : Nat} (hv : tabOk p e l = true) : tableP p e (subL set l 0) = none ↔ infeas p e l set := by
  have h1 : tableP p e (subL set l 0) = none ↔ infeas p e (subL set l 0) (fullS (subL set l 0)) := Iff.rfl
  rw [h1, infeas_iff (sub_ok hv), infeas_iff hv]
  constructor
  · rintro h ⟨r, hr, hg⟩; exact h ⟨r, hr, (sub_good hv).2 hg⟩
  · rintro h ⟨r, hr, hg⟩; exact h ⟨r, hr, (sub_good hv).1 hg⟩

theorem infeas_mono {s t : Nat} (hv : tabOk p e l = true) (hst : ∀ j, s.testBit j = true → t.testBit j = true) (h : infeas p e l s) : infeas p e l t := by
  rw [infeas_iff hv] at h ⊢
  rintro ⟨r, hr, h1, h2⟩
  exact h ⟨r, hr, h1, fun j c hj hs hm => h2 j c hj (hst j hs) hm⟩

theorem full_sub {s : Nat} (hs : s < 2 ^ l.length) : ∀ j, s.testBit j = true → (fullS l).testBit j = true := fun j hj => by
  unfold fullS
  rw [Nat.testBit_two_pow_sub_one, decide_eq_true_iff]
  refine Classical.byContradiction fun hc => ?_
  rw [Nat.testBit_lt_two_pow (Nat.lt_of_lt_of_le hs (Nat.pow_le_pow_right (by omega) (by omega)))] at hj
  cases hj

/-- There is a timetable exactly where there is no blame. -/
theorem table_blame (hv : tabOk p e l = true) : tableP p e l = none ↔ blameP p e l ≠ none := by
  obtain ⟨h1, h2⟩ := blame_spec hv
  have hfl : fullS l < 2 ^ l.length := by have := Nat.two_pow_pos l.length; unfold fullS; omega
  constructor
  · intro h hb
    exact h2 hb _ hfl h
  · intro h
    cases hb : blameP p e l with
    | none => exact absurd hb h
    | some s =>
      obtain ⟨b1, b2, _⟩ := h1 s hb
      exact infeas_mono hv (full_sub b1) b2

theorem pop_less {s k : Nat} (h : s.testBit k = true) (hs : s < 4096) : pop (without s (2 ^ k)) < pop s := by
  have key : ∀ L : List Nat, L.countP (fun i => (without s (2 ^ k)).testBit i) ≤ L.countP (fun i => s.testBit i) ∧ (k ∈ L → L.countP (fun i => (without s (2 ^ k)).testBit i) < L.countP (fun i => s.testBit i)) := by
    intro L
    induction L with
    | nil => exact ⟨Nat.le_refl _, fun h => by cases h⟩
    | cons x L ih =>
      rw [List.countP_cons, List.countP_cons]
      have hb : (without s (2 ^ k)).testBit x = (s.testBit x && !decide (k = x)) := by rw [testBit_without, Nat.testBit_two_pow]
      rw [hb]
      by_cases hx : k = x
      · subst hx
        rw [h]
        simp
        omega
      · rw [decide_eq_false hx]
        refine ⟨by simp; exact ih.1, fun hm => ?_⟩
        rw [List.mem_cons] at hm
        have := ih.2 (hm.resolve_left hx)
        simp
        exact this
  unfold pop
  refine (key _).2 ?_
  rw [List.mem_range]
  refine Classical.byContradiction fun hc => ?_
  rw [Nat.testBit_lt_two_pow (Nat.lt_of_lt_of_le hs (Nat.pow_le_pow_right (n := 2) (i := 12) (by omega) (by omega)))] at h
  cases h

/-- Less than a blame can be kept. -/
theorem blame_less {s k : Nat} (hv : tabOk p e l = true) (hb : blameP p e l = some s) (hk : s.testBit k = true) : tableP p e (subL (without s (2 ^ k)) l 0) ≠ none := by
  intro h
  rw [sub_infeas hv] at h
  obtain ⟨b1, b2, b3⟩ := (blame_spec hv).1 s hb
  have hl12 : l.length ≤ 12 := by simp [tabOk] at hv; omega
  have hpow : 2 ^ l.length ≤ 4096 := Nat.pow_le_pow_right (n := 2) (by omega) hl12
  have h1 := b3 _ (without_le _ _ b1) h
  have h2 := pop_less hk (by omega)
  omega

/-! ### Times that are moved -/
theorem right_iff {t : List Int} (hv : tabOk p e l = true) : rightP p e l t = true ↔ (t.length : Int) = e ∧ goodT p l (fullS l) 0 t := by
  unfold rightP goodT
  simp only [Bool.and_eq_true, decide_eq_true_iff, List.all_eq_true]
  constructor
  · rintro ⟨⟨h1, h2⟩, h3⟩
    exact ⟨h1, h2, fun j c hj _ _ => h3 c (List.mem_of_getElem? hj)⟩
  · rintro ⟨h1, h2, h3⟩
    refine ⟨⟨h1, h2⟩, fun c hc => ?_⟩
    obtain ⟨j, hj⟩ := List.getElem?_of_mem hc
    have hsp := sp_of hv hc
    exact h3 j c hj (full_bit hj) (keep_imax hsp.1)

theorem right_shift {t : List Int} {d : Int} (hv : tabOk p e l = true) (h : rightP p e l t = true) : rightP p e l (t.map fun y => (y + d) % p) = true := by
  rw [right_iff hv] at h ⊢
  have h2 := good_shift (x := -d) hv h.1 h.2
  have : shiftT p (-d) t = t.map fun y => (y + d) % p := by
    unfold shiftT
    exact List.map_congr_left fun y _ => by rw [Int.sub_neg]
  rw [this] at h2
  exact ⟨by rw [List.length_map]; exact h.1, h2⟩

theorem right_table {t : List Int} (hv : tabOk p e l = true) (h : rightP p e l t = true) : tableP p e l ≠ none := by
  intro hn
  rw [right_iff hv] at h
  exact (infeas_iff (set := fullS l) hv).1 hn ⟨t, h⟩

theorem table_right {r : List Int} (hv : tabOk p e l = true) (h : tableP p e l = some r) : rightP p e l r = true := by
  have he6 : 1 ≤ e ∧ e ≤ 6 := by simp only [tabOk, Bool.and_eq_true, decide_eq_true_iff] at hv; omega
  have h1 := firstP_len _ _ _ h
  rw [right_iff hv]
  exact ⟨by simp at h1; omega, (first_some hv e.toNat [] r (by simp; omega) (by simp) h).2⟩

/-! ### Cycles -/
theorem foldI_snoc {α σ : Type} (g : Nat → α → σ → σ) : ∀ (l : List α) (x : α) (i : Nat) (s : σ), foldI g (l ++ [x]) i s = g (i + l.length) x (foldI g l i s)
  | [], x, i, s => rfl
  | y :: l, x, i, s => by
    simp only [List.cons_append, foldI, List.length_cons]
    rw [foldI_snoc g l x (i + 1)]
    rw [show i + 1 + l.length = i + (l.length + 1) by omega]

/-- A step of a cycle: what lies between its ends. -/
theorem step_between {r : List Int} {x : Int} (hv : tabOk p e l = true) (hg : goodT p l (fullS l) 0 r) (hx : kIn l x) : ∃ k : Int, dLo l x ≤ atI r (endW l x) - atI r (begW l x) + k * p ∧ atI r (endW l x) - atI r (begW l x) + k * p ≤ dHi l x := by
  obtain ⟨hp1, hp12⟩ := tab_p hv
  have hget := spW_get hx
  have hsp := sp_of hv (List.mem_of_getElem? hget)
  have hk := hg.2 _ _ hget (full_bit hget) (keep_imax hsp.1)
  rw [keep_iff] at hk
  obtain ⟨q, hq⟩ : ∃ q, (atI r (spW l x).b - atI r (spW l x).a - (spW l x).lo) / p = q := ⟨_, rfl⟩
  have h1 := Int.mul_ediv_add_emod (atI r (spW l x).b - atI r (spW l x).a - (spW l x).lo) p
  have h2 := Int.emod_nonneg (atI r (spW l x).b - atI r (spW l x).a - (spW l x).lo) (show p ≠ 0 by omega)
  rw [hq, Int.mul_comm] at h1
  unfold endW begW endP begP dLo dHi
  rw [if_pos hx, if_pos hx]
  by_cases hx0 : x < 0
  · rw [if_pos hx0, if_pos hx0, decide_eq_true hx0, if_pos rfl, if_pos rfl]
    refine ⟨q, ?_, ?_⟩ <;> omega
  · rw [if_neg hx0, if_neg hx0, decide_eq_false hx0, if_neg (by simp), if_neg (by simp)]
    refine ⟨-q, ?_, ?_⟩ <;> rw [Int.neg_mul] <;> omega

theorem cycle_turns {r c : List Int} (hv : tabOk p e l = true) (hg : goodT p l (fullS l) 0 r) (hc : cycP l c = true) : (turnsP p l c).2.2 = 0 := by
  obtain ⟨hp1, hp12⟩ := tab_p hv
  obtain ⟨h1, h2, h3, h4⟩ := cycP_spec.1 hc
  have hget : ∀ i, i < c.length → c[i]? = some (c.getD i 0) := fun i hi => by rw [List.getD_eq_getElem?_getD, List.getElem?_eq_getElem hi]; rfl
  have hlink : ∀ i, i < c.length → endW l (c.getD i 0) = begW l (c.getD ((i + 1) % c.length) 0) := fun i hi => by
    have := h4 i hi
    unfold linkP at this
    exact of_decide_eq_true this
  have key : ∀ n, n < c.length → ∃ K : Int, (sumsP l (c.take (n + 1))).1 ≤ atI r (endW l (c.getD n 0)) - atI r (begW l (c.getD 0 0)) + K * p ∧ atI r (endW l (c.getD n 0)) - atI r (begW l (c.getD 0 0)) + K * p ≤ (sumsP l (c.take (n + 1))).2 := by
    intro n
    induction n with
    | zero =>
      intro hn
      obtain ⟨k, k1, k2⟩ := step_between hv hg (cyc_in hc (hget 0 hn))
      have : c.take (0 + 1) = [c.getD 0 0] := by rw [List.take_add_one, hget 0 hn]; rfl
      rw [this]
      refine ⟨k, ?_, ?_⟩ <;> simp only [sumsP, foldI] <;> omega
    | succ n ih =>
      intro hn
      obtain ⟨K, k1, k2⟩ := ih (by omega)
      obtain ⟨k, k3, k4⟩ := step_between hv hg (cyc_in hc (hget (n + 1) hn))
      have hl := hlink n (by omega)
      rw [Nat.mod_eq_of_lt hn] at hl
      have hs : sumsP l (c.take (n + 1 + 1)) = ((sumsP l (c.take (n + 1))).1 + dLo l (c.getD (n + 1) 0), (sumsP l (c.take (n + 1))).2 + dHi l (c.getD (n + 1) 0)) := by
        rw [List.take_add_one, hget (n + 1) hn]
        exact foldI_snoc _ _ _ _ _
      rw [← hl] at k3 k4
      rw [hs]
      refine ⟨K + k, ?_, ?_⟩ <;> simp only [Int.add_mul] <;> omega
  obtain ⟨K, k1, k2⟩ := key (c.length - 1) (by omega)
  have hl := hlink (c.length - 1) (by omega)
  rw [show c.length - 1 + 1 = c.length by omega, Nat.mod_self] at hl
  rw [show c.length - 1 + 1 = c.length by omega, List.take_length, hl] at k1 k2
  have e1 : K ≤ (sumsP l c).2 / p := Int.le_ediv_of_mul_le (by omega) (by omega)
  have e2 : -K ≤ -(sumsP l c).1 / p := Int.le_ediv_of_mul_le (by omega) (by rw [Int.neg_mul]; omega)
  unfold turnsP
  rw [if_neg (by omega)]

end
end Go.AM

end

section

/- RoundsTimes: the loops of the statement. -/
namespace Go.AM
open Go.Proofs
variable {R : Type}
attribute [local simp] nx_eq nx_new nx_set blk_new blk_set asI_int asK_int asB_bool asP_ptr al_eq bx_eq len_slice onE_exit onE_ret onR_ret Value.cells d3 d45 d47 d50 d52 d67 cell_new cell_set rd_new rd_set off eq lt le ifB gv out ext20 ext21
theorem l49_eq : f16_l49 = f16_l48 := by kernel_rfl

theorem l50_eq : f16_l50 = f16_l47 := by kernel_rfl

theorem kfld52 (a b : Int) (v : Value) (K : Value → Option R) : fld Try.prog 52 (.agg #[iv a, iv b, v]) 2 K = K v := by
  have : field Try.prog (52 : TypeId) (.agg #[iv a, iv b, v]) 2 = some v := by kernel_rfl
  unfold fld
  rw [this]; rfl

theorem SlR.keepX {h h' : H} {e : TypeId} {s : Nat} {v : Value} {L : List (List Value)} (a : SlR h e s v L) (hn : h.nx ≤ h'.nx) (hb : ∀ b cs o, b < h.nx → h.blk b = some (.row cs e o) → h'.blk b = h.blk b) : SlR h' e s v L := by
  cases a with
  | nil => exact .nil
  | at_ h1 h2 h3 h4 h5 h6 => exact .at_ (Nat.lt_of_lt_of_le h1 hn) ((hb _ _ _ h1 h2).trans h2) h3 h4 h5 h6

/-! ### Times are moved -/
theorem wru (x : Int) : wr .u64 x = x % 2 ^ 64 := rfl

set_option maxHeartbeats 1000000 in
theorem s16_l53 {p e n0 : Int} {sl v : Value} {t : List Int} {b K : Nat} {h0 h1 : H} (hp : 1 ≤ p ∧ p ≤ 12) (htl : t.length ≤ 14) (hr : ∀ x ∈ t, 0 ≤ x ∧ x < p) (ia : IA h1 b v t) (hb0 : h1.blk h0.nx = some (.row [iv p, iv e, sl] 47 true)) (h01 : h0.nx < h1.nx) (hne : b ≠ h0.nx) (hK : 20 ≤ K) :
    ∃ d w h', lpGo (f16_l53 rn K n0 h0 v t.length) K [iv 0] h1 = some (.exit 0, w, h') ∧ IA h' b v (t.map fun y => (y + d) % p) ∧ h1.nx ≤ h'.nx ∧ ∀ k, k < h1.nx → k ≠ b → h'.blk k = h1.blk k := by
  obtain ⟨d, hd⟩ : ∃ d : Int, wr .i64 (rem .u64 (wr .u64 n0) (wr .u64 p)) = d := ⟨_, rfl⟩
  have hwp : wr .u64 p = p := by rw [wru]; exact Int.emod_eq_of_lt (by omega) (by omega)
  have hd0 : 0 ≤ d ∧ d < p := by
    rw [← hd, hwp, wru]
    have h1 := Int.emod_nonneg n0 (show (2 : Int) ^ 64 ≠ 0 by decide)
    have h2 : (n0 % 2 ^ 64).tmod p = (n0 % 2 ^ 64) % p := Int.tmod_eq_emod_of_nonneg h1
    have h3 := Int.emod_nonneg (n0 % 2 ^ 64) (show p ≠ 0 by omega)
    have h4 := Int.emod_lt_of_pos (n0 % 2 ^ 64) (show 0 < p by omega)
    unfold rem
    rw [h2]
    unfold wr
    rw [wrap64 (by omega) (by omega)]
    exact ⟨h3, h4⟩
  refine ⟨d, ?_⟩
  obtain ⟨e', ws', h', hl, rfl, hia, hnx, hfr⟩ := lp_range (F := f16_l53 rn K n0 h0 v t.length) (k := K) (n := t.length)
    (fun i ws g => ws = [iv i] ∧ IA g b v ((t.take i).map (fun y => (y + d) % p) ++ t.drop i) ∧ h1.nx ≤ g.nx ∧ ∀ k, k < h1.nx → k ≠ b → g.blk k = h1.blk k)
    (fun e' _ g => e' = .exit 0 ∧ IA g b v (t.map fun y => (y + d) % p) ∧ h1.nx ≤ g.nx ∧ ∀ k, k < h1.nx → k ≠ b → g.blk k = h1.blk k)
    (by
      rintro i ws g hi ⟨rfl, hia, hnx, hfr⟩
      have hx := List.getElem?_eq_getElem hi
      generalize hxd : t[i] = x at hx
      have hx0 := hr x (List.mem_of_getElem? hx)
      have hadd : add .i64 (i : Int) 1 = ((i + 1 : Nat) : Int) := by rw [add64 (by omega) (by omega)]; omega
      have hadd2 : add .i64 x d = x + d := add64 (by omega) (by omega)
      have hrem : rem .i64 (x + d) p = (x + d) % p := by unfold rem; exact Int.tmod_eq_emod_of_nonneg (by omega)
      have hlen : ((t.take i).map (fun y => (y + d) % p)).length = i := by rw [List.length_map, List.length_take]; omega
      have hgx : ((t.take i).map (fun y => (y + d) % p) ++ t.drop i)[((i : Nat) : Int).toNat]? = some x := by
        rw [Int.toNat_natCast, List.getElem?_append_right (by omega), hlen, Nat.sub_self, List.getElem?_drop, Nat.add_zero]; exact hx
      have hgl : i < ((t.take i).map (fun y => (y + d) % p) ++ t.drop i).length := by rw [List.length_append, hlen, List.length_drop]; omega
      have hb0' : g.blk h0.nx = some (.row [iv p, iv e, sl] 47 true) := by
        rw [hfr _ h01 (fun e => hne e.symm)]; exact hb0
      have hset : ((t.take i).map (fun y => (y + d) % p) ++ t.drop i).set i ((x + d) % p) = (t.take (i + 1)).map (fun y => (y + d) % p) ++ t.drop (i + 1) := by
        rw [List.take_add_one, hx, List.drop_eq_getElem_cons hi, hxd]
        rw [List.set_append_right _ _ (by omega), hlen, Nat.sub_self]
        simp
      refine ⟨.normal, [iv ((i + 1 : Nat) : Int)], g.set b (.row ((((t.take i).map (fun y => (y + d) % p) ++ t.drop i).set i ((x + d) % p)).map iv) 3 true), ?_, .inl ⟨rfl, rfl, ?_, hnx, fun k hk hkb => ?_⟩⟩
      · unfold f16_l53
        rw [show AM.gv [iv i] 0 = iv i from rfl, asI_int, lt_t (by omega), ifB_true, asK_int]
        simp only [d3, nx_eq]
        rw [hia.get (by omega) hgx, asI_int, cell_of hb0', show ([iv p, iv e, sl] : List Value)[0]? = some (iv p) from rfl, Option.bind_some, asI_int, hwp, nz_ne (by omega), Option.bind_some, asI_int, nz_ne (by omega), asK_int, hia.put (by omega) (by omega)]
        rw [Int.toNat_natCast, w3, ← hwp, hd, hwp, hadd2, hrem, hia.wrc hgl, Option.bind_some, asI_int, hadd]
        rfl
      · rw [← hset]
        exact hia.set i ((x + d) % p)
      · rw [blk_set_ne _ _ _ hkb]
        exact hfr k hk hkb)
    (by
      rintro ws g ⟨rfl, hia, hnx, hfr⟩
      rw [List.take_length, List.drop_length, List.append_nil] at hia
      refine ⟨.exit 0, [iv t.length], g, ?_, by simp, rfl, hia, hnx, hfr⟩
      unfold f16_l53
      rw [show AM.gv [iv t.length] 0 = iv t.length from rfl, asI_int, lt_f (by omega), ifB_false]
      rfl)
    (ws := [iv 0]) (h := h1) (by omega) ⟨rfl, by simpa using ia, Nat.le_refl _, fun _ _ _ => rfl⟩
  exact ⟨ws', h', hl, hia, hnx, hfr⟩

end Go.AM

end

section

/- RoundsTimes: each span of a blame is needed. -/
namespace Go.AM
open Go.Proofs
variable {R : Type}
attribute [local simp] nx_eq nx_new nx_set blk_new blk_set asI_int asK_int asB_bool asP_ptr al_eq bx_eq len_slice onE_exit onE_ret onR_ret Value.cells d3 d45 d47 d50 d52 d67 cell_new cell_set rd_new rd_set off eq lt le ifB gv out ext20 ext21
set_option maxHeartbeats 1000000 in
theorem s16_l48 {p e k : Int} {sl2 : Value} {l : List Sp} {n set K : Nat} {ws92 : List Value} {h453 g0 : H} (hv : tabOk p e l = true) (hk : AM.gv ws92 1 = iv k) (hn : n < 2 ^ 62) (hset : ∀ i : Nat, set.testBit i = (n.testBit i && !decide ((i : Int) = k))) (hs : SlR g0 67 4 sl2 (l.map Sp.cells))
    (hb : g0.blk h453.nx = some (.row [iv p, iv e, .slice none 0 0] 52 true)) (hlt : h453.nx < g0.nx) (hK : 20 ≤ K) :
    ∃ w g' sv, lpGo (f16_l48 rn K n ws92 h453 sl2 l.length) K [iv 0] g0 = some (.exit 4, w, g') ∧ (∀ b, b < g0.nx → b ≠ h453.nx → g'.blk b = g0.blk b) ∧ g0.nx ≤ g'.nx ∧ g'.blk h453.nx = some (.row [iv p, iv e, sv] 52 true) ∧ SlR g' 67 4 sv ((subL set l 0).map Sp.cells) := by
  have hl12 : l.length ≤ 12 := by simp [tabOk] at hv; omega
  obtain ⟨ws', h', hl, hfr, hnx, sv, hg2, hap, rfl⟩ := lp_for (F := f16_l48 rn K n ws92 h453 sl2 l.length) (k := K) (l := l) (fun _ _ (_ : Unit) => ())
    (fun i _ ws g => (∀ b, b < g0.nx → b ≠ h453.nx → g.blk b = g0.blk b) ∧ g0.nx ≤ g.nx ∧ ∃ sv, g.blk h453.nx = some (.row [iv p, iv e, sv] 52 true) ∧ AqR g0.nx g 67 4 sv ((subL set (l.take i) 0).map Sp.cells) ∧ ws = [iv i]) 4 (ws := [iv 0]) (h := g0) (s0 := ())
    ⟨fun _ _ _ => rfl, Nat.le_refl _, _, hb, .nil, rfl⟩ (by omega)
    (by
      rintro _ ws g ⟨_, _, sv, _, _, rfl⟩
      simp [f16_l48])
    (by
      rintro i c _ ws g1 hc ⟨hfr, hnx, sv, hg2, hap, rfl⟩
      have hi := (List.getElem?_eq_some_iff.1 hc).1
      have hadd : add .i64 (i : Int) 1 = (i : Int) + 1 := add64 (by omega) (by omega)
      have hbit : AM.and .i64 (shr .i64 (n : Int) (i : Int)) 1 = if n.testBit i then 1 else 0 := bit_nat (by omega) (by omega)
      have hs1 : SlR g1 67 4 sl2 (l.map Sp.cells) := hs.keepX hnx fun b cs o hbl hbr => hfr b hbl (fun e => by rw [e, hb] at hbr; cases hbr)
      have y7 := (Ext.refl g1).fresh 67 [iv 0, iv 0, iv 0, iv 0] c.cells
      have hcb := blk_fresh g1 67 [iv 0, iv 0, iv 0, iv 0] c.cells
      have n7 : (g1.fresh 67 [iv 0, iv 0, iv 0, iv 0] c.cells).nx = g1.nx + 1 := rfl
      unfold f16_l48
      rw [show AM.gv [iv i] 0 = iv i from rfl, hk, asI_int, lt_t (by omega), ifB_true, asK_int, hs1.ldA ag67 sz67 (by omega) (x := c.cells) (by simp [hc]),
        al_st (zs := [iv 0, iv 0, iv 0, iv 0]) (xs := c.cells) sz67 rfl rfl]
      generalize g1.fresh 67 [iv 0, iv 0, iv 0, iv 0] c.cells = h7 at *
      have g7 := (y7.blk h453.nx (by omega)).trans hg2
      have a7 := hap.ext y7
      have hset' := hset i
      have hrd : h7.rd g1.nx 0 4 = some [iv c.a, iv c.b, iv c.lo, iv c.hi] := rd_all hcb rfl
      have hfr7 : ∀ b, b < g0.nx → b ≠ h453.nx → h7.blk b = g0.blk b := fun b hb1 hb2 => by rw [y7.blk b (by omega)]; exact hfr b hb1 hb2
      by_cases hbn : set.testBit i = true
      · rw [hset', Bool.and_eq_true, Bool.not_eq_true', decide_eq_false_iff_not] at hbn
        obtain ⟨hb1, hb2⟩ := hbn
        have htake := subL_take (set := set) hc
        rw [if_pos (by rw [hset', hb1, decide_eq_false hb2]; rfl)] at htake
        have hlen2 := subL_len (set := set) (l.take i) 0
        rw [List.length_take] at hlen2
        obtain ⟨v', h9, e9, a9, n9, k9, b9, hb9, hb9'⟩ := a7.push app50 app50 (bls50 c) rfl rfl (by rw [List.length_map]; omega) (by omega)
        have k9' : ∀ b, b < g0.nx → h9.blk b = h7.blk b := fun b hb => k9 b (by omega) (fun h => by have := (a7.blkOf h).1; omega)
        have g9 := (k9' h453.nx hlt).trans g7
        have hst : wrc 1 h9 h453.nx 2 v' = some (h9.set h453.nx (.row [iv p, iv e, v'] 52 true)) := by rw [wrc_one g9 a9.cells.1 a9.cells.2 (by simp)]; rfl
        refine ⟨[iv ((i : Int) + 1)], h9.set h453.nx (.row [iv p, iv e, v'] 52 true), ?_, fun b hq1 hq2 => ?_, by rw [nx_set]; omega, v', blk_set_self _ _ _, ?_, rfl⟩
        · rw [asK_int, nn_ge (show (0 : Int) ≤ (i : Int) by omega), hbit, hb1, if_pos rfl, show AM.eq (1 : Int) 1 = true from rfl, ifB_true, asI_int, asI_int, show AM.eq (i : Int) k = false by simp [AM.eq]; omega, show (!false) = true from rfl, ifB_true]
          simp only [d50, nx_eq, show AM.off 0 2 = 2 from rfl, cell_of g7, d67, hrd]
          rw [show ([iv p, iv e, sv] : List Value)[2]? = some sv from rfl, Option.bind_some, Option.bind_some]
          rw [show Value.agg [iv c.a, iv c.b, iv c.lo, iv c.hi].toArray = .agg #[.int .i64 c.a, .int .i64 c.b, .int .i64 c.lo, .int .i64 c.hi] from rfl, e9, w50, hst, Option.bind_some, asI_int, hadd]
          rfl
        · rw [blk_set_ne _ _ _ hq2, k9' b hq1]
          exact hfr7 b hq1 hq2
        · rw [htake, List.map_append]
          refine a9.keep (by rw [nx_set]; omega) fun b hb => blk_set_ne _ _ _ ?_
          rw [hb9] at hb; cases hb; omega
      · have htake := subL_take (set := set) hc
        rw [if_neg hbn, List.append_nil] at htake
        refine ⟨[iv ((i : Int) + 1)], h7, ?_, hfr7, by omega, sv, g7, by rw [htake]; exact a7, rfl⟩
        rw [asK_int, nn_ge (show (0 : Int) ≤ (i : Int) by omega), hbit]
        cases hb1 : n.testBit i with
        | true =>
          have hb2 : (i : Int) = k := by
            rw [hset', hb1, Bool.true_and, Bool.not_eq_true', decide_eq_false_iff_not] at hbn
            exact Classical.byContradiction hbn
          rw [if_pos rfl, show AM.eq (1 : Int) 1 = true from rfl, ifB_true, asI_int, asI_int, hb2, show AM.eq k k = true by simp [AM.eq], show (!true) = false from rfl, ifB_false, asI_int, ← hb2, hadd]
          rfl
        | false =>
          rw [if_neg (by simp), show AM.eq (0 : Int) 1 = false from rfl, ifB_false, asI_int, hadd]
          rfl)
  rw [List.take_length] at hap
  exact ⟨_, h', sv, hl, hfr, hnx, hg2, hap.slR⟩

theorem keqv4t (a b : Bool) (K : Bool → Option R) : eqv Try.prog 4 (.bool a) (.bool b) K = K (a == b) := by
  have : binOp Try.prog .eql 4 (.bool a) (.bool b) = some (.bool (a == b)) := by kernel_rfl
  unfold eqv
  rw [this]

/-- A part of the table, and whether it has a timetable. -/
theorem part_table {p e k : Int} {sl : Value} {l : List Sp} {n set K : Nat} {ws92 : List Value} {h0 h : H} (hv : tabOk p e l = true) (hk : AM.gv ws92 1 = iv k) (hn : n < 2 ^ 62) (hset : ∀ i : Nat, set.testBit i = (n.testBit i && !decide ((i : Int) = k))) (hs : SlR h 89 4 sl (l.map Sp.cells))
    (hb0 : h.blk h0.nx = some (.row [iv p, iv e, sl] 47 true)) (h0n : h0.nx < h.nx) (hK : 20 ≤ K) (Q : Int → H → Option (Ex × List Value × H)) :
    ∃ c g, Ext h g ∧ (c = 0 ↔ tableP p e (subL set l 0) ≠ none) ∧ (
      ld Try.prog h 3 h0.nx 0 fun v666 =>
      asI .i64 v666 fun n562 =>
      ld Try.prog h 3 h0.nx (AM.off 0 1) fun v667 =>
      asI .i64 v667 fun n563 =>
      bld Try.prog 52 [(0, (.int .i64 n562)), (1, (.int .i64 n563))] fun v668 =>
      al h 52 [(.int .i64 0), (.int .i64 0), (.slice none 0 0)] fun h454 =>
      st Try.prog h454 52 h.nx 0 v668 fun h455 =>
      ld Try.prog h455 47 h0.nx 0 fun v669 =>
      calls rn h455 37 [v669] fun v670 h456 =>
      fld Try.prog 52 v670 2 fun v671 =>
      len v671 fun n564 =>
      lp K (f16_l48 rn K n ws92 h v671 n564) [(.int .i64 0)] h456 fun e46 _ h463 =>
      onE e46 4 (
        ld Try.prog h463 52 h.nx 0 fun v677 =>
        calls rn h463 47 [v677] fun v678 h464 =>
        ext v678 0 fun _ =>
        ext v678 1 fun v680 =>
        asI .i64 v680 fun n573 => Q n573 h464) none) = Q c g := by
  obtain ⟨hp1, hp12⟩ := tab_p hv
  have hl14 : l.length ≤ 12 := by simp [tabOk] at hv; omega
  obtain ⟨h1, hh1⟩ : ∃ h1, h1 = (h.new (.row [.int .i64 0, .int .i64 0, .slice none 0 0] 52 true)).set h.nx (.row [iv p, iv e, .slice none 0 0] 52 true) := ⟨_, rfl⟩
  have hb1 : h1.blk h.nx = some (.row [iv p, iv e, .slice none 0 0] 52 true) := by rw [hh1]; exact blk_set_self _ _ _
  have n1 : h1.nx = h.nx + 1 := by rw [hh1]; rfl
  have x1 : Ext h h1 := by rw [hh1]; exact ((Ext.refl h).new' _).set (Nat.le_refl _) _
  have w3' : ∀ (K : H → Option (Ex × List Value × H)), (wrc 3 (h.new (.row [.int .i64 0, .int .i64 0, .slice none 0 0] 52 true)) h.nx 0 (.agg #[iv p, iv e, .slice none 0 0])).bind K = K h1 := fun K => by
    rw [hh1]; unfold wrc; rw [blk_new_self]; rfl
  have hb01 := (x1.blk _ h0n).trans hb0
  obtain ⟨sl2, h2, e37, x2, hs2⟩ := s37 (p := p) (e := e) (hs.ext x1)
  rw [List.take_of_length_le (by omega)] at hs2
  have hn2 : ∀ {T : Type} (K : Int → Option T), len sl2 K = K (l.length : Int) := fun K => by rw [hs2.len]; simp
  have n2 := x2.nx
  obtain ⟨w, g, sv, el, hfr, hnx, hg2, hsv⟩ := s16_l48 (K := K) (ws92 := ws92) (h453 := h) (n := n) hv hk hn hset hs2 ((x2.blk _ (by omega)).trans hb1) (by omega) hK
  obtain ⟨v', g2, c, e47, x47, hres⟩ := s47 (p := p) (e := e) hsv
  have xg : Ext h g2 := by
    refine ⟨by have := x47.nx; omega, fun b hb => ?_⟩
    rw [x47.blk b (by omega), hfr b (by omega) (by omega), x2.blk b (by omega)]
    exact x1.blk b hb
  have hsub := sub_ok (set := set) hv
  refine ⟨c, g2, xg, ?_, ?_⟩
  · rcases hres with ⟨h1, _⟩ | ⟨_, h2, _, h3⟩ | ⟨_, h2, r, h3, _⟩
    · rw [hsub] at h1; cases h1
    · rw [h2, h3]; simp
    · rw [h2, h3]; simp
  · simp only [d3, cell_of hb0, show AM.off 0 1 = 1 from rfl]
    rw [show ([iv p, iv e, sl] : List Value)[0]? = some (iv p) from rfl, show ([iv p, iv e, sl] : List Value)[1]? = some (iv e) from rfl, Option.bind_some, asI_int, Option.bind_some, asI_int, kbld52, al_eq, w52, w3']
    simp only [d47, show h1.rd h0.nx 0 3 = some [iv p, iv e, sl] from rd_all hb01 rfl, Option.bind_some]
    rw [show Value.agg [iv p, iv e, sl].toArray = .agg #[iv p, iv e, sl] from rfl, calls_eq (xs := [.agg #[iv p, iv e, sl]]) e37, kfld52, hn2, lp_eq el, onE_exit, if_pos rfl]
    simp only [d52, show g.rd h.nx 0 3 = some [iv p, iv e, sv] from rd_all hg2 rfl, Option.bind_some]
    rw [show Value.agg [iv p, iv e, sv].toArray = .agg #[iv p, iv e, sv] from rfl, calls_eq (xs := [.agg #[iv p, iv e, sv]]) e47, ext20, ext21, asI_int]

set_option maxHeartbeats 1000000 in
theorem s16_l47 {p e : Int} {sl : Value} {l : List Sp} {n K : Nat} {h0 h : H} (hv : tabOk p e l = true) (hbl : blameP p e l = some n) (hs : SlR h 89 4 sl (l.map Sp.cells)) (hb0 : h.blk h0.nx = some (.row [iv p, iv e, sl] 47 true)) (h0n : h0.nx < h.nx) (hK : 20 ≤ K) :
    ∃ w h', lpGo (f16_l47 rn K h0 n) K [.bool false, iv (-1)] h = some (.exit 2, w, h') ∧ Ext h h' := by
  obtain ⟨b1, b2, b3⟩ := (blame_spec hv).1 n hbl
  have hl12 : l.length ≤ 12 := by simp [tabOk] at hv; omega
  have h4096 : 2 ^ l.length ≤ 4096 := Nat.pow_le_pow_right (n := 2) (by omega) hl12
  obtain ⟨e', ws', h', hl, rfl, hx⟩ := lp_range (F := f16_l47 rn K h0 n) (k := K) (n := l.length + 1)
    (fun i ws g => ws = [.bool false, iv ((i : Int) - 1)] ∧ Ext h g)
    (fun e' _ g => e' = .exit 2 ∧ Ext h g)
    (by
      rintro i ws g hi ⟨rfl, xg⟩
      have hbg := (xg.blk _ h0n).trans hb0
      have hng := xg.nx
      have hsg := hs.ext xg
      have hln : ∀ {T : Type} (K : Int → Option T), len sl K = K (l.length : Int) := fun K => by rw [hs.len]; simp
      have hadd : add .i64 ((i : Int) - 1) 1 = ((i + 1 : Nat) : Int) - 1 := by rw [add64 (by omega) (by omega)]; omega
      have hgv : AM.gv [.bool false, iv ((i : Int) - 1)] 1 = iv ((i : Int) - 1) := rfl
      by_cases hi0 : i = 0
      · obtain ⟨c, g2, x2, hc, ecode⟩ := part_table (K := K) (ws92 := [.bool false, iv ((i : Int) - 1)]) (set := n) (n := n) (h0 := h0) hv hgv (by omega) (fun j => by rw [decide_eq_false (by omega)]; simp) hsg hbg (by omega) hK
          (fun n587 h475 => asI .i64 (AM.gv [.bool false, iv ((i : Int) - 1)] 1) fun n588 =>
            eqv Try.prog 4 (.bool (AM.eq n587 0)) (.bool (AM.le 0 n588)) fun q80 =>
            ifB (not q80) (
              AM.out .ret [(.bool false), AM.gv [.bool false, iv ((i : Int) - 1)] 1] h475) (
              asI .i64 (AM.gv [.bool false, iv ((i : Int) - 1)] 1) fun n589 =>
              AM.out .normal [AM.gv [.bool false, iv ((i : Int) - 1)] 0, (.int .i64 (add .i64 n589 1))] h475))
        have hnone : tableP p e (subL n l 0) = none := (sub_infeas hv).2 b2
        have hc0 : c ≠ 0 := fun h => (hc.1 h) hnone
        refine ⟨.normal, [.bool false, iv (((i + 1 : Nat) : Int) - 1)], g2, ?_, .inl ⟨rfl, rfl, xg.trans x2⟩⟩
        unfold f16_l47
        rw [l49_eq]
        simp only [d45, nx_eq, show AM.off 0 2 = 2 from rfl, cell_of hbg]
        rw [show ([iv p, iv e, sl] : List Value)[2]? = some sl from rfl, Option.bind_some, hln, hgv, asI_int, lt_t (by omega), ifB_true, asI_int, show AM.le 0 ((i : Int) - 1) = false from decide_eq_false (by omega), ifB_false]
        refine ecode.trans ?_
        rw [hgv, asI_int, keqv4t, show AM.eq c 0 = false by simp [AM.eq, hc0], show AM.le 0 ((i : Int) - 1) = false from decide_eq_false (by omega), show (!(false == false)) = false from rfl, ifB_false, asI_int, hadd]
        rfl
      · obtain ⟨j, rfl⟩ : ∃ j, i = j + 1 := ⟨i - 1, by omega⟩
        have hj : (((j + 1 : Nat) : Int) - 1) = (j : Int) := by omega
        rw [hj] at hadd hgv ⊢
        have hbit : AM.and .i64 (shr .i64 (n : Int) (j : Int)) 1 = if n.testBit j then 1 else 0 := bit_nat (by omega) (by omega)
        have start : ∀ r, (ifB (AM.eq (if n.testBit j then 1 else 0) 0) (AM.out .normal [.bool false, iv (((j + 1 + 1 : Nat) : Int) - 1)] g) (
              ld Try.prog g 3 h0.nx 0 fun v666 =>
              asI .i64 v666 fun n562 =>
              ld Try.prog g 3 h0.nx (AM.off 0 1) fun v667 =>
              asI .i64 v667 fun n563 =>
              bld Try.prog 52 [(0, (.int .i64 n562)), (1, (.int .i64 n563))] fun v668 =>
              al g 52 [(.int .i64 0), (.int .i64 0), (.slice none 0 0)] fun h454 =>
              st Try.prog h454 52 g.nx 0 v668 fun h455 =>
              ld Try.prog h455 47 h0.nx 0 fun v669 =>
              calls rn h455 37 [v669] fun v670 h456 =>
              fld Try.prog 52 v670 2 fun v671 =>
              len v671 fun n564 =>
              lp K (f16_l48 rn K n [.bool false, iv j] g v671 n564) [(.int .i64 0)] h456 fun e46 _ h463 =>
              onE e46 4 (
                ld Try.prog h463 52 g.nx 0 fun v677 =>
                calls rn h463 47 [v677] fun v678 h464 =>
                ext v678 0 fun _ =>
                ext v678 1 fun v680 =>
                asI .i64 v680 fun n573 =>
                asI .i64 (AM.gv [.bool false, iv j] 1) fun n574 =>
                eqv Try.prog 4 (.bool (AM.eq n573 0)) (.bool (AM.le 0 n574)) fun q79 =>
                ifB (not q79) (
                  AM.out .ret [(.bool false), AM.gv [.bool false, iv j] 1] h464) (
                  asI .i64 (AM.gv [.bool false, iv j] 1) fun n575 =>
                  AM.out .normal [AM.gv [.bool false, iv j] 0, (.int .i64 (add .i64 n575 1))] h464)) none)) = r → f16_l47 rn K h0 n [.bool false, iv j] g = r := by
          intro r hr
          unfold f16_l47
          simp only [d45, nx_eq, show AM.off 0 2 = 2 from rfl, cell_of hbg]
          rw [show ([iv p, iv e, sl] : List Value)[2]? = some sl from rfl, Option.bind_some, hln, show AM.gv [.bool false, iv j] 1 = iv j from rfl, asI_int, lt_t (by omega), ifB_true, asI_int, le_t (by omega), ifB_true, asK_int, nn_ge (show (0 : Int) ≤ (j : Int) by omega), hbit, asI_int, hadd]
          exact hr
        cases hbn : n.testBit j with
        | false =>
          refine ⟨.normal, [.bool false, iv (((j + 1 + 1 : Nat) : Int) - 1)], g, start _ ?_, .inl ⟨rfl, rfl, xg⟩⟩
          rw [hbn]; rfl
        | true =>
          obtain ⟨c, g2, x2, hc, ecode⟩ := part_table (K := K) (ws92 := [.bool false, iv j]) (set := without n (2 ^ j)) (n := n) (h0 := h0) hv (k := (j : Int)) rfl (by omega)
            (fun i => by
              rw [testBit_without, Nat.testBit_two_pow]
              congr 2
              exact decide_eq_decide.2 ⟨fun h => by omega, fun h => by omega⟩) hsg hbg (by omega) hK
            (fun n573 h464 => asI .i64 (AM.gv [.bool false, iv j] 1) fun n574 =>
                eqv Try.prog 4 (.bool (AM.eq n573 0)) (.bool (AM.le 0 n574)) fun q79 =>
                ifB (not q79) (
                  AM.out .ret [(.bool false), AM.gv [.bool false, iv j] 1] h464) (
                  asI .i64 (AM.gv [.bool false, iv j] 1) fun n575 =>
                  AM.out .normal [AM.gv [.bool false, iv j] 0, (.int .i64 (add .i64 n575 1))] h464))
          have hc0 : c = 0 := hc.2 (blame_less hv hbl hbn)
          refine ⟨.normal, [.bool false, iv (((j + 1 + 1 : Nat) : Int) - 1)], g2, start _ ?_, .inl ⟨rfl, rfl, xg.trans x2⟩⟩
          rw [hbn, if_pos rfl, show AM.eq (1 : Int) 0 = false from rfl, ifB_false]
          refine ecode.trans ?_
          rw [hc0, show AM.gv [.bool false, iv j] 1 = iv j from rfl, asI_int, keqv4t, show AM.eq (0 : Int) 0 = true from rfl, le_t (by omega), show (!(true == true)) = false from rfl, ifB_false, asI_int, hadd]
          rfl)
    (by
      rintro ws g ⟨rfl, xg⟩
      have hbg := (xg.blk _ h0n).trans hb0
      have hln : ∀ {T : Type} (K : Int → Option T), len sl K = K (l.length : Int) := fun K => by rw [hs.len]; simp
      refine ⟨.exit 2, [.bool false, iv (((l.length + 1 : Nat) : Int) - 1)], g, ?_, by simp, rfl, xg⟩
      unfold f16_l47
      simp only [d45, nx_eq, show AM.off 0 2 = 2 from rfl, cell_of hbg]
      rw [show ([iv p, iv e, sl] : List Value)[2]? = some sl from rfl, Option.bind_some, hln, show AM.gv [.bool false, iv (((l.length + 1 : Nat) : Int) - 1)] 1 = iv (((l.length + 1 : Nat) : Int) - 1) from rfl, asI_int, lt_f (by omega), ifB_false]
      rfl)
    (ws := [.bool false, iv (-1)]) (h := h) (by omega) ⟨rfl, .refl _⟩
  exact ⟨ws', h', hl, hx⟩

end Go.AM

end

section

/- The lives of states: what is said of them, that they are the only ones, and that a queue finds them. -/
namespace Go.Lives
/-- How many of the states that come have not been dealt with. -/
def left (tos : Nat → List Nat) (P : List Nat) (c : Nat) : Nat := (tos c).countP fun t => decide (t ∉ P)

end Go.Lives

end

section

/- The staged forms of functions 3, 5, 6, 7, 8, 14, 23, 24, 29, 30, 31, 32, 55, 60, 69, 70, 91, and what calls of these answer. -/
namespace Go.AM
open Go.Proofs
noncomputable def f3 (rec : Rec) (_k : Nat) (v0 : Value) (n0 : Int) (h0 : H) : Option (Value × H) :=
  calls rec h0 18 [v0] fun v1 h1 =>
  calls rec h1 17 [v1] fun v2 h2 =>
  ext v2 0 fun _ =>
  ext v2 1 fun v4 =>
  asI .i64 v4 fun n1 =>
  ifB (not (eq n1 0)) (
    ifB (eq n1 2) (
      calls rec h2 19 [] fun v5 h3 =>
      asB v5 fun q0 =>
      some ((.bool q0), h3)) (
      ifB (eq n1 4) (
        calls rec h2 19 [] fun v6 h4 =>
        asB v6 fun q1 =>
        some ((.bool q1), h4)) (
        some ((.bool false), h2)))) (
    len v0 fun n2 =>
    nz (wr .u64 n2) (
      calls rec h2 18 [v0] fun v7 h5 =>
      six v7 (wr .i64 (rem .u64 (wr .u64 n0) (wr .u64 n2))) 1 fun b0 b1 =>
      ld Try.prog h5 3 b0 b1 fun v8 =>
      asI .i64 v8 fun n3 =>
      six v7 (wr .i64 (rem .u64 (wr .u64 n0) (wr .u64 n2))) 1 fun b2 b3 =>
      st Try.prog h5 3 b2 b3 (.int .i64 (add .i64 n3 1)) fun h6 =>
      calls rec h6 17 [v7] fun v9 h7 =>
      ext v9 0 fun _ =>
      ext v9 1 fun v11 =>
      asI .i64 v11 fun n4 =>
      ifB (not (eq n4 0)) (
        ifB (not (eq n4 2)) (
          some ((.bool false), h7)) (
          len v0 fun n5 =>
          ifB (lt n5 2) (
            calls rec h7 19 [] fun v12 h8 =>
            asB v12 fun q2 =>
            some ((.bool q2), h8)) (
            sli Try.prog h7 22 v0 none (some (.int .i64 (wr .i64 (rem .u64 (wr .u64 n0) (wr .u64 n2))))) none fun v13 =>
            calls rec h7 18 [v13] fun v14 h9 =>
            sli Try.prog h9 22 v0 (some (.int .i64 (add .i64 (wr .i64 (rem .u64 (wr .u64 n0) (wr .u64 n2))) 1))) none none fun v15 =>
            ck (fres v0 (nx h7) (same h9 h7)) (
              app Try.prog h9 22 22 v14 v15 fun v16 h10 =>
              calls rec h10 17 [v16] fun v17 h11 =>
              ext v17 0 fun _ =>
              ext v17 1 fun v19 =>
              asI .i64 v19 fun n6 =>
              ifB (eq n6 0) (
                calls rec h11 19 [] fun v20 h12 =>
                asB v20 fun q3 =>
                some ((.bool q3), h12)) (
                some ((.bool false), h11)))))) (
        len v0 fun n7 =>
        ifB (lt n7 2) (
          calls rec h7 19 [] fun v21 h13 =>
          asB v21 fun q4 =>
          some ((.bool q4), h13)) (
          sli Try.prog h7 22 v0 none (some (.int .i64 (wr .i64 (rem .u64 (wr .u64 n0) (wr .u64 n2))))) none fun v22 =>
          calls rec h7 18 [v22] fun v23 h14 =>
          sli Try.prog h14 22 v0 (some (.int .i64 (add .i64 (wr .i64 (rem .u64 (wr .u64 n0) (wr .u64 n2))) 1))) none none fun v24 =>
          ck (fres v0 (nx h7) (same h14 h7)) (
            app Try.prog h14 22 22 v23 v24 fun v25 h15 =>
            calls rec h15 17 [v25] fun v26 h16 =>
            ext v26 0 fun _ =>
            ext v26 1 fun v28 =>
            asI .i64 v28 fun n8 =>
            ifB (eq n8 0) (
              calls rec h16 19 [] fun v29 h17 =>
              asB v29 fun q5 =>
              some ((.bool q5), h17)) (
              some ((.bool false), h16)))))))

theorem e3 (rec : Rec) (k : Nat) (v0 : Value) (n0 : Int) (h : H) : bodyT Try.prog E0 SC (XC Try.prog rec k) 3 (Value × H) [.opq v0, .int .i64 n0] h (fun v h => some (v, h)) = f3 rec k v0 n0 h := by kernel_rfl

theorem t3 {k : Nat} {v0 : Value} {n0 : Int} {h h1 : H} {v : Value} (hh : f3 rn k v0 n0 h = some (v, h1)) : rn 3 #[v0, .int .i64 n0] h = some (v, trunc Try.prog h h1 v) :=
  run_of_bodyT (args := [.opq v0, .int .i64 n0]) rfl ((e3 _ _ _ _ _).trans hh)

theorem p3 {k : Nat} {v0 : Value} {n0 : Int} {h h1 : H} {v : Value} (hh : f3 rn k v0 n0 h = some (v, h1)) (hp : plainO v = true) (x : Ext h h1) : rn 3 #[v0, .int .i64 n0] h = some (v, h) := by rw [t3 hh, trunc_pure hp x]

theorem x3 {k : Nat} {v0 : Value} {n0 : Int} {h h1 : H} {v : Value} (hh : f3 rn k v0 n0 h = some (v, h1)) (hp : plainO v = false) : rn 3 #[v0, .int .i64 n0] h = some (v, h1) := by rw [t3 hh, trunc_not hp]

noncomputable def f5 (rec : Rec) (_k : Nat) (v0 : Value) (h0 : H) : Option (Value × H) :=
  calls rec h0 18 [v0] fun v1 h1 =>
  calls rec h1 20 [v1] fun v2 h2 =>
  ext v2 0 fun v3 =>
  ext v2 1 fun v4 =>
  asI .i64 v4 fun n0 =>
  al h2 31 [(.int .i64 0), (.int .i64 0)] fun h3 =>
  st Try.prog h3 31 (nx h2) 0 v3 fun h4 =>
  calls rec h4 18 [v0] fun v5 h5 =>
  calls rec h5 17 [v5] fun v6 h6 =>
  ext v6 0 fun _ =>
  ext v6 1 fun v8 =>
  asI .i64 v8 fun n1 =>
  ifB (not (eq n0 0)) (
    ifB (eq n0 2) (
      ifB (eq n1 2) (
        calls rec h6 19 [] fun v9 h7 =>
        asB v9 fun q0 =>
        some ((.bool q0), h7)) (
        some ((.bool false), h6))) (
      some ((.bool false), h6))) (
    ifB (not (eq n1 0)) (
      ifB (not (eq n1 4)) (
        some ((.bool false), h6)) (
        ld Try.prog h6 3 (nx h2) (off 0 1) fun v10 =>
        asI .i64 v10 fun n2 =>
        ifB (lt n2 1) (
          some ((.bool false), h6)) (
          ld Try.prog h6 3 (nx h2) 0 fun v11 =>
          asI .i64 v11 fun n3 =>
          ifB (lt n3 1) (
            some ((.bool false), h6)) (
            ld Try.prog h6 3 (nx h2) (off 0 1) fun v12 =>
            asI .i64 v12 fun n4 =>
            ifB (lt 1048576 n4) (
              some ((.bool false), h6)) (
              ld Try.prog h6 3 (nx h2) 0 fun v13 =>
              asI .i64 v13 fun n5 =>
              ifB (lt 1048576 n5) (
                some ((.bool false), h6)) (
                ifB (eq n1 0) (
                  calls rec h6 23 [(.int .i64 1), (.int .i64 1), (pt (nx h2) 0)] fun v14 h8 =>
                  asB v14 fun q1 =>
                  ifB q1 (
                    calls rec h8 19 [] fun v15 h9 =>
                    asB v15 fun q2 =>
                    some ((.bool q2), h9)) (
                    some ((.bool false), h8))) (
                  calls rec h6 23 [(.int .i64 1), (.int .i64 2), (pt (nx h2) 0)] fun v16 h10 =>
                  asB v16 fun q3 =>
                  ifB (not q3) (
                    len v0 fun n6 =>
                    ifB (lt 3 n6) (
                      len v0 fun n7 =>
                      ifB (not (eq n7 2)) (
                        len v0 fun n8 =>
                        ifB (not (eq n8 1)) (
                          calls rec h10 19 [] fun v17 h11 =>
                          asB v17 fun q4 =>
                          some ((.bool q4), h11)) (
                          some ((.bool false), h10))) (
                        calls rec h10 23 [(.int .i64 1), (.int .i64 1), (pt (nx h2) 0)] fun v18 h12 =>
                        asB v18 fun q5 =>
                        ifB (not q5) (
                          len v0 fun n9 =>
                          ifB (not (eq n9 1)) (
                            calls rec h12 19 [] fun v19 h13 =>
                            asB v19 fun q6 =>
                            some ((.bool q6), h13)) (
                            some ((.bool false), h12))) (
                          some ((.bool false), h12)))) (
                      calls rec h10 23 [(.int .i64 5), (.int .i64 6), (pt (nx h2) 0)] fun v20 h14 =>
                      asB v20 fun q7 =>
                      ifB (not q7) (
                        len v0 fun n10 =>
                        ifB (not (eq n10 2)) (
                          len v0 fun n11 =>
                          ifB (not (eq n11 1)) (
                            calls rec h14 19 [] fun v21 h15 =>
                            asB v21 fun q8 =>
                            some ((.bool q8), h15)) (
                            some ((.bool false), h14))) (
                          calls rec h14 23 [(.int .i64 1), (.int .i64 1), (pt (nx h2) 0)] fun v22 h16 =>
                          asB v22 fun q9 =>
                          ifB (not q9) (
                            len v0 fun n12 =>
                            ifB (not (eq n12 1)) (
                              calls rec h16 19 [] fun v23 h17 =>
                              asB v23 fun q10 =>
                              some ((.bool q10), h17)) (
                              some ((.bool false), h16))) (
                            some ((.bool false), h16)))) (
                        some ((.bool false), h14)))) (
                    some ((.bool false), h10))))))))) (
      ld Try.prog h6 3 (nx h2) (off 0 1) fun v24 =>
      asI .i64 v24 fun n13 =>
      ifB (lt n13 1) (
        some ((.bool false), h6)) (
        ld Try.prog h6 3 (nx h2) 0 fun v25 =>
        asI .i64 v25 fun n14 =>
        ifB (lt n14 1) (
          some ((.bool false), h6)) (
          ld Try.prog h6 3 (nx h2) (off 0 1) fun v26 =>
          asI .i64 v26 fun n15 =>
          ifB (lt 1048576 n15) (
            some ((.bool false), h6)) (
            ld Try.prog h6 3 (nx h2) 0 fun v27 =>
            asI .i64 v27 fun n16 =>
            ifB (lt 1048576 n16) (
              some ((.bool false), h6)) (
              ifB (eq n1 0) (
                calls rec h6 23 [(.int .i64 1), (.int .i64 1), (pt (nx h2) 0)] fun v28 h18 =>
                asB v28 fun q11 =>
                ifB q11 (
                  calls rec h18 19 [] fun v29 h19 =>
                  asB v29 fun q12 =>
                  some ((.bool q12), h19)) (
                  some ((.bool false), h18))) (
                calls rec h6 23 [(.int .i64 1), (.int .i64 2), (pt (nx h2) 0)] fun v30 h20 =>
                asB v30 fun q13 =>
                ifB (not q13) (
                  len v0 fun n17 =>
                  ifB (lt 3 n17) (
                    len v0 fun n18 =>
                    ifB (not (eq n18 2)) (
                      len v0 fun n19 =>
                      ifB (not (eq n19 1)) (
                        calls rec h20 19 [] fun v31 h21 =>
                        asB v31 fun q14 =>
                        some ((.bool q14), h21)) (
                        some ((.bool false), h20))) (
                      calls rec h20 23 [(.int .i64 1), (.int .i64 1), (pt (nx h2) 0)] fun v32 h22 =>
                      asB v32 fun q15 =>
                      ifB (not q15) (
                        len v0 fun n20 =>
                        ifB (not (eq n20 1)) (
                          calls rec h22 19 [] fun v33 h23 =>
                          asB v33 fun q16 =>
                          some ((.bool q16), h23)) (
                          some ((.bool false), h22))) (
                        some ((.bool false), h22)))) (
                    calls rec h20 23 [(.int .i64 5), (.int .i64 6), (pt (nx h2) 0)] fun v34 h24 =>
                    asB v34 fun q17 =>
                    ifB (not q17) (
                      len v0 fun n21 =>
                      ifB (not (eq n21 2)) (
                        len v0 fun n22 =>
                        ifB (not (eq n22 1)) (
                          calls rec h24 19 [] fun v35 h25 =>
                          asB v35 fun q18 =>
                          some ((.bool q18), h25)) (
                          some ((.bool false), h24))) (
                        calls rec h24 23 [(.int .i64 1), (.int .i64 1), (pt (nx h2) 0)] fun v36 h26 =>
                        asB v36 fun q19 =>
                        ifB (not q19) (
                          len v0 fun n23 =>
                          ifB (not (eq n23 1)) (
                            calls rec h26 19 [] fun v37 h27 =>
                            asB v37 fun q20 =>
                            some ((.bool q20), h27)) (
                            some ((.bool false), h26))) (
                          some ((.bool false), h26)))) (
                      some ((.bool false), h24)))) (
                  some ((.bool false), h20)))))))))

theorem e5 (rec : Rec) (k : Nat) (v0 : Value) (h : H) : bodyT Try.prog E0 SC (XC Try.prog rec k) 5 (Value × H) [.opq v0] h (fun v h => some (v, h)) = f5 rec k v0 h := by kernel_rfl

theorem t5 {k : Nat} {v0 : Value} {h h1 : H} {v : Value} (hh : f5 rn k v0 h = some (v, h1)) : rn 5 #[v0] h = some (v, trunc Try.prog h h1 v) :=
  run_of_bodyT (args := [.opq v0]) rfl ((e5 _ _ _ _).trans hh)

theorem x5 {k : Nat} {v0 : Value} {h h1 : H} {v : Value} (hh : f5 rn k v0 h = some (v, h1)) (hp : plainO v = false) : rn 5 #[v0] h = some (v, h1) := by rw [t5 hh, trunc_not hp]

noncomputable def f6 (rec : Rec) (_k : Nat) (v0 : Value) (h0 : H) : Option (Value × H) :=
  calls rec h0 18 [v0] fun v1 h1 =>
  calls rec h1 24 [v1] fun v2 h2 =>
  ext v2 0 fun v3 =>
  ext v2 1 fun v4 =>
  asI .i64 v4 fun n0 =>
  calls rec h2 21 [v0] fun v5 h3 =>
  asB v5 fun q0 =>
  ifB (not q0) (
    len v3 fun n1 =>
    ifB (eq n1 0) (
      ifB (eq n0 2) (
        calls rec h3 19 [] fun v6 h4 =>
        asB v6 fun q1 =>
        some ((.bool q1), h4)) (
        some ((.bool false), h3))) (
      some ((.bool false), h3))) (
    calls rec h3 25 [v0] fun v7 h5 =>
    ext v7 0 fun v8 =>
    ext v7 1 fun v9 =>
    asI .i64 v9 fun n2 =>
    calls rec h5 26 [v3, v8] fun v10 h6 =>
    asB v10 fun q2 =>
    ifB q2 (
      ifB (eq n0 n2) (
        calls rec h6 19 [] fun v11 h7 =>
        asB v11 fun q3 =>
        some ((.bool q3), h7)) (
        some ((.bool false), h6))) (
      some ((.bool false), h6)))

theorem e6 (rec : Rec) (k : Nat) (v0 : Value) (h : H) : bodyT Try.prog E0 SC (XC Try.prog rec k) 6 (Value × H) [.opq v0] h (fun v h => some (v, h)) = f6 rec k v0 h := by kernel_rfl

theorem t6 {k : Nat} {v0 : Value} {h h1 : H} {v : Value} (hh : f6 rn k v0 h = some (v, h1)) : rn 6 #[v0] h = some (v, trunc Try.prog h h1 v) :=
  run_of_bodyT (args := [.opq v0]) rfl ((e6 _ _ _ _).trans hh)

theorem x6 {k : Nat} {v0 : Value} {h h1 : H} {v : Value} (hh : f6 rn k v0 h = some (v, h1)) (hp : plainO v = false) : rn 6 #[v0] h = some (v, h1) := by rw [t6 hh, trunc_not hp]

noncomputable def f7_l1 (rec : Rec) (_k : Nat) (v0 : Value) (v1 : Value) (n3 : Int) (ws0 : List Value) (h5 : H) : Option (Ex × List Value × H) :=
  asI .i64 (gv ws0 2) fun n4 =>
  ifB (lt n4 n3) (
    calls rec h5 18 [v0] fun v8 h6 =>
    calls rec h6 18 [v1] fun v9 h7 =>
    calls rec h7 28 [v8, v9, gv ws0 2] fun v10 h8 =>
    ext v10 0 fun v11 =>
    ext v10 1 fun v12 =>
    asI .i64 v12 fun n5 =>
    ifB (not (eq n5 0)) (
      ifB (not (eq n5 4)) (
        out .ret [(.bool false), gv ws0 1, gv ws0 2] h8) (
        asI .i64 (gv ws0 2) fun n6 =>
        out .normal [gv ws0 0, gv ws0 1, (.int .i64 (add .i64 n6 1))] h8)) (
      calls rec h8 18 [v0] fun v13 h9 =>
      calls rec h9 27 [v13, v11] fun v14 h10 =>
      ext v14 0 fun v15 =>
      asI .i64 v15 fun n7 =>
      ext v14 1 fun v16 =>
      asI .i64 v16 fun n8 =>
      ifB (not (eq n8 0)) (
        out .ret [(.bool false), gv ws0 1, gv ws0 2] h10) (
        ifB (lt n7 (-1)) (
          out .ret [(.bool false), gv ws0 1, gv ws0 2] h10) (
          ifB (lt n7 0) (
            asI .i64 (gv ws0 2) fun n9 =>
            out .normal [gv ws0 0, (.int .i64 (-1)), (.int .i64 (add .i64 n9 1))] h10) (
            asI .i64 (gv ws0 1) fun n10 =>
            ifB (lt n10 0) (
              asI .i64 (gv ws0 2) fun n11 =>
              out .normal [gv ws0 0, (.int .i64 (-1)), (.int .i64 (add .i64 n11 1))] h10) (
              asI .i64 (gv ws0 1) fun n12 =>
              asI .i64 (gv ws0 2) fun n13 =>
              out .normal [gv ws0 0, (.int .i64 (imax n12 (add .i64 n7 1))), (.int .i64 (add .i64 n13 1))] h10)))))) (
    out (.exit 0) [gv ws0 0, gv ws0 1, gv ws0 2] h5)

noncomputable def f7 (rec : Rec) (k : Nat) (v0 : Value) (v1 : Value) (n0 : Int) (h0 : H) : Option (Value × H) :=
  calls rec h0 18 [v0] fun v2 h1 =>
  calls rec h1 18 [v1] fun v3 h2 =>
  calls rec h2 27 [v2, v3] fun v4 h3 =>
  ext v4 0 fun v5 =>
  asI .i64 v5 fun n1 =>
  ext v4 1 fun v6 =>
  asI .i64 v6 fun n2 =>
  ifB (not (eq n2 0)) (
    ifB (eq n2 2) (
      calls rec h3 19 [] fun v7 h4 =>
      asB v7 fun q0 =>
      some ((.bool q0), h4)) (
      some ((.bool false), h3))) (
    len v0 fun n3 =>
    lp k (f7_l1 rec k v0 v1 n3) [(.bool false), (.int .i64 0), (.int .i64 0)] h3 fun e0 ws1 h11 =>
    onE e0 0 (
      len v0 fun n14 =>
      nz (wr .u64 n14) (
        calls rec h11 18 [v1] fun v17 h12 =>
        six v17 (wr .i64 (rem .u64 (wr .u64 n0) (wr .u64 n14))) 1 fun b0 b1 =>
        ld Try.prog h12 3 b0 b1 fun v18 =>
        asI .i64 v18 fun n15 =>
        six v0 (wr .i64 (rem .u64 (wr .u64 n0) (wr .u64 n14))) 1 fun b2 b3 =>
        ld Try.prog h12 3 b2 b3 fun v19 =>
        asI .i64 v19 fun n16 =>
        six v17 (wr .i64 (rem .u64 (wr .u64 n0) (wr .u64 n14))) 1 fun b4 b5 =>
        st Try.prog h12 3 b4 b5 (.int .i64 (imin (add .i64 n15 1) n16)) fun h13 =>
        calls rec h13 18 [v0] fun v20 h14 =>
        calls rec h14 27 [v20, v17] fun v21 h15 =>
        ext v21 0 fun v22 =>
        asI .i64 v22 fun n17 =>
        ext v21 1 fun v23 =>
        asI .i64 v23 fun n18 =>
        asI .i64 (gv ws1 1) fun n19 =>
        ifB (eq n1 n19) (
          ifB (eq n18 0) (
            ifB (lt n17 0) (
              calls rec h15 19 [] fun v24 h16 =>
              asB v24 fun q1 =>
              some ((.bool q1), h16)) (
              ifB (le 0 n1) (
                ifB (le n1 n17) (
                  calls rec h15 19 [] fun v25 h17 =>
                  asB v25 fun q2 =>
                  some ((.bool q2), h17)) (
                  some ((.bool false), h15))) (
                some ((.bool false), h15)))) (
            some ((.bool false), h15))) (
          some ((.bool false), h15)))) (
      onR e0 (
        some (gv ws1 0, h11))))

theorem e7 (rec : Rec) (k : Nat) (v0 : Value) (v1 : Value) (n0 : Int) (h : H) : bodyT Try.prog E0 SC (XC Try.prog rec k) 7 (Value × H) [.opq v0, .opq v1, .int .i64 n0] h (fun v h => some (v, h)) = f7 rec k v0 v1 n0 h := by kernel_rfl

theorem t7 {k : Nat} {v0 : Value} {v1 : Value} {n0 : Int} {h h1 : H} {v : Value} (hh : f7 rn k v0 v1 n0 h = some (v, h1)) : rn 7 #[v0, v1, .int .i64 n0] h = some (v, trunc Try.prog h h1 v) :=
  run_of_bodyT (args := [.opq v0, .opq v1, .int .i64 n0]) rfl ((e7 _ _ _ _ _ _).trans hh)

theorem x7 {k : Nat} {v0 : Value} {v1 : Value} {n0 : Int} {h h1 : H} {v : Value} (hh : f7 rn k v0 v1 n0 h = some (v, h1)) (hp : plainO v = false) : rn 7 #[v0, v1, .int .i64 n0] h = some (v, h1) := by rw [t7 hh, trunc_not hp]

noncomputable def f8 (rec : Rec) (_k : Nat) (v0 : Value) (v1 : Value) (h0 : H) : Option (Value × H) :=
  calls rec h0 18 [v0] fun v2 h1 =>
  calls rec h1 17 [v2] fun v3 h2 =>
  ext v3 0 fun v4 =>
  ext v3 1 fun v5 =>
  asI .i64 v5 fun n0 =>
  calls rec h2 18 [v0] fun v6 h3 =>
  calls rec h3 30 [v1] fun v7 h4 =>
  calls rec h4 29 [v6, v7] fun v8 h5 =>
  ext v8 0 fun v9 =>
  asB v9 fun q0 =>
  ext v8 1 fun v10 =>
  asI .i64 v10 fun n1 =>
  calls rec h5 21 [v0] fun v11 h6 =>
  asB v11 fun q1 =>
  ifB (not q1) (
    len v4 fun n2 =>
    ifB (eq n2 0) (
      ifB (not q0) (
        ifB (eq n0 2) (
          ifB (eq n1 2) (
            calls rec h6 19 [] fun v12 h7 =>
            asB v12 fun q2 =>
            some ((.bool q2), h7)) (
            some ((.bool false), h6))) (
          some ((.bool false), h6))) (
        some ((.bool false), h6))) (
      some ((.bool false), h6))) (
    calls rec h6 31 [v0, v1] fun v13 h8 =>
    asB v13 fun q3 =>
    eqv Try.prog 4 (.bool q0) (.bool q3) fun q4 =>
    ifB (not q4) (
      some ((.bool false), h8)) (
      ifB (not (eq n1 0)) (
        some ((.bool false), h8)) (
        calls rec h8 19 [] fun v14 h9 =>
        asB v14 fun q5 =>
        ifB (not q5) (
          some ((.bool false), h9)) (
          calls rec h9 32 [v0] fun v15 h10 =>
          asB v15 fun q6 =>
          ifB (not q6) (
            len v4 fun n3 =>
            ifB (eq n3 0) (
              some ((.bool (eq n0 4)), h10)) (
              some ((.bool false), h10))) (
            calls rec h10 31 [v0, v4] fun v16 h11 =>
            asB v16 fun q7 =>
            ifB q7 (
              some ((.bool (eq n0 0)), h11)) (
              some ((.bool false), h11)))))))

theorem e8 (rec : Rec) (k : Nat) (v0 : Value) (v1 : Value) (h : H) : bodyT Try.prog E0 SC (XC Try.prog rec k) 8 (Value × H) [.opq v0, .opq v1] h (fun v h => some (v, h)) = f8 rec k v0 v1 h := by kernel_rfl

theorem t8 {k : Nat} {v0 : Value} {v1 : Value} {h h1 : H} {v : Value} (hh : f8 rn k v0 v1 h = some (v, h1)) : rn 8 #[v0, v1] h = some (v, trunc Try.prog h h1 v) :=
  run_of_bodyT (args := [.opq v0, .opq v1]) rfl ((e8 _ _ _ _ _).trans hh)

theorem x8 {k : Nat} {v0 : Value} {v1 : Value} {h h1 : H} {v : Value} (hh : f8 rn k v0 v1 h = some (v, h1)) (hp : plainO v = false) : rn 8 #[v0, v1] h = some (v, h1) := by rw [t8 hh, trunc_not hp]

noncomputable def f14_l1 (rec : Rec) (_k : Nat) (v0 : Value) (v7 : Value) (n3 : Int) (ws0 : List Value) (h10 : H) : Option (Ex × List Value × H) :=
  asI .i64 (gv ws0 2) fun n4 =>
  ifB (lt n4 n3) (
    asK (gv ws0 2) fun n5 =>
    six v7 n5 1 fun b0 b1 =>
    ld Try.prog h10 3 b0 b1 fun v16 =>
    asI .i64 v16 fun n6 =>
    calls rec h10 18 [v0] fun v17 h11 =>
    calls rec h11 27 [v17, gv ws0 1] fun v18 h12 =>
    ext v18 0 fun v19 =>
    asI .i64 v19 fun n7 =>
    ext v18 1 fun v20 =>
    asI .i64 v20 fun n8 =>
    ifB (not (eq n8 0)) (
      out .ret [(.bool false), gv ws0 1, gv ws0 2] h12) (
      len v7 fun n9 =>
      asI .i64 (gv ws0 2) fun n10 =>
      ifB (not (eq n7 (sub .i64 n9 n10))) (
        out .ret [(.bool false), gv ws0 1, gv ws0 2] h12) (
        calls rec h12 18 [v0] fun v21 h13 =>
        calls rec h13 28 [v21, gv ws0 1, (.int .i64 n6)] fun v22 h14 =>
        ext v22 0 fun v23 =>
        ext v22 1 fun v24 =>
        asI .i64 v24 fun n11 =>
        ifB (not (eq n11 0)) (
          out .ret [(.bool false), v23, gv ws0 2] h14) (
          asI .i64 (gv ws0 2) fun n12 =>
          out .normal [gv ws0 0, v23, (.int .i64 (add .i64 n12 1))] h14)))) (
    out (.exit 0) [gv ws0 0, gv ws0 1, gv ws0 2] h10)

noncomputable def f14_l2 (rec : Rec) (_k : Nat) (v0 : Value) (ws1 : List Value) (n13 : Int) (ws2 : List Value) (h16 : H) : Option (Ex × List Value × H) :=
  asI .i64 (gv ws2 1) fun n14 =>
  ifB (lt n14 n13) (
    calls rec h16 18 [v0] fun v25 h17 =>
    calls rec h17 28 [v25, gv ws1 1, gv ws2 1] fun v26 h18 =>
    ext v26 0 fun _ =>
    ext v26 1 fun v28 =>
    asI .i64 v28 fun n15 =>
    ifB (not (eq n15 4)) (
      out .ret [(.bool false), gv ws2 1] h18) (
      asI .i64 (gv ws2 1) fun n16 =>
      out .normal [gv ws2 0, (.int .i64 (add .i64 n16 1))] h18)) (
    out (.exit 2) [gv ws2 0, gv ws2 1] h16)

noncomputable def f14_l3 (rec : Rec) (_k : Nat) (v0 : Value) (v7 : Value) (n18 : Int) (ws4 : List Value) (h25 : H) : Option (Ex × List Value × H) :=
  asI .i64 (gv ws4 2) fun n19 =>
  ifB (lt n19 n18) (
    asK (gv ws4 2) fun n20 =>
    six v7 n20 1 fun b2 b3 =>
    ld Try.prog h25 3 b2 b3 fun v36 =>
    asI .i64 v36 fun n21 =>
    calls rec h25 18 [v0] fun v37 h26 =>
    calls rec h26 27 [v37, gv ws4 1] fun v38 h27 =>
    ext v38 0 fun v39 =>
    asI .i64 v39 fun n22 =>
    ext v38 1 fun v40 =>
    asI .i64 v40 fun n23 =>
    ifB (not (eq n23 0)) (
      out .ret [(.bool false), gv ws4 1, gv ws4 2] h27) (
      len v7 fun n24 =>
      asI .i64 (gv ws4 2) fun n25 =>
      ifB (not (eq n22 (sub .i64 n24 n25))) (
        out .ret [(.bool false), gv ws4 1, gv ws4 2] h27) (
        calls rec h27 18 [v0] fun v41 h28 =>
        calls rec h28 28 [v41, gv ws4 1, (.int .i64 n21)] fun v42 h29 =>
        ext v42 0 fun v43 =>
        ext v42 1 fun v44 =>
        asI .i64 v44 fun n26 =>
        ifB (not (eq n26 0)) (
          out .ret [(.bool false), v43, gv ws4 2] h29) (
          asI .i64 (gv ws4 2) fun n27 =>
          out .normal [gv ws4 0, v43, (.int .i64 (add .i64 n27 1))] h29)))) (
    out (.exit 0) [gv ws4 0, gv ws4 1, gv ws4 2] h25)

noncomputable def f14_l4 (rec : Rec) (_k : Nat) (v0 : Value) (ws5 : List Value) (n28 : Int) (ws6 : List Value) (h31 : H) : Option (Ex × List Value × H) :=
  asI .i64 (gv ws6 1) fun n29 =>
  ifB (lt n29 n28) (
    calls rec h31 18 [v0] fun v45 h32 =>
    calls rec h32 28 [v45, gv ws5 1, gv ws6 1] fun v46 h33 =>
    ext v46 0 fun _ =>
    ext v46 1 fun v48 =>
    asI .i64 v48 fun n30 =>
    ifB (not (eq n30 4)) (
      out .ret [(.bool false), gv ws6 1] h33) (
      asI .i64 (gv ws6 1) fun n31 =>
      out .normal [gv ws6 0, (.int .i64 (add .i64 n31 1))] h33)) (
    out (.exit 2) [gv ws6 0, gv ws6 1] h31)

noncomputable def f14_l5 (rec : Rec) (_k : Nat) (v0 : Value) (v7 : Value) (n33 : Int) (ws8 : List Value) (h40 : H) : Option (Ex × List Value × H) :=
  asI .i64 (gv ws8 2) fun n34 =>
  ifB (lt n34 n33) (
    asK (gv ws8 2) fun n35 =>
    six v7 n35 1 fun b4 b5 =>
    ld Try.prog h40 3 b4 b5 fun v56 =>
    asI .i64 v56 fun n36 =>
    calls rec h40 18 [v0] fun v57 h41 =>
    calls rec h41 27 [v57, gv ws8 1] fun v58 h42 =>
    ext v58 0 fun v59 =>
    asI .i64 v59 fun n37 =>
    ext v58 1 fun v60 =>
    asI .i64 v60 fun n38 =>
    ifB (not (eq n38 0)) (
      out .ret [(.bool false), gv ws8 1, gv ws8 2] h42) (
      len v7 fun n39 =>
      asI .i64 (gv ws8 2) fun n40 =>
      ifB (not (eq n37 (sub .i64 n39 n40))) (
        out .ret [(.bool false), gv ws8 1, gv ws8 2] h42) (
        calls rec h42 18 [v0] fun v61 h43 =>
        calls rec h43 28 [v61, gv ws8 1, (.int .i64 n36)] fun v62 h44 =>
        ext v62 0 fun v63 =>
        ext v62 1 fun v64 =>
        asI .i64 v64 fun n41 =>
        ifB (not (eq n41 0)) (
          out .ret [(.bool false), v63, gv ws8 2] h44) (
          asI .i64 (gv ws8 2) fun n42 =>
          out .normal [gv ws8 0, v63, (.int .i64 (add .i64 n42 1))] h44)))) (
    out (.exit 0) [gv ws8 0, gv ws8 1, gv ws8 2] h40)

noncomputable def f14_l6 (rec : Rec) (_k : Nat) (v0 : Value) (ws9 : List Value) (n43 : Int) (ws10 : List Value) (h46 : H) : Option (Ex × List Value × H) :=
  asI .i64 (gv ws10 1) fun n44 =>
  ifB (lt n44 n43) (
    calls rec h46 18 [v0] fun v65 h47 =>
    calls rec h47 28 [v65, gv ws9 1, gv ws10 1] fun v66 h48 =>
    ext v66 0 fun _ =>
    ext v66 1 fun v68 =>
    asI .i64 v68 fun n45 =>
    ifB (not (eq n45 4)) (
      out .ret [(.bool false), gv ws10 1] h48) (
      asI .i64 (gv ws10 1) fun n46 =>
      out .normal [gv ws10 0, (.int .i64 (add .i64 n46 1))] h48)) (
    out (.exit 2) [gv ws10 0, gv ws10 1] h46)

noncomputable def f14_l7 (rec : Rec) (_k : Nat) (v0 : Value) (v7 : Value) (n48 : Int) (ws12 : List Value) (h55 : H) : Option (Ex × List Value × H) :=
  asI .i64 (gv ws12 2) fun n49 =>
  ifB (lt n49 n48) (
    asK (gv ws12 2) fun n50 =>
    six v7 n50 1 fun b6 b7 =>
    ld Try.prog h55 3 b6 b7 fun v76 =>
    asI .i64 v76 fun n51 =>
    calls rec h55 18 [v0] fun v77 h56 =>
    calls rec h56 27 [v77, gv ws12 1] fun v78 h57 =>
    ext v78 0 fun v79 =>
    asI .i64 v79 fun n52 =>
    ext v78 1 fun v80 =>
    asI .i64 v80 fun n53 =>
    ifB (not (eq n53 0)) (
      out .ret [(.bool false), gv ws12 1, gv ws12 2] h57) (
      len v7 fun n54 =>
      asI .i64 (gv ws12 2) fun n55 =>
      ifB (not (eq n52 (sub .i64 n54 n55))) (
        out .ret [(.bool false), gv ws12 1, gv ws12 2] h57) (
        calls rec h57 18 [v0] fun v81 h58 =>
        calls rec h58 28 [v81, gv ws12 1, (.int .i64 n51)] fun v82 h59 =>
        ext v82 0 fun v83 =>
        ext v82 1 fun v84 =>
        asI .i64 v84 fun n56 =>
        ifB (not (eq n56 0)) (
          out .ret [(.bool false), v83, gv ws12 2] h59) (
          asI .i64 (gv ws12 2) fun n57 =>
          out .normal [gv ws12 0, v83, (.int .i64 (add .i64 n57 1))] h59)))) (
    out (.exit 0) [gv ws12 0, gv ws12 1, gv ws12 2] h55)

noncomputable def f14_l8 (rec : Rec) (_k : Nat) (v0 : Value) (ws13 : List Value) (n58 : Int) (ws14 : List Value) (h61 : H) : Option (Ex × List Value × H) :=
  asI .i64 (gv ws14 1) fun n59 =>
  ifB (lt n59 n58) (
    calls rec h61 18 [v0] fun v85 h62 =>
    calls rec h62 28 [v85, gv ws13 1, gv ws14 1] fun v86 h63 =>
    ext v86 0 fun _ =>
    ext v86 1 fun v88 =>
    asI .i64 v88 fun n60 =>
    ifB (not (eq n60 4)) (
      out .ret [(.bool false), gv ws14 1] h63) (
      asI .i64 (gv ws14 1) fun n61 =>
      out .normal [gv ws14 0, (.int .i64 (add .i64 n61 1))] h63)) (
    out (.exit 2) [gv ws14 0, gv ws14 1] h61)

noncomputable def f14 (rec : Rec) (k : Nat) (v0 : Value) (h0 : H) : Option (Value × H) :=
  calls rec h0 18 [v0] fun v1 h1 =>
  calls rec h1 17 [v1] fun v2 h2 =>
  ext v2 0 fun v3 =>
  ext v2 1 fun v4 =>
  asI .i64 v4 fun n0 =>
  calls rec h2 18 [v0] fun v5 h3 =>
  calls rec h3 24 [v5] fun v6 h4 =>
  ext v6 0 fun v7 =>
  ext v6 1 fun v8 =>
  asI .i64 v8 fun n1 =>
  ifB (eq n0 2) (
    ifB (eq n1 2) (
      calls rec h4 19 [] fun v9 h5 =>
      asB v9 fun q0 =>
      some ((.bool q0), h5)) (
      some ((.bool false), h4))) (
    eqv Try.prog 4 (.bool (eq n0 0)) (.bool (eq n1 0)) fun q1 =>
    ifB q1 (
      some ((.bool false), h4)) (
      ifB (not (eq n0 0)) (
        ifB (not (eq n0 4)) (
          some ((.bool false), h4)) (
          ifB (not (eq n1 0)) (
            ifB (not (eq n1 4)) (
              some ((.bool false), h4)) (
              ifB (eq n0 0) (
                calls rec h4 18 [v0] fun v10 h6 =>
                calls rec h6 29 [v10, v3] fun v11 h7 =>
                ext v11 0 fun v12 =>
                asB v12 fun q2 =>
                ext v11 1 fun v13 =>
                asI .i64 v13 fun n2 =>
                ifB q2 (
                  ifB (eq n2 0) (
                    calls rec h7 19 [] fun v14 h8 =>
                    asB v14 fun q3 =>
                    some ((.bool q3), h8)) (
                    some ((.bool false), h7))) (
                  some ((.bool false), h7))) (
                calls rec h4 18 [v0] fun v15 h9 =>
                len v7 fun n3 =>
                lp k (f14_l1 rec k v0 v7 n3) [(.bool false), v15, (.int .i64 0)] h9 fun e0 ws1 h15 =>
                onE e0 0 (
                  len v0 fun n13 =>
                  lp k (f14_l2 rec k v0 ws1 n13) [gv ws1 0, (.int .i64 0)] h15 fun e1 ws3 h19 =>
                  onE e1 2 (
                    calls rec h19 19 [] fun v29 h20 =>
                    asB v29 fun q4 =>
                    some ((.bool q4), h20)) (
                    onR e1 (
                      some (gv ws3 0, h19)))) (
                  onR e0 (
                    some (gv ws1 0, h15)))))) (
            ifB (eq n0 0) (
              calls rec h4 18 [v0] fun v30 h21 =>
              calls rec h21 29 [v30, v3] fun v31 h22 =>
              ext v31 0 fun v32 =>
              asB v32 fun q5 =>
              ext v31 1 fun v33 =>
              asI .i64 v33 fun n17 =>
              ifB q5 (
                ifB (eq n17 0) (
                  calls rec h22 19 [] fun v34 h23 =>
                  asB v34 fun q6 =>
                  some ((.bool q6), h23)) (
                  some ((.bool false), h22))) (
                some ((.bool false), h22))) (
              calls rec h4 18 [v0] fun v35 h24 =>
              len v7 fun n18 =>
              lp k (f14_l3 rec k v0 v7 n18) [(.bool false), v35, (.int .i64 0)] h24 fun e2 ws5 h30 =>
              onE e2 0 (
                len v0 fun n28 =>
                lp k (f14_l4 rec k v0 ws5 n28) [gv ws5 0, (.int .i64 0)] h30 fun e3 ws7 h34 =>
                onE e3 2 (
                  calls rec h34 19 [] fun v49 h35 =>
                  asB v49 fun q7 =>
                  some ((.bool q7), h35)) (
                  onR e3 (
                    some (gv ws7 0, h34)))) (
                onR e2 (
                  some (gv ws5 0, h30))))))) (
        ifB (not (eq n1 0)) (
          ifB (not (eq n1 4)) (
            some ((.bool false), h4)) (
            ifB (eq n0 0) (
              calls rec h4 18 [v0] fun v50 h36 =>
              calls rec h36 29 [v50, v3] fun v51 h37 =>
              ext v51 0 fun v52 =>
              asB v52 fun q8 =>
              ext v51 1 fun v53 =>
              asI .i64 v53 fun n32 =>
              ifB q8 (
                ifB (eq n32 0) (
                  calls rec h37 19 [] fun v54 h38 =>
                  asB v54 fun q9 =>
                  some ((.bool q9), h38)) (
                  some ((.bool false), h37))) (
                some ((.bool false), h37))) (
              calls rec h4 18 [v0] fun v55 h39 =>
              len v7 fun n33 =>
              lp k (f14_l5 rec k v0 v7 n33) [(.bool false), v55, (.int .i64 0)] h39 fun e4 ws9 h45 =>
              onE e4 0 (
                len v0 fun n43 =>
                lp k (f14_l6 rec k v0 ws9 n43) [gv ws9 0, (.int .i64 0)] h45 fun e5 ws11 h49 =>
                onE e5 2 (
                  calls rec h49 19 [] fun v69 h50 =>
                  asB v69 fun q10 =>
                  some ((.bool q10), h50)) (
                  onR e5 (
                    some (gv ws11 0, h49)))) (
                onR e4 (
                  some (gv ws9 0, h45)))))) (
          ifB (eq n0 0) (
            calls rec h4 18 [v0] fun v70 h51 =>
            calls rec h51 29 [v70, v3] fun v71 h52 =>
            ext v71 0 fun v72 =>
            asB v72 fun q11 =>
            ext v71 1 fun v73 =>
            asI .i64 v73 fun n47 =>
            ifB q11 (
              ifB (eq n47 0) (
                calls rec h52 19 [] fun v74 h53 =>
                asB v74 fun q12 =>
                some ((.bool q12), h53)) (
                some ((.bool false), h52))) (
              some ((.bool false), h52))) (
            calls rec h4 18 [v0] fun v75 h54 =>
            len v7 fun n48 =>
            lp k (f14_l7 rec k v0 v7 n48) [(.bool false), v75, (.int .i64 0)] h54 fun e6 ws13 h60 =>
            onE e6 0 (
              len v0 fun n58 =>
              lp k (f14_l8 rec k v0 ws13 n58) [gv ws13 0, (.int .i64 0)] h60 fun e7 ws15 h64 =>
              onE e7 2 (
                calls rec h64 19 [] fun v89 h65 =>
                asB v89 fun q13 =>
                some ((.bool q13), h65)) (
                onR e7 (
                  some (gv ws15 0, h64)))) (
              onR e6 (
                some (gv ws13 0, h60))))))))

theorem e14 (rec : Rec) (k : Nat) (v0 : Value) (h : H) : bodyT Try.prog E0 SC (XC Try.prog rec k) 14 (Value × H) [.opq v0] h (fun v h => some (v, h)) = f14 rec k v0 h := by kernel_rfl

theorem t14 {k : Nat} {v0 : Value} {h h1 : H} {v : Value} (hh : f14 rn k v0 h = some (v, h1)) : rn 14 #[v0] h = some (v, trunc Try.prog h h1 v) :=
  run_of_bodyT (args := [.opq v0]) rfl ((e14 _ _ _ _).trans hh)

theorem x14 {k : Nat} {v0 : Value} {h h1 : H} {v : Value} (hh : f14 rn k v0 h = some (v, h1)) (hp : plainO v = false) : rn 14 #[v0] h = some (v, h1) := by rw [t14 hh, trunc_not hp]

noncomputable def f23 (_rec : Rec) (_k : Nat) (n0 : Int) (n1 : Int) (v0 : Value) (h0 : H) : Option (Value × H) :=
  asP v0 fun b0 b1 =>
  ld Try.prog h0 3 b0 b1 fun v1 =>
  asI .i64 v1 fun n2 =>
  asP v0 fun b2 b3 =>
  ld Try.prog h0 3 b2 (off b3 1) fun v2 =>
  asI .i64 v2 fun n3 =>
  some ((.bool (le (mul .i64 n2 n1) (mul .i64 n3 n0))), h0)

theorem e23 (rec : Rec) (k : Nat) (n0 : Int) (n1 : Int) (v0 : Value) (h : H) : bodyT Try.prog E0 SC (XC Try.prog rec k) 23 (Value × H) [.int .i64 n0, .int .i64 n1, .opq v0] h (fun v h => some (v, h)) = f23 rec k n0 n1 v0 h := by kernel_rfl

noncomputable def f24_l1 (rec : Rec) (_k : Nat) (h2 : H) (h5 : H) (ws0 : List Value) (h9 : H) : Option (Ex × List Value × H) :=
  ld Try.prog h9 70 (nx h2) 0 fun v9 =>
  nil v9 (
    asP v9 fun b4 b5 =>
    ld Try.prog h9 22 b4 (off b5 2) fun v10 =>
    ld Try.prog h9 3 (nx h5) 0 fun v11 =>
    asI .i64 v11 fun n3 =>
    six v10 n3 1 fun b6 b7 =>
    ld Try.prog h9 3 b6 b7 fun v12 =>
    asI .i64 v12 fun n4 =>
    ifB (lt 0 n4) (
      ld Try.prog h9 70 (nx h2) 0 fun v13 =>
      nil v13 (
        asP v13 fun b8 b9 =>
        ld Try.prog h9 60 b8 (off b9 1) fun v14 =>
        ld Try.prog h9 3 (nx h5) 0 fun v15 =>
        asI .i64 v15 fun n5 =>
        six v14 n5 1 fun b10 b11 =>
        ld Try.prog h9 22 b10 b11 fun v16 =>
        calls rec h9 60 [v16, (.func (.func 61) #[] #[(pt (nx h2) 0), (pt (nx h5) 0)])] fun v17 h10 =>
        asI .i64 v17 fun n6 =>
        bls Try.prog h10 22 1 [(0, (.int .i64 n6))] fun v18 h11 =>
        app Try.prog h11 22 22 (gv ws0 0) v18 fun v19 h12 =>
        ld Try.prog h12 70 (nx h2) 0 fun v20 =>
        nil v20 (
          asP v20 fun b12 b13 =>
          ld Try.prog h12 60 b12 (off b13 1) fun v21 =>
          ld Try.prog h12 3 (nx h5) 0 fun v22 =>
          asI .i64 v22 fun n7 =>
          six v21 n7 1 fun b14 b15 =>
          ld Try.prog h12 22 b14 b15 fun v23 =>
          six v23 n6 1 fun b16 b17 =>
          ld Try.prog h12 3 b16 b17 fun v24 =>
          asI .i64 v24 fun n8 =>
          st Try.prog h12 3 (nx h5) 0 (.int .i64 n8) fun h13 =>
          out .normal [v19] h13))) (
      out (.exit 0) [gv ws0 0] h9))

noncomputable def f24 (rec : Rec) (k : Nat) (v0 : Value) (h0 : H) : Option (Value × H) :=
  calls rec h0 53 [v0] fun v1 h1 =>
  asB v1 fun q0 =>
  ifB (not q0) (
    some ((.tuple #[(.slice none 0 0), (.int .i64 2)]), h1)) (
    calls rec h1 54 [v0] fun v2 h2 =>
    al h2 70 [(.pointer none)] fun h3 =>
    st Try.prog h3 70 (nx h2) 0 v2 fun h4 =>
    calls rec h4 59 [v0] fun v3 h5 =>
    asI .i64 v3 fun n0 =>
    al h5 3 [(.int .i64 0)] fun h6 =>
    st Try.prog h6 3 (nx h5) 0 (.int .i64 n0) fun h7 =>
    ld Try.prog h7 70 (nx h2) 0 fun v4 =>
    nil v4 (
      asP v4 fun b0 b1 =>
      ld Try.prog h7 22 b0 (off b1 2) fun v5 =>
      ld Try.prog h7 3 (nx h5) 0 fun v6 =>
      asI .i64 v6 fun n1 =>
      six v5 n1 1 fun b2 b3 =>
      ld Try.prog h7 3 b2 b3 fun v7 =>
      asI .i64 v7 fun n2 =>
      ifB (lt n2 0) (
        some ((.tuple #[(.slice none 0 0), (.int .i64 4)]), h7)) (
        bls Try.prog h7 22 0 [] fun v8 h8 =>
        lp k (f24_l1 rec k h2 h5) [v8] h8 fun e0 ws1 h14 =>
        onE e0 0 (
          some ((.tuple #[gv ws1 0, (.int .i64 0)]), h14)) (
          none))))

theorem e24 (rec : Rec) (k : Nat) (v0 : Value) (h : H) : bodyT Try.prog E0 SC (XC Try.prog rec k) 24 (Value × H) [.opq v0] h (fun v h => some (v, h)) = f24 rec k v0 h := by kernel_rfl

noncomputable def f29_l1 (rec : Rec) (_k : Nat) (v0 : Value) (v1 : Value) (n1 : Int) (ws0 : List Value) (h3 : H) : Option (Ex × List Value × H) :=
  asI .i64 (gv ws0 2) fun n2 =>
  ifB (lt n2 n1) (
    asK (gv ws0 2) fun n3 =>
    six v0 n3 1 fun b0 b1 =>
    ld Try.prog h3 3 b0 b1 fun v4 =>
    asI .i64 v4 fun n4 =>
    calls rec h3 69 [v1, gv ws0 2] fun v5 h4 =>
    asI .i64 v5 fun n5 =>
    ifB (eq n5 0) (
      out .ret [(.bool false), (.int .i64 0), gv ws0 2] h4) (
      ifB (lt n4 n5) (
        out .ret [(.bool false), (.int .i64 0), gv ws0 2] h4) (
        asI .i64 (gv ws0 2) fun n6 =>
        out .normal [gv ws0 0, gv ws0 1, (.int .i64 (add .i64 n6 1))] h4))) (
    out (.exit 0) [gv ws0 0, gv ws0 1, gv ws0 2] h3)

noncomputable def f29 (rec : Rec) (k : Nat) (v0 : Value) (v1 : Value) (h0 : H) : Option (Value × H) :=
  calls rec h0 53 [v0] fun v2 h1 =>
  asB v2 fun q0 =>
  ifB (not q0) (
    some ((.tuple #[(.bool false), (.int .i64 2)]), h1)) (
    len v0 fun n0 =>
    calls rec h1 68 [v1, (.int .i64 n0), (.int .i64 4000)] fun v3 h2 =>
    asB v3 fun q1 =>
    ifB (not q1) (
      some ((.tuple #[(.bool false), (.int .i64 0)]), h2)) (
      len v0 fun n1 =>
      lp k (f29_l1 rec k v0 v1 n1) [(.bool false), (.int .i64 0), (.int .i64 0)] h2 fun e0 ws1 h5 =>
      onE e0 0 (
        some ((.tuple #[(.bool true), (.int .i64 0)]), h5)) (
        onR e0 (
          some ((.tuple #[gv ws1 0, gv ws1 1]), h5)))))

theorem e29 (rec : Rec) (k : Nat) (v0 : Value) (v1 : Value) (h : H) : bodyT Try.prog E0 SC (XC Try.prog rec k) 29 (Value × H) [.opq v0, .opq v1] h (fun v h => some (v, h)) = f29 rec k v0 v1 h := by kernel_rfl

noncomputable def f30 (rec : Rec) (_k : Nat) (v0 : Value) (h0 : H) : Option (Value × H) :=
  len v0 fun n0 =>
  sli Try.prog h0 22 v0 none (some (.int .i64 (imin n0 20100))) none fun v1 =>
  calls rec h0 56 [v1] fun v2 h1 =>
  some (v2, h1)

theorem e30 (rec : Rec) (k : Nat) (v0 : Value) (h : H) : bodyT Try.prog E0 SC (XC Try.prog rec k) 30 (Value × H) [.opq v0] h (fun v h => some (v, h)) = f30 rec k v0 h := by kernel_rfl

noncomputable def f31_l1 (_rec : Rec) (_k : Nat) (v0 : Value) (v1 : Value) (n2 : Int) (ws0 : List Value) (h1 : H) : Option (Ex × List Value × H) :=
  asI .i64 (gv ws0 1) fun n3 =>
  ifB (lt n3 n2) (
    asK (gv ws0 1) fun n4 =>
    six v1 n4 1 fun b0 b1 =>
    ld Try.prog h1 3 b0 b1 fun v2 =>
    asI .i64 v2 fun n5 =>
    ifB (lt n5 0) (
      out .ret [(.bool false), gv ws0 1] h1) (
      len v0 fun n6 =>
      ifB (le n6 n5) (
        out .ret [(.bool false), gv ws0 1] h1) (
        asI .i64 (gv ws0 1) fun n7 =>
        out .normal [gv ws0 0, (.int .i64 (add .i64 n7 1))] h1))) (
    out (.exit 0) [gv ws0 0, gv ws0 1] h1)

noncomputable def f31_l2 (rec : Rec) (_k : Nat) (v0 : Value) (v1 : Value) (n8 : Int) (ws2 : List Value) (h3 : H) : Option (Ex × List Value × H) :=
  asI .i64 (gv ws2 1) fun n9 =>
  ifB (lt n9 n8) (
    asK (gv ws2 1) fun n10 =>
    six v0 n10 1 fun b2 b3 =>
    ld Try.prog h3 3 b2 b3 fun v3 =>
    asI .i64 v3 fun n11 =>
    calls rec h3 70 [v1, gv ws2 1] fun v4 h4 =>
    asI .i64 v4 fun n12 =>
    ifB (lt n11 n12) (
      out .ret [(.bool false), gv ws2 1] h4) (
      asI .i64 (gv ws2 1) fun n13 =>
      out .normal [gv ws2 0, (.int .i64 (add .i64 n13 1))] h4)) (
    out (.exit 2) [gv ws2 0, gv ws2 1] h3)

noncomputable def f31 (rec : Rec) (k : Nat) (v0 : Value) (v1 : Value) (h0 : H) : Option (Value × H) :=
  len v1 fun n0 =>
  ifB (lt n0 1) (
    some ((.bool false), h0)) (
    len v1 fun n1 =>
    ifB (lt 4000 n1) (
      some ((.bool false), h0)) (
      len v1 fun n2 =>
      lp k (f31_l1 rec k v0 v1 n2) [(.bool false), (.int .i64 0)] h0 fun e0 ws1 h2 =>
      onE e0 0 (
        len v0 fun n8 =>
        lp k (f31_l2 rec k v0 v1 n8) [gv ws1 0, (.int .i64 0)] h2 fun e1 ws3 h5 =>
        onE e1 2 (
          some ((.bool true), h5)) (
          onR e1 (
            some (gv ws3 0, h5)))) (
        onR e0 (
          some (gv ws1 0, h2)))))

theorem e31 (rec : Rec) (k : Nat) (v0 : Value) (v1 : Value) (h : H) : bodyT Try.prog E0 SC (XC Try.prog rec k) 31 (Value × H) [.opq v0, .opq v1] h (fun v h => some (v, h)) = f31 rec k v0 v1 h := by kernel_rfl

noncomputable def f32 (rec : Rec) (_k : Nat) (v0 : Value) (h0 : H) : Option (Value × H) :=
  calls rec h0 34 [v0, v0] fun v1 h1 =>
  asI .i64 v1 fun n0 =>
  some ((.bool (lt n0 0)), h1)

theorem e32 (rec : Rec) (k : Nat) (v0 : Value) (h : H) : bodyT Try.prog E0 SC (XC Try.prog rec k) 32 (Value × H) [.opq v0] h (fun v h => some (v, h)) = f32 rec k v0 h := by kernel_rfl

noncomputable def f55_l1 (rec : Rec) (_k : Nat) (h0 : H) (h2 : H) (ws0 : List Value) (h4 : H) : Option (Ex × List Value × H) :=
  lok Try.prog h4 105 (.map (some (nx h2))) (gv ws0 2) true fun v7 =>
  ext v7 0 fun v8 =>
  asI .i64 v8 fun n2 =>
  ext v7 1 fun v9 =>
  asB v9 fun q0 =>
  ifB q0 (
    sli Try.prog h4 22 (gv ws0 1) (some (.int .i64 n2)) none none fun v10 =>
    out .ret [v10, gv ws0 1, gv ws0 2] h4) (
    len (gv ws0 1) fun n3 =>
    mup Try.prog h4 105 (.map (some (nx h2))) (gv ws0 2) (.int .i64 n3) fun h5 =>
    ld Try.prog h5 70 (nx h0) 0 fun v11 =>
    nil v11 (
      asP v11 fun b6 b7 =>
      ld Try.prog h5 60 b6 (off b7 1) fun v12 =>
      asK (gv ws0 2) fun n4 =>
      six v12 n4 1 fun b8 b9 =>
      ld Try.prog h5 22 b8 b9 fun v13 =>
      calls rec h5 60 [v13, (.func (.func 91) #[] #[(pt (nx h0) 0)])] fun v14 h6 =>
      asI .i64 v14 fun n5 =>
      bls Try.prog h6 22 1 [(0, (.int .i64 n5))] fun v15 h7 =>
      app Try.prog h7 22 22 (gv ws0 1) v15 fun v16 h8 =>
      ld Try.prog h8 70 (nx h0) 0 fun v17 =>
      nil v17 (
        asP v17 fun b10 b11 =>
        ld Try.prog h8 60 b10 (off b11 1) fun v18 =>
        asK (gv ws0 2) fun n6 =>
        six v18 n6 1 fun b12 b13 =>
        ld Try.prog h8 22 b12 b13 fun v19 =>
        six v19 n5 1 fun b14 b15 =>
        ld Try.prog h8 3 b14 b15 fun v20 =>
        asI .i64 v20 fun n7 =>
        out .normal [gv ws0 0, v16, (.int .i64 n7)] h8)))

noncomputable def f55 (rec : Rec) (k : Nat) (v0 : Value) (h0 : H) : Option (Value × H) :=
  bx h0 70 v0 fun h1 =>
  ld Try.prog h1 70 (nx h0) 0 fun v1 =>
  nil v1 (
    asP v1 fun b0 b1 =>
    ld Try.prog h1 69 b0 b1 fun v2 =>
    calls rec h1 59 [v2] fun v3 h2 =>
    asI .i64 v3 fun n0 =>
    ld Try.prog h2 70 (nx h0) 0 fun v4 =>
    nil v4 (
      asP v4 fun b2 b3 =>
      ld Try.prog h2 22 b2 (off b3 2) fun v5 =>
      six v5 n0 1 fun b4 b5 =>
      ld Try.prog h2 3 b4 b5 fun v6 =>
      asI .i64 v6 fun n1 =>
      ifB (le 0 n1) (
        some ((.slice none 0 0), h2)) (
        mkm h2 fun h3 =>
        lp k (f55_l1 rec k h0 h2) [(.slice none 0 0), (.slice none 0 0), (.int .i64 n0)] h3 fun e0 ws1 h9 =>
        onR e0 (
          some (gv ws1 0, h9)))))

theorem e55 (rec : Rec) (k : Nat) (v0 : Value) (h : H) : bodyT Try.prog E0 SC (XC Try.prog rec k) 55 (Value × H) [.opq v0] h (fun v h => some (v, h)) = f55 rec k v0 h := by kernel_rfl

noncomputable def f60_l1 (rec : Rec) (_k : Nat) (v0 : Value) (v1 : Value) (n0 : Int) (ws0 : List Value) (h1 : H) : Option (Ex × List Value × H) :=
  asI .i64 (gv ws0 1) fun n1 =>
  ifB (lt n1 n0) (
    asK (gv ws0 1) fun n2 =>
    six v0 n2 1 fun b0 b1 =>
    ld Try.prog h1 3 b0 b1 fun v2 =>
    asI .i64 v2 fun n3 =>
    callsV rec h1 v1 [(.int .i64 n3)] fun v3 h2 =>
    asB v3 fun q0 =>
    ifB q0 (
      out .ret [gv ws0 1, gv ws0 1] h2) (
      asI .i64 (gv ws0 1) fun n4 =>
      out .normal [gv ws0 0, (.int .i64 (add .i64 n4 1))] h2)) (
    out (.exit 0) [gv ws0 0, gv ws0 1] h1)

noncomputable def f60 (rec : Rec) (k : Nat) (v0 : Value) (v1 : Value) (h0 : H) : Option (Value × H) :=
  len v0 fun n0 =>
  lp k (f60_l1 rec k v0 v1 n0) [(.int .i64 0), (.int .i64 0)] h0 fun e0 ws1 h3 =>
  onE e0 0 (
    some ((.int .i64 (-1)), h3)) (
    onR e0 (
      some (gv ws1 0, h3)))

theorem e60 (rec : Rec) (k : Nat) (v0 : Value) (v1 : Value) (h : H) : bodyT Try.prog E0 SC (XC Try.prog rec k) 60 (Value × H) [.opq v0, .opq v1] h (fun v h => some (v, h)) = f60 rec k v0 v1 h := by kernel_rfl

noncomputable def f69_l1 (_rec : Rec) (_k : Nat) (v0 : Value) (n0 : Int) (n1 : Int) (ws0 : List Value) (h1 : H) : Option (Ex × List Value × H) :=
  asI .i64 (gv ws0 2) fun n2 =>
  ifB (lt n2 (mul .i64 2 n1)) (
    len v0 fun n3 =>
    asI .i64 (gv ws0 2) fun n4 =>
    nz n3 (
      six v0 (rem .i64 n4 n3) 1 fun b0 b1 =>
      ld Try.prog h1 3 b0 b1 fun v1 =>
      asI .i64 v1 fun n5 =>
      ifB (eq n5 n0) (
        asI .i64 (gv ws0 1) fun n6 =>
        ifB (le 0 n6) (
          asI .i64 (gv ws0 2) fun n7 =>
          asI .i64 (gv ws0 1) fun n8 =>
          asI .i64 (gv ws0 0) fun n9 =>
          asI .i64 (gv ws0 2) fun n10 =>
          out .normal [(.int .i64 (imax n9 (sub .i64 n7 n8))), gv ws0 2, (.int .i64 (add .i64 n10 1))] h1) (
          asI .i64 (gv ws0 2) fun n11 =>
          out .normal [gv ws0 0, gv ws0 2, (.int .i64 (add .i64 n11 1))] h1)) (
        asI .i64 (gv ws0 2) fun n12 =>
        out .normal [gv ws0 0, gv ws0 1, (.int .i64 (add .i64 n12 1))] h1))) (
    out (.exit 0) [gv ws0 0, gv ws0 1, gv ws0 2] h1)

noncomputable def f69 (rec : Rec) (k : Nat) (v0 : Value) (n0 : Int) (h0 : H) : Option (Value × H) :=
  len v0 fun n1 =>
  lp k (f69_l1 rec k v0 n0 n1) [(.int .i64 0), (.int .i64 (-1)), (.int .i64 0)] h0 fun e0 ws1 h2 =>
  onE e0 0 (
    some (gv ws1 0, h2)) (
    none)

theorem e69 (rec : Rec) (k : Nat) (v0 : Value) (n0 : Int) (h : H) : bodyT Try.prog E0 SC (XC Try.prog rec k) 69 (Value × H) [.opq v0, .int .i64 n0] h (fun v h => some (v, h)) = f69 rec k v0 n0 h := by kernel_rfl

noncomputable def f70_l2 (_rec : Rec) (_k : Nat) (v0 : Value) (n0 : Int) (n2 : Int) (ws1 : List Value) (h2 : H) : Option (Ex × List Value × H) :=
  asI .i64 (gv ws1 3) fun n3 =>
  ifB (lt n3 n2) (
    asK (gv ws1 3) fun n4 =>
    six v0 n4 1 fun b0 b1 =>
    ld Try.prog h2 3 b0 b1 fun v1 =>
    asI .i64 v1 fun n5 =>
    asI .i64 (gv ws1 0) fun n6 =>
    ifB (eq n5 n0) (
      asI .i64 (gv ws1 1) fun n7 =>
      asI .i64 (gv ws1 3) fun n8 =>
      out .normal [(.int .i64 0), (.int .i64 (imax n7 (add .i64 n6 1))), (.bool true), (.int .i64 (add .i64 n8 1))] h2) (
      asI .i64 (gv ws1 3) fun n9 =>
      out .normal [(.int .i64 (add .i64 n6 1)), gv ws1 1, gv ws1 2, (.int .i64 (add .i64 n9 1))] h2)) (
    out (.exit 2) [gv ws1 0, gv ws1 1, gv ws1 2, gv ws1 3] h2)

noncomputable def f70_l1 (rec : Rec) (k : Nat) (v0 : Value) (n0 : Int) (ws0 : List Value) (h1 : H) : Option (Ex × List Value × H) :=
  asI .i64 (gv ws0 3) fun n1 =>
  ifB (lt n1 2) (
    len v0 fun n2 =>
    lp k (f70_l2 rec k v0 n0 n2) [gv ws0 0, gv ws0 1, gv ws0 2, (.int .i64 0)] h1 fun e0 ws2 h3 =>
    onE e0 2 (
      asI .i64 (gv ws0 3) fun n10 =>
      out .normal [gv ws2 0, gv ws2 1, gv ws2 2, (.int .i64 (add .i64 n10 1))] h3) (
      none)) (
    out (.exit 0) [gv ws0 0, gv ws0 1, gv ws0 2, gv ws0 3] h1)

noncomputable def f70 (rec : Rec) (k : Nat) (v0 : Value) (n0 : Int) (h0 : H) : Option (Value × H) :=
  lp k (f70_l1 rec k v0 n0) [(.int .i64 0), (.int .i64 0), (.bool false), (.int .i64 0)] h0 fun e1 ws3 h4 =>
  onE e1 0 (
    asB (gv ws3 2) fun q0 =>
    ifB (not q0) (
      some ((.int .i64 1073741824), h4)) (
      some (gv ws3 1, h4))) (
    none)

theorem e70 (rec : Rec) (k : Nat) (v0 : Value) (n0 : Int) (h : H) : bodyT Try.prog E0 SC (XC Try.prog rec k) 70 (Value × H) [.opq v0, .int .i64 n0] h (fun v h => some (v, h)) = f70 rec k v0 n0 h := by kernel_rfl

noncomputable def f91 (_rec : Rec) (_k : Nat) (n0 : Int) (v0 : Value) (h0 : H) : Option (Value × H) :=
  ifB (not (eq n0 (-1))) (
    asP v0 fun b0 b1 =>
    ld Try.prog h0 70 b0 b1 fun v1 =>
    nil v1 (
      asP v1 fun b2 b3 =>
      ld Try.prog h0 22 b2 (off b3 2) fun v2 =>
      six v2 n0 1 fun b4 b5 =>
      ld Try.prog h0 3 b4 b5 fun v3 =>
      asI .i64 v3 fun n1 =>
      some ((.bool (lt n1 0)), h0))) (
    some ((.bool false), h0))

theorem e91 (rec : Rec) (k : Nat) (n0 : Int) (v0 : Value) (h : H) : bodyT Try.prog E0 SC (XC Try.prog rec k) 91 (Value × H) [.int .i64 n0, .opq v0] h (fun v h => some (v, h)) = f91 rec k n0 v0 h := by kernel_rfl

end Go.AM

end

section

/- Lives: the longest of those that come; greater numbers live as long. -/
namespace Go.AM
open Go.Proofs Go.Lives
variable {R : Type}
attribute [local simp] nx_eq nx_new nx_set blk_new blk_set asI_int asK_int asB_bool asP_ptr al_eq bx_eq len_slice onE_exit onE_ret onR_ret Value.cells d3 d22 d31 d60 w60 w3 w22 cell_new cell_set rd_new rd_set off eq lt le ifB gv out eqF1 eqF2 eqF3 eqF4 eqF5 eqF6 eqF7 eqF8 ext20 ext21
/-! ### Copies that are owned -/
/-- An empty literal that is appended to: no row is written. -/
theorem app_lit_wr {P : Program} {h : H} {e t t' : TypeId} {s b : Nat} {y : Value} {ys : List (List Value)} (ht : okApp P t e s = true) (ht' : okApp P t' e s = true) (hy : SlR h e s y ys) (hm : ys.length < 2 ^ 30) :
    AM.app P h t t' (.slice (some ⟨b, 0, none⟩) 0 0) y (fun _ g => some g.wr) = some h.wr := by
  obtain ⟨i, z, h1, h2, h3, h4, h5, h6, h7⟩ := okApp_spec ht
  obtain ⟨_, _, h1', _⟩ := okApp_spec ht'
  have hsrc := hy.srcAll h6
  have hlen := hy.lenOf
  have h30 : (2:Nat) ^ 30 < U := by decide
  have hc0 : capK 0 = 0 := rfl
  unfold AM.app append
  simp only [h1, h1', h2, h3, hlen, h4, hsrc, Option.bind_some, hc0]
  rw [if_pos ⟨h5, h6, h7⟩]
  by_cases h0 : ys.length = 0
  · rw [if_pos h0]; rfl
  · rw [if_neg h0, if_neg (by omega), if_pos (by omega), if_pos (by omega)]
    rfl

theorem s56W {v : Value} {l : List (List Value)} {h : H} (hs : SlR h 3 1 v l) (hsc : l.flatten.all scal = true) (hm : l.length < 2 ^ 30) : ∃ v' h', rn 56 #[v] h = some (v', h') ∧ Ext h h' ∧ AqR h.nx h' 3 1 v' l ∧ h'.wr = h.wr := by
  have hs0 := hs
  have key : ∃ v' h', f56 rn 0 v h = some (v', h') ∧ Ext h h' ∧ AqR h.nx h' 3 1 v' l ∧ h'.wr = h.wr := by
    cases hs with
    | nil =>
      refine ⟨.slice none 0 0, h, ?_, .refl _, .nil, rfl⟩
      unfold f56 eqv
      rw [nil22]
      rfl
    | @at_ b o c cs own l hb hr hk hc hl hx =>
      unfold f56 eqv
      rw [some22]
      simp only []
      rw [show ifB false = fun (x y : Option (Value × H)) => y from rfl]
      simp only []
      rw [bls_some (bls22e h)]
      have x1 := Ext.new h (.row [] 3 true)
      have a0 : AqR h.nx (h.new (.row ([] : List (List Value)).flatten 3 true)) 3 1 (.slice (some ⟨h.nx, 0, none⟩) 0 0) [] := AqR.lit (Nat.le_refl _) rfl (by simp) (by simp)
      obtain ⟨v', h', e, aq, hn, hf, hb'⟩ := a0.app app22 app22 (hs0.ext x1) hsc (by simpa using hm) (Nat.le_succ _)
      have hw := app_lit_wr (P := Try.prog) (b := h.nx) app22 app22 (hs0.ext x1) hm
      have he := e (R := Nat) fun _ g => some g.wr
      have hw2 := he.symm.trans hw
      refine ⟨v', h', e _, ⟨Nat.le_trans x1.nx hn, fun b hb => ?_⟩, by simpa using aq, Option.some.inj hw2⟩
      rw [hf b (Nat.lt_of_lt_of_le hb x1.nx) (fun e => by cases e; exact absurd hb (Nat.lt_irrefl _))]
      exact x1.blk b hb
  obtain ⟨v', h', e, x, aq, hw⟩ := key
  exact ⟨v', h', x56 e aq.slR.notR, x, aq, hw⟩

theorem s18W {v : Value} {l : List Int} {h : H} (hs : SlR h 3 1 v (cellsI l)) : ∃ v' h', rn 18 #[v] h = some (v', h') ∧ Ext h h' ∧ AqR h.nx h' 3 1 v' (cellsI (l.take 14)) ∧ h'.wr = h.wr := by
  have e1 : imin ((cellsI l).length : Int) 14 = ((min l.length 14 : Nat) : Int) := by
    rw [List.length_map]
    unfold imin
    split <;> omega
  obtain ⟨v1, s1, e2⟩ := hs.take (i := ((min l.length 14 : Nat) : Int)) under22 sz3 (by omega) (by rw [List.length_map]; omega)
  have e3 : (cellsI l).take ((min l.length 14 : Nat) : Int).toNat = cellsI (l.take 14) := by
    rw [Int.toNat_natCast, ← List.map_take]
    congr 1
    rcases Nat.le_total l.length 14 with h1 | h1
    · rw [Nat.min_eq_left h1, List.take_of_length_le (Nat.le_refl _), List.take_of_length_le h1]
    · rw [Nat.min_eq_right h1]
  rw [e3] at s1
  obtain ⟨v', h', e4, x, s, hw⟩ := s56W s1 (by rw [List.all_eq_true]; intro x hx; obtain ⟨l', hl', hx'⟩ := List.mem_flatten.1 hx; obtain ⟨z, _, rfl⟩ := List.mem_map.1 hl'; simp at hx'; subst hx'; rfl) (by rw [List.length_map, List.length_take]; omega)
  refine ⟨_, h', x18 (k := 0) ?_ s.slR.notR, x, s, hw⟩
  unfold f18
  rw [hs.len, e1, e2, calls_eq e4]

theorem s18A {v : Value} {l : List Int} {h : H} (hs : SlR h 3 1 v (cellsI l)) : ∃ v' h', rn 18 #[v] h = some (v', h') ∧ Ext h h' ∧ AqR h.nx h' 3 1 v' (cellsI (l.take 14)) := by
  obtain ⟨v', h', e, x, a, _⟩ := s18W hs
  exact ⟨v', h', e, x, a⟩

/-! ### Greater numbers live as long -/
/-! ### The longest of those that come -/
end Go.AM
namespace Go.Lives
end Go.Lives
namespace Go.AM
open Go.Proofs Go.Lives
variable {R : Type}
attribute [local simp] nx_eq nx_new nx_set blk_new blk_set asI_int asK_int asB_bool asP_ptr al_eq bx_eq len_slice onE_exit onE_ret onR_ret Value.cells d3 d22 d31 d60 w60 w3 w22 cell_new cell_set rd_new rd_set off eq lt le ifB gv out eqF1 eqF2 eqF3 eqF4 eqF5 eqF6 eqF7 eqF8 ext20 ext21
end Go.AM

end

section

/- RoundsTimes. -/
namespace Go.AM
open Go.Proofs
variable {R : Type}
attribute [local simp] nx_eq nx_new nx_set blk_new blk_set asI_int asK_int asB_bool asP_ptr al_eq bx_eq len_slice onE_exit onE_ret onR_ret Value.cells d3 d45 d47 d50 d52 d67 cell_new cell_set rd_new rd_set off eq lt le ifB gv out ext20 ext21
set_option maxHeartbeats 8000000 in
theorem s16 {h : H} {p e z : Int} {sl tv cv : Value} {l : List Sp} {t c : List Int} (hs : SlR h 89 4 sl (l.map Sp.cells)) (ht : SlR h 3 1 tv (cellsI t)) (hc : SlR h 3 1 cv (cellsI c)) :
    ∃ h', rn 16 #[.agg #[iv p, iv e, sl], tv, iv z, cv] h = some (.bool true, h') := by
  have x1 := Ext.new h (.row [iv p, iv e, sl] 47 true)
  have hb1 : (h.new (.row [iv p, iv e, sl] 47 true)).blk h.nx = some (.row [iv p, iv e, sl] 47 true) := blk_new_self _ _
  have hn1 : h.nx < (h.new (.row [iv p, iv e, sl] 47 true)).nx := Nat.lt_succ_self _
  have kbx : ∀ (K : H → Option (Value × H)), bx h 47 (.agg #[iv p, iv e, sl]) K = K (h.new (.row [iv p, iv e, sl] 47 true)) := fun K => rfl
  have hs1 := hs.ext x1
  have ht1 := ht.ext x1
  have hc1 := hc.ext x1
  generalize h.new (.row [iv p, iv e, sl] 47 true) = h1 at *
  have kld : ∀ (g : H), Ext h1 g → ∀ (K : Value → Option (Value × H)), ld Try.prog g 47 h.nx 0 K = K (.agg #[iv p, iv e, sl]) := fun g x K => by
    rw [d47, show g.rd h.nx 0 3 = some [iv p, iv e, sl] from rd_all ((x.blk _ hn1).trans hb1) rfl]; rfl
  have k45 : ∀ (g : H), Ext h1 g → ∀ (K : Value → Option (Value × H)), ld Try.prog g 45 h.nx (AM.off 0 2) K = K sl := fun g x K => by
    rw [d45, show AM.off 0 2 = 2 from rfl, cell_of ((x.blk _ hn1).trans hb1)]; rfl
  obtain ⟨sl2, h2, e37, x2, hs2⟩ := s37 (p := p) (e := e) hs1
  obtain ⟨v6, h3, cd, e47, x3, hres⟩ := s47 (p := p) (e := e) hs2
  have x13 := x2.trans x3
  obtain ⟨sl4, h4, e37b, x4, hs4⟩ := s37 (p := p) (e := e) (hs1.ext x13)
  have x14 := x13.trans x4
  have e51 := s51 (p := p) (e := e) hs4
  obtain ⟨sl6, h6, e37c, x6, hs6⟩ := s37 (p := p) (e := e) (hs1.ext x14)
  have x16 := x14.trans x6
  obtain ⟨tv7, h7, e18, x7, ht7⟩ := s18 (ht1.ext x16)
  have x17 := x16.trans x7
  have e48 := s48 (p := p) (e := e) (hs6.ext x7) ht7 (by simp; omega)
  rw [tabOk_take] at e48 e51
  have c19 := fun (g : H) (K : Value → H → Option (Value × H)) => calls_eq (K := K) (xs := []) (s19 g)
  have pre : ∀ (q0 : Bool) (n2 n3 n4 : Int), rn 51 #[.agg #[iv p, iv e, sl4]] h4 = some (.tuple #[iv n2, iv n3], h4) → rn 48 #[.agg #[iv p, iv e, sl6], tv7] h7 = some (.tuple #[.bool q0, iv n4], h7) → True := fun _ _ _ _ _ _ => trivial
  by_cases hv : tabOk p e l = true
  · obtain ⟨hp1, hp12⟩ := tab_p hv
    have hl12 : l.length ≤ 12 := by simp [tabOk] at hv; omega
    have htk : l.take 14 = l := List.take_of_length_le (by omega)
    have he6 : 1 ≤ e ∧ e ≤ 6 := by simp only [tabOk, Bool.and_eq_true, decide_eq_true_iff] at hv; omega
    rw [htk] at e48 e51 hres
    rw [if_pos hv, right_take hv] at e48
    rw [if_pos hv] at e51
    have hln : ∀ {T : Type} (K : Int → Option T), len sl K = K (l.length : Int) := fun K => by rw [hs.len]; simp
    -- the program's answer about a cycle
    have turns : ∀ g, Ext h1 g → ∃ sl8 cv9 g2 g3 n5 n6 n7, rn 37 #[.agg #[iv p, iv e, sl]] g = some (.agg #[iv p, iv e, sl8], g2) ∧ rn 18 #[cv] g2 = some (cv9, g3) ∧ rn 36 #[.agg #[iv p, iv e, sl8], cv9] g3 = some (.tuple #[iv n5, iv n6, iv n7], g3) ∧ Ext g g3 ∧ (tableP p e l ≠ none → n7 ≠ 4) := fun g xg => by
      obtain ⟨sl8, g2, a1, x8, hs8⟩ := s37 (p := p) (e := e) (hs1.ext xg)
      obtain ⟨cv9, g3, a2, x9, hc9⟩ := s18 (hc1.ext (xg.trans x8))
      have a3 := s36 (p := p) (e := e) (hs8.ext x9) hc9
      rw [htk] at a3
      by_cases hcy : cycP l (c.take 14) = true
      · rw [if_pos ⟨hv, hcy⟩] at a3
        refine ⟨sl8, cv9, g2, g3, _, _, _, a1, a2, a3, x8.trans x9, fun hne => ?_⟩
        cases htb : tableP p e l with
        | none => exact absurd htb hne
        | some r =>
          rw [cycle_turns hv ((right_iff hv).1 (table_right hv htb)).2 hcy]
          decide
      · rw [if_neg (fun hh => hcy hh.2)] at a3
        exact ⟨sl8, cv9, g2, g3, _, _, _, a1, a2, a3, x8.trans x9, fun _ => by decide⟩
    rcases hres with ⟨hno, _⟩ | ⟨_, hno, rfl, rfl⟩ | ⟨_, rfl, r, hyes, hrl, hsr⟩
    · rw [hv] at hno; cases hno
    · -- no timetable
      obtain ⟨s, hbl⟩ : ∃ s, blameP p e l = some s := Option.ne_none_iff_exists'.1 ((table_blame hv).1 hno)
      rw [hbl] at e51
      have hq0 : rightP p e l t = false := Bool.eq_false_iff.2 fun h => right_table hv h hno
      rw [hq0] at e48
      obtain ⟨b1, b2, _⟩ := (blame_spec hv).1 s hbl
      have hs0 : s ≠ 0 := by rintro rfl; exact feas_zero hv b2
      have hpow : 2 ^ l.length ≤ 4096 := Nat.pow_le_pow_right (n := 2) (by omega) hl12
      obtain ⟨lv, h8, e18b, x8, _⟩ := s18 (ht1.ext x17)
      have x18 := x17.trans x8
      obtain ⟨sl8, cv9, g2, g3, n5, n6, n7, a1, a2, a3, xg, _⟩ := turns h8 x18
      have x19 := x18.trans xg
      obtain ⟨w, g4, el, xl⟩ := s16_l47 (K := 100) (h0 := h) hv hbl (hs1.ext x19) ((x19.blk _ hn1).trans hb1) (by have := x19.nx; omega) (by omega)
      refine ⟨_, t16 (k := 100) (v := .bool true) (h1 := g4) ?_⟩
      unfold f16
      rw [kbx, nx_eq, kld h1 (.refl _), calls_eq (xs := [.agg #[iv p, iv e, sl]]) e37, calls_eq (xs := [.agg #[iv p, iv e, sl2]]) e47, ext20, ext21, asI_int, kld h3 x13, calls_eq (xs := [.agg #[iv p, iv e, sl]]) e37b, calls_eq (xs := [.agg #[iv p, iv e, sl4]]) e51, ext20, asI_int, ext21, asI_int,
        kld h4 x14, calls_eq (xs := [.agg #[iv p, iv e, sl]]) e37c, calls_eq (xs := [tv]) e18, calls_eq (xs := [.agg #[iv p, iv e, sl6], tv7]) e48, ext20, asB_bool, ext21, asI_int, show AM.eq (0 : Int) 0 = true from rfl, show (!true) = false from rfl, ifB_false, keqv4t, show AM.eq (4 : Int) 0 = false from rfl, show AM.eq (0 : Int) 4 = false from rfl,
        show (!(false == false)) = false from rfl, ifB_false, show (!false) = true from rfl, ifB_true, show AM.eq (4 : Int) 4 = true from rfl, show (!true) = false from rfl, ifB_false, ifB_false, ifB_false, calls_eq (xs := [tv]) e18b, ifB_false, kld h8 x18, calls_eq (xs := [.agg #[iv p, iv e, sl]]) a1, calls_eq (xs := [cv]) a2, calls_eq (xs := [.agg #[iv p, iv e, sl8], cv9]) a3]
      rw [show ∀ (K : Value → Option (Value × H)), ext (.tuple #[iv n5, iv n6, iv n7]) 0 K = K (iv n5) from fun _ => rfl, asI_int, show ∀ (K : Value → Option (Value × H)), ext (.tuple #[iv n5, iv n6, iv n7]) 1 K = K (iv n6) from fun _ => rfl, asI_int, show ∀ (K : Value → Option (Value × H)), ext (.tuple #[iv n5, iv n6, iv n7]) 2 K = K (iv n7) from fun _ => rfl, asI_int]
      have hlt1 : AM.lt (s : Int) 1 = false := lt_f (by omega)
      have hle1 : AM.le (AM.shl .i64 1 (l.length : Int)) (s : Int) = false := by rw [shl1_nat (by omega)]; exact decide_eq_false (by omega)
      by_cases h4 : n7 = 4
      · rw [h4, show AM.eq (4 : Int) 4 = true from rfl, ifB_true, ifB_false, ifB_false, hlt1, ifB_false, k45 g3 x19, hln, nn_ge (show (0 : Int) ≤ (l.length : Int) by omega), hle1, ifB_false, lp_eq el, onE_exit, if_pos rfl, c19, asB_bool]
      · rw [show AM.eq n7 4 = false by simp [AM.eq, h4], ifB_false, ifB_false, hlt1, ifB_false, k45 g3 x19, hln, nn_ge (show (0 : Int) ≤ (l.length : Int) by omega), hle1, ifB_false, l50_eq, lp_eq el, onE_exit, if_pos rfl, c19, asB_bool]
    · -- a timetable
      have hbl : blameP p e l = none := Classical.byContradiction fun hh => by rw [(table_blame hv).2 hh] at hyes; cases hyes
      rw [hbl] at e51
      have hne : tableP p e l ≠ none := by rw [hyes]; simp
      have hright := table_right hv hyes
      cases hq0 : rightP p e l t with
      | false =>
        rw [hq0] at e48
        obtain ⟨lv, h8, e18b, x8, _⟩ := s18 (ht1.ext x17)
        have x18 := x17.trans x8
        obtain ⟨sl8, cv9, g2, g3, n5, n6, n7, a1, a2, a3, xg, hn7⟩ := turns h8 x18
        have x19 := x18.trans xg
        obtain ⟨sl10, g4, e37d, x10, hs10⟩ := s37 (p := p) (e := e) (hs1.ext x19)
        rw [htk] at hs10
        have x38 : Ext h3 g4 := (((((x4.trans x6).trans x7).trans x8).trans xg).trans x10)
        have e48b := s48 (p := p) (e := e) hs10 (hsr.ext x38) (by rw [hrl]; omega)
        rw [if_pos hv, hright] at e48b
        refine ⟨_, t16 (k := 100) (v := .bool true) (h1 := g4) ?_⟩
        unfold f16
        rw [kbx, nx_eq, kld h1 (.refl _), calls_eq (xs := [.agg #[iv p, iv e, sl]]) e37, calls_eq (xs := [.agg #[iv p, iv e, sl2]]) e47, ext20, ext21, asI_int, kld h3 x13, calls_eq (xs := [.agg #[iv p, iv e, sl]]) e37b, calls_eq (xs := [.agg #[iv p, iv e, sl4]]) e51, ext20, asI_int, ext21, asI_int,
          kld h4 x14, calls_eq (xs := [.agg #[iv p, iv e, sl]]) e37c, calls_eq (xs := [tv]) e18, calls_eq (xs := [.agg #[iv p, iv e, sl6], tv7]) e48, ext20, asB_bool, ext21, asI_int, show AM.eq (0 : Int) 0 = true from rfl, show (!true) = false from rfl, ifB_false, keqv4t, show AM.eq (4 : Int) 4 = true from rfl, show AM.eq (4 : Int) 0 = false from rfl,
          show (!(true == true)) = false from rfl, ifB_false, ifB_false, show (!false) = true from rfl, ifB_true, show (!true) = false from rfl, ifB_false, ifB_false, calls_eq (xs := [tv]) e18b, ifB_false, kld h8 x18, calls_eq (xs := [.agg #[iv p, iv e, sl]]) a1, calls_eq (xs := [cv]) a2, calls_eq (xs := [.agg #[iv p, iv e, sl8], cv9]) a3]
        rw [show ∀ (K : Value → Option (Value × H)), ext (.tuple #[iv n5, iv n6, iv n7]) 0 K = K (iv n5) from fun _ => rfl, asI_int, show ∀ (K : Value → Option (Value × H)), ext (.tuple #[iv n5, iv n6, iv n7]) 1 K = K (iv n6) from fun _ => rfl, asI_int, show ∀ (K : Value → Option (Value × H)), ext (.tuple #[iv n5, iv n6, iv n7]) 2 K = K (iv n7) from fun _ => rfl, asI_int]
        rw [show AM.eq n7 4 = false by simp [AM.eq, hn7 hne], ifB_false, ifB_true, kld g3 x19, calls_eq (xs := [.agg #[iv p, iv e, sl]]) e37d, calls_eq (xs := [.agg #[iv p, iv e, sl10], v6]) e48b, ext20, asB_bool, ext21, asI_int, ifB_true, show AM.eq (0 : Int) 0 = true from rfl, ifB_true, c19, asB_bool]
      | true =>
        rw [hq0] at e48
        have hgt := (right_iff hv).1 hq0
        have htl : t.length ≤ 6 := by omega
        have htk2 : t.take 14 = t := List.take_of_length_le (by omega)
        have htne : t ≠ [] := by rintro rfl; simp at hgt; omega
        obtain ⟨lv, h8, e18b, x8, a8⟩ := s18A (ht1.ext x17)
        rw [htk2] at a8
        obtain ⟨b, hb, _, ia⟩ := a8.ia htne
        have x18 := x17.trans x8
        have hn8 := x18.nx
        have hn17 := x17.nx
        obtain ⟨d, w, h9, el, ia9, n9, fr9⟩ := s16_l53 (p := p) (e := e) (n0 := z) (sl := sl) (K := 100) (h0 := h) ⟨hp1, hp12⟩ (by omega) hgt.2.1 ia ((x18.blk _ hn1).trans hb1) (by omega) (by omega) (by omega)
        have x9 : Ext h7 h9 := ⟨by have := x8.nx; omega, fun k hk => by
          rw [fr9 k (by have := x8.nx; omega) (by omega)]
          exact x8.blk k hk⟩
        have x19 := x17.trans x9
        have hnl : ∀ {T : Type} (K : Int → Option T), len lv K = K (t.length : Int) := fun K => by rw [a8.slR.len, List.length_map]
        obtain ⟨sl8, g1, e37e, x10, hs8⟩ := s37 (p := p) (e := e) (hs1.ext x19)
        rw [htk] at hs8
        have x110 := x19.trans x10
        have e48c := s48 (p := p) (e := e) hs8 (ia9.slR.ext x10) (by rw [List.length_map]; omega)
        rw [if_pos hv, right_shift hv hq0] at e48c
        obtain ⟨sl9, cv9, g2, g3, n5, n6, n7, a1, a2, a3, xg, hn7⟩ := turns g1 x110
        have x111 := x110.trans xg
        obtain ⟨sl10, g4, e37d, x12, hs10⟩ := s37 (p := p) (e := e) (hs1.ext x111)
        rw [htk] at hs10
        have x38 : Ext h3 g4 := (((((x4.trans x6).trans x7).trans x9).trans x10).trans xg).trans x12
        have e48b := s48 (p := p) (e := e) hs10 (hsr.ext x38) (by rw [hrl]; omega)
        rw [if_pos hv, hright] at e48b
        refine ⟨_, t16 (k := 100) (v := .bool true) (h1 := g4) ?_⟩
        unfold f16
        rw [kbx, nx_eq, kld h1 (.refl _), calls_eq (xs := [.agg #[iv p, iv e, sl]]) e37, calls_eq (xs := [.agg #[iv p, iv e, sl2]]) e47, ext20, ext21, asI_int, kld h3 x13, calls_eq (xs := [.agg #[iv p, iv e, sl]]) e37b, calls_eq (xs := [.agg #[iv p, iv e, sl4]]) e51, ext20, asI_int, ext21, asI_int,
          kld h4 x14, calls_eq (xs := [.agg #[iv p, iv e, sl]]) e37c, calls_eq (xs := [tv]) e18, calls_eq (xs := [.agg #[iv p, iv e, sl6], tv7]) e48, ext20, asB_bool, ext21, asI_int, show AM.eq (0 : Int) 0 = true from rfl, show (!true) = false from rfl, ifB_false, keqv4t, show AM.eq (4 : Int) 4 = true from rfl, show AM.eq (4 : Int) 0 = false from rfl,
          show (!(true == true)) = false from rfl, ifB_false, ifB_false, show (!false) = true from rfl, ifB_true, show (!true) = false from rfl, ifB_false, ifB_true, ifB_false, calls_eq (xs := [tv]) e18b, ifB_true, hnl, lp_eq el, onE_exit, if_pos rfl, kld h9 x19, calls_eq (xs := [.agg #[iv p, iv e, sl]]) e37e, calls_eq (xs := [.agg #[iv p, iv e, sl8], lv]) e48c, ext20, asB_bool, ext21, asI_int,
          show (!true) = false from rfl, ifB_false, show AM.eq (0 : Int) 0 = true from rfl, show (!true) = false from rfl, ifB_false, kld g1 x110, calls_eq (xs := [.agg #[iv p, iv e, sl]]) a1, calls_eq (xs := [cv]) a2, calls_eq (xs := [.agg #[iv p, iv e, sl9], cv9]) a3]
        rw [show ∀ (K : Value → Option (Value × H)), ext (.tuple #[iv n5, iv n6, iv n7]) 0 K = K (iv n5) from fun _ => rfl, asI_int, show ∀ (K : Value → Option (Value × H)), ext (.tuple #[iv n5, iv n6, iv n7]) 1 K = K (iv n6) from fun _ => rfl, asI_int, show ∀ (K : Value → Option (Value × H)), ext (.tuple #[iv n5, iv n6, iv n7]) 2 K = K (iv n7) from fun _ => rfl, asI_int]
        rw [show AM.eq n7 4 = false by simp [AM.eq, hn7 hne], ifB_false, ifB_true, kld g3 x111, calls_eq (xs := [.agg #[iv p, iv e, sl]]) e37d, calls_eq (xs := [.agg #[iv p, iv e, sl10], v6]) e48b, ext20, asB_bool, ext21, asI_int, ifB_true, show AM.eq (0 : Int) 0 = true from rfl, ifB_true, c19, asB_bool]
  · have hv' : tabOk p e l = false := by simpa using hv
    have hv2 : tabOk p e (l.take 14) = false := by rw [tabOk_take]; exact hv'
    rw [if_neg hv] at e48 e51
    rcases hres with ⟨_, rfl, rfl⟩ | ⟨h9, _⟩ | ⟨h9, _⟩
    · refine ⟨_, t16 (k := 0) (v := .bool true) (h1 := h7) ?_⟩
      unfold f16
      rw [kbx, nx_eq, kld h1 (.refl _), calls_eq (xs := [.agg #[iv p, iv e, sl]]) e37, calls_eq (xs := [.agg #[iv p, iv e, sl2]]) e47, ext20, ext21, asI_int, kld h3 x13, calls_eq (xs := [.agg #[iv p, iv e, sl]]) e37b, calls_eq (xs := [.agg #[iv p, iv e, sl4]]) e51, ext20, asI_int, ext21, asI_int,
        kld h4 x14, calls_eq (xs := [.agg #[iv p, iv e, sl]]) e37c, calls_eq (xs := [tv]) e18, calls_eq (xs := [.agg #[iv p, iv e, sl6], tv7]) e48, ext20, asB_bool, ext21, asI_int, show (!(AM.eq (2 : Int) 0)) = true from rfl, ifB_true, show AM.eq (2 : Int) 2 = true from rfl, ifB_true, ifB_true, ifB_true, c19, asB_bool]
    · rw [hv2] at h9; cases h9
    · rw [hv2] at h9; cases h9

end Go.AM

end

section

/- Slices of numbers that a statement is handed, in the abstract heap. -/
namespace Go.AM
open Go.Proofs Go.ChangeShapes
variable {HH : Type} {enc : TypeId × Value → HH} {w : World} {base : Nat} {held : Bool}
theorem flat3 (n : Nat) (cs : List Value) (x : DataW HH × List MemPlace) (h : DataW.trod enc Try.prog w base (fun _ => true) held n 3 cs = some x) : ∃ z : Int, cs = [iv z] := by
  obtain ⟨z, h1, _⟩ := DataW.trod_int (show Try.prog.underlying 3 = some (.int .i64) from by kernel_rfl) h
  exact ⟨z, h1⟩

theorem cellsOf3 : Try.prog.cellsOf 3 = 1 := by kernel_rfl

theorem under3 : Try.prog.underlying 3 = some (.int .i64) := by kernel_rfl

theorem bytes3 : Try.prog.bytesOf 3 = 8 := by kernel_rfl

theorem ints_of : ∀ (l : List (List Value)), (∀ x ∈ l, ∃ z : Int, x = [iv z]) → ∃ l' : List Int, l = l'.map fun z => [iv z] := by
  intro l
  induction l with
  | nil => intro _; exact ⟨[], rfl⟩
  | cons x l ih =>
    intro h
    obtain ⟨c, hc⟩ := h x (by simp)
    obtain ⟨l', hl⟩ := ih (fun y hy => h y (List.mem_cons_of_mem _ hy))
    exact ⟨c :: l', by rw [hc, hl]; rfl⟩

set_option maxRecDepth 100000 in
/-- A slice of numbers that came in. -/
theorem open_nums {rr : Reach} {b0 : Nat} {v : Value} {d : DataW HH} {ps : List MemPlace} (hv : Value.okWide Try.prog w rr b0 22 v) (hwt : ∀ x ∈ d.weights Try.prog 22, x ≤ reachBytes)
    (hd : DataW.Trod enc Try.prog w base (fun _ => true) held 22 v d ps) {ι : Nat → Emb} {h : H} (r : Rel Try.prog E0 ι h w) (hro : ∀ b k, h.blk b = some k → k.own = false) :
    ∃ (v0 : Value) (ι' : Nat → Emb) (h' : H) (l : List Int), Rel Try.prog E0 ι' h' w ∧ (∀ b k, h'.blk b = some k → k.own = false) ∧ Ext h h' ∧ (∀ b, b < h.nx → ι' b = ι b) ∧
      VR ι' h'.nx v0 v ∧ SlR h' 3 1 v0 (l.map fun z => [iv z]) := by
  have hu : Try.prog.underlying 22 = some (.slice 3) := by kernel_rfl
  simp only [Value.okWide, hu] at hv
  have hy : ∃ a len cap, v = .slice a len cap := by
    simp only [Cell.okWide, hu] at hv
    cases v <;> simp_all [Cell.ok]
  obtain ⟨a, len, cap, rfl⟩ := hy
  obtain ⟨ι', h', v0, l, g1, g2, g3, g4, g5, g6, g7⟩ := open_flat r hro hu sz3 cellsOf3 (by decide) (Q := fun x => ∃ z : Int, x = [iv z]) flat3 (by
    rintro cs ⟨c, rfl⟩
    exact ⟨rfl, fun v hv => by simp at hv; subst hv; exact ⟨_, _, rfl⟩⟩) (by rw [bytes3]; exact Nat.succ_pos _) hwt (okWide_has hu hv) hd
  obtain ⟨l', rfl⟩ := ints_of l g7
  exact ⟨v0, ι', h', l', g1, g2, g3, g4, g5, g6⟩

end Go.AM

end

section

/- Tables that a statement is handed, in the abstract heap. -/
namespace Go.AM
open Go.Proofs Go.ChangeShapes
variable {HH : Type} {enc : TypeId × Value → HH} {w : World} {base : Nat} {held : Bool}
section
variable {P : Program}
/-- A struct of two whole numbers and a slice. -/
theorem open_num2slice {t ti ts e : TypeId} {fs : Array Field} {f0 f1 f2 : Field} {rr : Reach} {b0 : Nat} {v : Value} {d : DataW HH} {ps : List MemPlace} (hu : P.underlying t = some (.struct fs)) (hfs : fs = #[f0, f1, f2])
    (h0 : f0.type = ti ∧ f0.offset = 0) (h1 : f1.type = ti ∧ f1.offset = 1) (h2 : f2.type = ts ∧ f2.offset = 2) (hti : P.underlying ti = some (.int .i64)) (hts : P.underlying ts = some (.slice e)) (hc : P.cellsOf t = 3) (hci : P.cellsOf ti = 1) (hcs : P.cellsOf ts = 1)
    (hct : P.cellTypes P.depth t = some [ti, ti, ts]) (hv : Value.okWide P w rr b0 t v) (hwt : ∀ x ∈ d.weights P t, x ≤ reachBytes) (hd : DataW.Trod enc P w base (fun _ => true) held t v d ps) :
    ∃ (n m : Int) (a : Option Addr) (len cap : Nat) (d1 : DataW HH) (p1 : List MemPlace), v = .agg #[.int .i64 n, .int .i64 m, .slice a len cap] ∧ (∀ x ∈ d1.weights P ts, x ≤ reachBytes) ∧
      (∀ a', a = some a' → a'.spot = none ∧ a'.block < w.heap.size) ∧ DataW.Trod enc P w base (fun _ => true) held ts (.slice a len cap) d1 p1 := by
  simp only [Value.okWide, hu] at hv
  obtain ⟨cs, rfl, hsz, tys, htys, _, hrow⟩ := hv
  rw [hct] at htys
  cases htys
  rw [hc] at hsz
  have hxy : ∃ x y z, cs = #[x, y, z] := by
    obtain ⟨l⟩ := cs
    match l, hsz with
    | [x, y, z], _ => exact ⟨x, y, z, rfl⟩
  obtain ⟨x, y, z, rfl⟩ := hxy
  obtain ⟨u0, e0, c0⟩ := hrow 0 x rfl
  obtain ⟨u1, e1, c1⟩ := hrow 1 y rfl
  obtain ⟨u2, e2, c2⟩ := hrow 2 z rfl
  simp at e0 e1 e2
  subst e0; subst e1; subst e2
  have hx : ∃ n, x = .int .i64 n := by
    simp only [Cell.okWide, hti] at c0
    cases x <;> simp_all [Cell.ok]
  have hy : ∃ n, y = .int .i64 n := by
    simp only [Cell.okWide, hti] at c1
    cases y <;> simp_all [Cell.ok]
  have hz : ∃ a len cap, z = .slice a len cap := by
    simp only [Cell.okWide, hts] at c2
    cases z <;> simp_all [Cell.ok]
  obtain ⟨n, rfl⟩ := hx
  obtain ⟨m, rfl⟩ := hy
  obtain ⟨a, len, cap, rfl⟩ := hz
  obtain ⟨fuel, hf⟩ := hd
  obtain ⟨xs, fu, rfl, hx, _, hxl, each⟩ := DataW.trod_struct hu hf
  have a2 := each 2 f2 (by rw [hfs]; rfl)
  rw [h2.1, h2.2, hcs] at a2
  have hl3 : xs.length = 3 := by rw [hxl, hfs]; rfl
  rw [List.getElem?_eq_getElem (show 2 < xs.length by omega)] at a2
  have hdd : d = .agg (xs.map (·.1)) := congrArg Prod.fst hx
  refine ⟨n, m, a, len, cap, xs[2].1, xs[2].2, rfl, fun q hq => hwt q ?_, okWide_has hts c2, fu, a2⟩
  rw [hdd]
  simp only [DataW.weights, hu]
  refine DataW.weights_mem_each (j := 2) (t := ts) (d := xs[2].1) (by rw [hfs]; simp [h2.1]) ?_ q hq
  rw [List.getElem?_map, List.getElem?_eq_getElem (show 2 < xs.length by omega)]
  rfl

/-- The cells of a struct of four whole numbers. -/
theorem trod_four {e ti : TypeId} {fs : Array Field} (hu : P.underlying e = some (.struct fs)) (ht : fs.toList.map (fun f => (f.type, f.offset)) = [(ti, 0), (ti, 1), (ti, 2), (ti, 3)]) (hti : P.underlying ti = some (.int .i64))
    (hci : P.cellsOf ti = 1) (hce : P.cellsOf e = 4) {n : Nat} {cs : List Value} {x : DataW HH × List MemPlace} (h : DataW.trod enc P w base (fun _ => true) held n e cs = some x) : ∃ a b c d : Int, cs = [iv a, iv b, iv c, iv d] := by
  obtain ⟨xs, m, rfl, _, hl, hxs, each⟩ := DataW.trod_struct hu h
  rw [hce] at hl
  have hsz : fs.size = 4 := by
    have := congrArg List.length ht
    simpa using this
  have key : ∀ i, i < 4 → ∃ z : Int, (cs.drop i).take 1 = [iv z] := by
    intro i hi
    have hf : fs[i]? = some fs[i] := Array.getElem?_eq_getElem (by omega)
    have h1 := each i _ hf
    have h2 : (fs.toList.map (fun f => (f.type, f.offset)))[i]? = some (fs[i].type, fs[i].offset) := by
      rw [List.getElem?_map, Array.getElem?_toList, hf]; rfl
    rw [ht] at h2
    have h3 : fs[i].type = ti ∧ fs[i].offset = i := by
      rcases (by omega : i = 0 ∨ i = 1 ∨ i = 2 ∨ i = 3) with rfl | rfl | rfl | rfl <;> (simp at h2; exact ⟨h2.1.symm, h2.2.symm⟩)
    rw [h3.1, h3.2, hci, List.getElem?_eq_getElem (show i < xs.length by omega)] at h1
    obtain ⟨z, hz, _⟩ := DataW.trod_int hti h1
    exact ⟨z, hz⟩
  obtain ⟨a, ha⟩ := key 0 (by omega)
  obtain ⟨b, hb⟩ := key 1 (by omega)
  obtain ⟨c, hc⟩ := key 2 (by omega)
  obtain ⟨d, hd⟩ := key 3 (by omega)
  match cs, hl with
  | [x, y, z, u], _ =>
    simp at ha hb hc hd
    exact ⟨a, b, c, d, by simp [ha, hb, hc, hd]⟩

end
noncomputable def fields89 : Array Field := match Try.prog.underlying 89 with
  | some (.struct fs) => fs
  | _ => #[]

theorem under89 : Try.prog.underlying 89 = some (.struct fields89) := by kernel_rfl

theorem fields89_types : fields89.toList.map (fun f => (f.type, f.offset)) = [(3, 0), (3, 1), (3, 2), (3, 3)] := by kernel_rfl

theorem cellsOf89 : Try.prog.cellsOf 89 = 4 := by kernel_rfl

theorem flat89 (n : Nat) (cs : List Value) (x : DataW HH × List MemPlace) (h : DataW.trod enc Try.prog w base (fun _ => true) held n 89 cs = some x) : ∃ c : Sp, cs = c.cells := by
  obtain ⟨a, b, c, d, e⟩ := trod_four under89 fields89_types under3 cellsOf3 cellsOf89 h
  exact ⟨⟨a, b, c, d⟩, e⟩

theorem spans_of : ∀ (l : List (List Value)), (∀ x ∈ l, ∃ c : Sp, x = c.cells) → ∃ l' : List Sp, l = l'.map Sp.cells := by
  intro l
  induction l with
  | nil => intro _; exact ⟨[], rfl⟩
  | cons x l ih =>
    intro h
    obtain ⟨c, hc⟩ := h x (by simp)
    obtain ⟨l', hl⟩ := ih (fun y hy => h y (List.mem_cons_of_mem _ hy))
    exact ⟨c :: l', by rw [hc, hl]; rfl⟩

noncomputable def fields47 : Array Field := match Try.prog.underlying 47 with
  | some (.struct fs) => fs
  | _ => #[]

noncomputable def field47 (i : Nat) : Field := fields47[i]!

theorem under47s : Try.prog.underlying 47 = some (.struct fields47) := by kernel_rfl

theorem fields47_eq : fields47 = #[field47 0, field47 1, field47 2] := by kernel_rfl

theorem field47_0 : ((field47 0).type, (field47 0).offset) = (3, 0) := by kernel_rfl

theorem field47_1 : ((field47 1).type, (field47 1).offset) = (3, 1) := by kernel_rfl

theorem field47_2 : ((field47 2).type, (field47 2).offset) = (45, 2) := by kernel_rfl

theorem under45 : Try.prog.underlying 45 = some (.slice 89) := by kernel_rfl

theorem cellsOf47 : Try.prog.cellsOf 47 = 3 := by kernel_rfl

theorem cellsOf45 : Try.prog.cellsOf 45 = 1 := by kernel_rfl

theorem bytes89 : Try.prog.bytesOf 89 = 32 := by kernel_rfl

theorem types47 : Try.prog.cellTypes Try.prog.depth 47 = some [3, 3, 45] := by kernel_rfl

set_option maxRecDepth 100000 in
/-- A table that came in. -/
theorem open_table {rr : Reach} {b0 : Nat} {v : Value} {d : DataW HH} {ps : List MemPlace} (hv : Value.okWide Try.prog w rr b0 47 v) (hwt : ∀ x ∈ d.weights Try.prog 47, x ≤ reachBytes)
    (hd : DataW.Trod enc Try.prog w base (fun _ => true) held 47 v d ps) {ι : Nat → Emb} {h : H} (r : Rel Try.prog E0 ι h w) (hro : ∀ b k, h.blk b = some k → k.own = false) :
    ∃ (n m : Int) (sl sl0 : Value) (ι' : Nat → Emb) (h' : H) (l : List Sp), v = .agg #[iv n, iv m, sl] ∧ Rel Try.prog E0 ι' h' w ∧ (∀ b k, h'.blk b = some k → k.own = false) ∧ Ext h h' ∧ (∀ b, b < h.nx → ι' b = ι b) ∧
      VR ι' h'.nx sl0 sl ∧ SlR h' 89 4 sl0 (l.map Sp.cells) := by
  obtain ⟨n, m, a, len, cap, d1, p1, rfl, hw1, hhas, hd1⟩ := open_num2slice under47s fields47_eq (Prod.mk.inj field47_0) (Prod.mk.inj field47_1) (Prod.mk.inj field47_2) under3 under45 cellsOf47 cellsOf3 cellsOf45 types47 hv hwt hd
  obtain ⟨ι', h', v0, l, g1, g2, g3, g4, g5, g6, g7⟩ := open_flat r hro under45 sz89 cellsOf89 (by decide) (Q := fun x => ∃ c : Sp, x = c.cells) flat89 (by
    rintro cs ⟨c, rfl⟩
    exact ⟨rfl, fun v hv => by simp [Sp.cells] at hv; rcases hv with rfl | rfl | rfl | rfl <;> exact ⟨_, _, rfl⟩⟩) (by rw [bytes89]; exact Nat.succ_pos _) hw1 hhas hd1
  obtain ⟨l', rfl⟩ := spans_of l g7
  exact ⟨n, m, _, v0, ι', h', l', rfl, g1, g2, g3, g4, g5, g6⟩

end Go.AM

end
