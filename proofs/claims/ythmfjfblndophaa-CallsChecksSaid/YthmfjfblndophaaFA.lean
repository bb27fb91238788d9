/- The staged forms of functions 4, 18, 21, 27, 28, 29, 35, 42, 71, 72, 73, 74, 75, 89, 99, 105, and that calls of these are what they say. -/
import Derived.Test.YthmfjfblndophaaSeat
namespace Go.AM
open Go.Proofs

noncomputable def f4 (rec : Rec) (k : Nat) (v0 : Value) (n0 : Int) (n1 : Int) (v1 : Value) (h0 : H) : Option (Value × H) :=
  bx h0 24 v0 fun h1 =>
  ld Try.prog h1 24 (nx h0) 0 fun v2 =>
  calls rec h1 18 [v2] fun v3 h2 =>
  calls rec h2 28 [v1] fun v4 h3 =>
  calls rec h3 27 [v3, (.int .i64 n0), (.int .i64 n1), v4] fun v5 h4 =>
  ext v5 0 fun v6 =>
  asB v6 fun q0 =>
  ext v5 1 fun v7 =>
  asI .i64 v7 fun n2 =>
  ld Try.prog h4 24 (nx h0) 0 fun v8 =>
  calls rec h4 21 [v8, (.int .i64 n0), (.int .i64 n1)] fun v9 h5 =>
  asB v9 fun q1 =>
  ifB (not q1) (
    ifB (not q0) (
      ifB (eq n2 2) (
        calls rec h5 22 [] fun v10 h6 =>
        asB v10 fun q2 =>
        some ((.bool q2), h6)) (
        some ((.bool false), h5))) (
      some ((.bool false), h5))) (
    ld Try.prog h5 24 (nx h0) 0 fun v11 =>
    calls rec h5 29 [v11, (.int .i64 n0), (.int .i64 n1), v1] fun v12 h7 =>
    asB v12 fun q3 =>
    eqv Try.prog 4 (.bool q0) (.bool q3) fun q4 =>
    ifB q4 (
      ifB (eq n2 0) (
        calls rec h7 22 [] fun v13 h8 =>
        asB v13 fun q5 =>
        some ((.bool q5), h8)) (
        some ((.bool false), h7))) (
      some ((.bool false), h7)))

theorem e4 (rec : Rec) (k : Nat) (v0 : Value) (n0 : Int) (n1 : Int) (v1 : Value) (h : H) : bodyT Try.prog E0 SC (XC Try.prog rec k) 4 (Value × H) [.opq v0, .int .i64 n0, .int .i64 n1, .opq v1] h (fun v h => some (v, h)) = f4 rec k v0 n0 n1 v1 h := by kernel_rfl
theorem c4 {n : Nat} {v0 : Value} {n0 : Int} {n1 : Int} {v1 : Value} {h h1 : H} {v : Value} (hh : f4 (call Try.prog E0 n) (n + 1) v0 n0 n1 v1 h = some (v, h1)) : call Try.prog E0 (n + 1) 4 #[v0, .int .i64 n0, .int .i64 n1, v1] h = some (v, h1) :=
  call_of_bodyT (args := [.opq v0, .int .i64 n0, .int .i64 n1, .opq v1]) rfl ((e4 _ _ _ _ _ _ _).trans hh)

noncomputable def f18_l1 (rec : Rec) (k : Nat) (h2 : H) (v3 : Value) (n1 : Int) (ws0 : List Value) (h5 : H) : Option (Ex × List Value × H) :=
  asI .i64 (gv ws0 0) fun n2 =>
  ifB (lt n2 n1) (
    asK (gv ws0 0) fun n3 =>
    six v3 n3 3 fun b0 b1 =>
    ld Try.prog h5 59 b0 b1 fun v4 =>
    al h5 59 [(.int .i64 0), (.int .i64 0), (.int .i64 0)] fun h6 =>
    st Try.prog h6 59 (nx h5) 0 v4 fun h7 =>
    asI .i64 (gv ws0 0) fun n4 =>
    ifB (lt n4 26) (
      ld Try.prog h7 29 (nx h2) (off 0 1) fun v5 =>
      ld Try.prog h7 3 (nx h5) 0 fun v6 =>
      asI .i64 v6 fun n5 =>
      ld Try.prog h7 3 (nx h5) (off 0 1) fun v7 =>
      asI .i64 v7 fun n6 =>
      ld Try.prog h7 3 (nx h5) (off 0 2) fun v8 =>
      asI .i64 v8 fun n7 =>
      bld Try.prog 56 [(0, (.int .i64 n5)), (1, (.int .i64 n6)), (2, (.int .i64 n7))] fun v9 =>
      bls Try.prog h7 29 1 [(0, v9)] fun v10 h8 =>
      app Try.prog h8 29 29 v5 v10 fun v11 h9 =>
      st Try.prog h9 29 (nx h2) (off 0 1) v11 fun h10 =>
      asI .i64 (gv ws0 0) fun n8 =>
      out .normal [(.int .i64 (add .i64 n8 1))] h10) (
      asI .i64 (gv ws0 0) fun n9 =>
      out .normal [(.int .i64 (add .i64 n9 1))] h7)) (
    out (.exit 0) [gv ws0 0] h5)

noncomputable def f18 (rec : Rec) (k : Nat) (v0 : Value) (h0 : H) : Option (Value × H) :=
  bx h0 24 v0 fun h1 =>
  al h1 31 [(.int .i64 0), (.slice none 0 0)] fun h2 =>
  ld Try.prog h2 3 (nx h0) 0 fun v1 =>
  asI .i64 v1 fun n0 =>
  bld Try.prog 31 [(0, (.int .i64 n0))] fun v2 =>
  al h2 31 [(.int .i64 0), (.slice none 0 0)] fun h3 =>
  st Try.prog h3 31 (nx h2) 0 v2 fun h4 =>
  ld Try.prog h4 22 (nx h0) (off 0 1) fun v3 =>
  len v3 fun n1 =>
  lp k (f18_l1 rec k h2 v3 n1) [(.int .i64 0)] h4 fun e0 ws1 h11 =>
  onE e0 0 (
    ld Try.prog h11 31 (nx h2) 0 fun v12 =>
    st Try.prog h11 31 (nx h1) 0 v12 fun h12 =>
    ld Try.prog h12 31 (nx h1) 0 fun v13 =>
    some (v13, h12)) (
    none)

theorem e18 (rec : Rec) (k : Nat) (v0 : Value) (h : H) : bodyT Try.prog E0 SC (XC Try.prog rec k) 18 (Value × H) [.opq v0] h (fun v h => some (v, h)) = f18 rec k v0 h := by kernel_rfl
theorem c18 {n : Nat} {v0 : Value} {h h1 : H} {v : Value} (hh : f18 (call Try.prog E0 n) (n + 1) v0 h = some (v, h1)) : call Try.prog E0 (n + 1) 18 #[v0] h = some (v, h1) :=
  call_of_bodyT (args := [.opq v0]) rfl ((e18 _ _ _ _).trans hh)

noncomputable def f21 (rec : Rec) (k : Nat) (v0 : Value) (n0 : Int) (n1 : Int) (h0 : H) : Option (Value × H) :=
  bx h0 24 v0 fun h1 =>
  ld Try.prog h1 24 (nx h0) 0 fun v1 =>
  calls rec h1 35 [v1] fun v2 h2 =>
  asB v2 fun q0 =>
  ifB q0 (
    ld Try.prog h2 24 (nx h0) 0 fun v3 =>
    calls rec h2 42 [v3, (.int .i64 n0)] fun v4 h3 =>
    asB v4 fun q1 =>
    ifB q1 (
      ld Try.prog h3 24 (nx h0) 0 fun v5 =>
      calls rec h3 42 [v5, (.int .i64 n1)] fun v6 h4 =>
      asB v6 fun q2 =>
      ifB q2 (
        some ((.bool (not (eq n0 n1))), h4)) (
        some ((.bool false), h4))) (
      some ((.bool false), h3))) (
    some ((.bool false), h2))

theorem e21 (rec : Rec) (k : Nat) (v0 : Value) (n0 : Int) (n1 : Int) (h : H) : bodyT Try.prog E0 SC (XC Try.prog rec k) 21 (Value × H) [.opq v0, .int .i64 n0, .int .i64 n1] h (fun v h => some (v, h)) = f21 rec k v0 n0 n1 h := by kernel_rfl
theorem c21 {n : Nat} {v0 : Value} {n0 : Int} {n1 : Int} {h h1 : H} {v : Value} (hh : f21 (call Try.prog E0 n) (n + 1) v0 n0 n1 h = some (v, h1)) : call Try.prog E0 (n + 1) 21 #[v0, .int .i64 n0, .int .i64 n1] h = some (v, h1) :=
  call_of_bodyT (args := [.opq v0, .int .i64 n0, .int .i64 n1]) rfl ((e21 _ _ _ _ _ _).trans hh)

noncomputable def f27_l1 (rec : Rec) (k : Nat) (n1 : Int) (v1 : Value) (h0 : H) (n2 : Int) (ws0 : List Value) (h5 : H) : Option (Ex × List Value × H) :=
  asI .i64 (gv ws0 5) fun n3 =>
  ifB (lt n3 n2) (
    asK (gv ws0 5) fun n4 =>
    six v1 n4 1 fun b0 b1 =>
    ld Try.prog h5 3 b0 b1 fun v8 =>
    asI .i64 v8 fun n5 =>
    ifB (lt n5 0) (
      out .ret [(.bool false), (.int .i64 0), gv ws0 2, gv ws0 3, gv ws0 4, gv ws0 5] h5) (
      ld Try.prog h5 29 (nx h0) (off 0 1) fun v9 =>
      len v9 fun n6 =>
      ifB (le n6 n5) (
        out .ret [(.bool false), (.int .i64 0), gv ws0 2, gv ws0 3, gv ws0 4, gv ws0 5] h5) (
        asI .i64 (gv ws0 2) fun n7 =>
        ifB (eq n7 n1) (
          out .ret [(.bool false), (.int .i64 0), gv ws0 2, gv ws0 3, gv ws0 4, gv ws0 5] h5) (
          ld Try.prog h5 29 (nx h0) (off 0 1) fun v10 =>
          six v10 n5 3 fun b2 b3 =>
          ld Try.prog h5 56 b2 b3 fun v11 =>
          al h5 56 [(.int .i64 0), (.int .i64 0), (.int .i64 0)] fun h6 =>
          st Try.prog h6 56 (nx h5) 0 v11 fun h7 =>
          ld Try.prog h7 56 (nx h5) 0 fun v12 =>
          calls rec h7 73 [v12, gv ws0 2] fun v13 h8 =>
          asB v13 fun q3 =>
          ifB (not q3) (
            out .ret [(.bool false), (.int .i64 0), gv ws0 2, gv ws0 3, gv ws0 4, gv ws0 5] h8) (
            ld Try.prog h8 3 (nx h5) (off 0 2) fun v14 =>
            asI .i64 v14 fun n8 =>
            asI .i64 (gv ws0 3) fun n9 =>
            ifB (le n8 n9) (
              out .ret [(.bool false), (.int .i64 0), gv ws0 2, gv ws0 3, gv ws0 4, gv ws0 5] h8) (
              ld Try.prog h8 56 (nx h5) 0 fun v15 =>
              calls rec h8 74 [v15, gv ws0 2] fun v16 h9 =>
              asI .i64 v16 fun n10 =>
              asI .i64 (gv ws0 4) fun n11 =>
              nn n10 (
                ifB (eq (and .i64 (shr .i64 n11 n10) 1) 1) (
                  out .ret [(.bool false), (.int .i64 0), gv ws0 2, gv ws0 3, gv ws0 4, gv ws0 5] h9) (
                  ld Try.prog h9 56 (nx h5) 0 fun v17 =>
                  calls rec h9 74 [v17, gv ws0 2] fun v18 h10 =>
                  asI .i64 v18 fun n12 =>
                  ld Try.prog h10 3 (nx h5) (off 0 2) fun v19 =>
                  asI .i64 v19 fun n13 =>
                  ck (freq (nx h5) (nx h9) (same h10 h9)) (
                    nn n12 (
                      asI .i64 (gv ws0 4) fun n14 =>
                      asI .i64 (gv ws0 5) fun n15 =>
                      out .normal [gv ws0 0, gv ws0 1, (.int .i64 n12), (.int .i64 n13), (.int .i64 (or .i64 n14 (shl .i64 1 n12))), (.int .i64 (add .i64 n15 1))] h10)))))))))) (
    out (.exit 0) [gv ws0 0, gv ws0 1, gv ws0 2, gv ws0 3, gv ws0 4, gv ws0 5] h5)

noncomputable def f27 (rec : Rec) (k : Nat) (v0 : Value) (n0 : Int) (n1 : Int) (v1 : Value) (h0 : H) : Option (Value × H) :=
  bx h0 31 v0 fun h1 =>
  ld Try.prog h1 31 (nx h0) 0 fun v2 =>
  calls rec h1 71 [v2] fun v3 h2 =>
  asB v3 fun q0 =>
  ifB (not q0) (
    some ((.tuple #[(.bool false), (.int .i64 2)]), h2)) (
    ld Try.prog h2 31 (nx h0) 0 fun v4 =>
    calls rec h2 72 [v4, (.int .i64 n0)] fun v5 h3 =>
    asB v5 fun q1 =>
    ifB (not q1) (
      some ((.tuple #[(.bool false), (.int .i64 2)]), h3)) (
      ld Try.prog h3 31 (nx h0) 0 fun v6 =>
      calls rec h3 72 [v6, (.int .i64 n1)] fun v7 h4 =>
      asB v7 fun q2 =>
      ifB (not q2) (
        some ((.tuple #[(.bool false), (.int .i64 2)]), h4)) (
        ifB (eq n0 n1) (
          some ((.tuple #[(.bool false), (.int .i64 2)]), h4)) (
          nn n0 (
            len v1 fun n2 =>
            lp k (f27_l1 rec k n1 v1 h0 n2) [(.bool false), (.int .i64 0), (.int .i64 n0), (.int .i64 0), (.int .i64 (shl .i64 1 n0)), (.int .i64 0)] h4 fun e0 ws1 h11 =>
            onE e0 0 (
              asI .i64 (gv ws1 2) fun n16 =>
              some ((.tuple #[(.bool (eq n16 n1)), (.int .i64 0)]), h11)) (
              onR e0 (
                some ((.tuple #[gv ws1 0, gv ws1 1]), h11))))))))

theorem e27 (rec : Rec) (k : Nat) (v0 : Value) (n0 : Int) (n1 : Int) (v1 : Value) (h : H) : bodyT Try.prog E0 SC (XC Try.prog rec k) 27 (Value × H) [.opq v0, .int .i64 n0, .int .i64 n1, .opq v1] h (fun v h => some (v, h)) = f27 rec k v0 n0 n1 v1 h := by kernel_rfl
theorem c27 {n : Nat} {v0 : Value} {n0 : Int} {n1 : Int} {v1 : Value} {h h1 : H} {v : Value} (hh : f27 (call Try.prog E0 n) (n + 1) v0 n0 n1 v1 h = some (v, h1)) : call Try.prog E0 (n + 1) 27 #[v0, .int .i64 n0, .int .i64 n1, v1] h = some (v, h1) :=
  call_of_bodyT (args := [.opq v0, .int .i64 n0, .int .i64 n1, .opq v1]) rfl ((e27 _ _ _ _ _ _ _).trans hh)

noncomputable def f28 (rec : Rec) (k : Nat) (v0 : Value) (h0 : H) : Option (Value × H) :=
  len v0 fun n0 =>
  sli Try.prog h0 25 v0 none (some (.int .i64 (imin n0 26))) none fun v1 =>
  calls rec h0 75 [v1] fun v2 h1 =>
  some (v2, h1)

theorem e28 (rec : Rec) (k : Nat) (v0 : Value) (h : H) : bodyT Try.prog E0 SC (XC Try.prog rec k) 28 (Value × H) [.opq v0] h (fun v h => some (v, h)) = f28 rec k v0 h := by kernel_rfl
theorem c28 {n : Nat} {v0 : Value} {h h1 : H} {v : Value} (hh : f28 (call Try.prog E0 n) (n + 1) v0 h = some (v, h1)) : call Try.prog E0 (n + 1) 28 #[v0] h = some (v, h1) :=
  call_of_bodyT (args := [.opq v0]) rfl ((e28 _ _ _ _).trans hh)

noncomputable def f29_l1 (rec : Rec) (k : Nat) (n1 : Int) (v1 : Value) (h0 : H) (n2 : Int) (ws0 : List Value) (h2 : H) : Option (Ex × List Value × H) :=
  asI .i64 (gv ws0 4) fun n3 =>
  ifB (lt n3 n2) (
    asK (gv ws0 4) fun n4 =>
    six v1 n4 1 fun b0 b1 =>
    ld Try.prog h2 3 b0 b1 fun v2 =>
    asI .i64 v2 fun n5 =>
    ifB (lt n5 0) (
      out .ret [(.bool false), gv ws0 1, gv ws0 2, gv ws0 3, gv ws0 4] h2) (
      ld Try.prog h2 22 (nx h0) (off 0 1) fun v3 =>
      len v3 fun n6 =>
      ifB (le n6 n5) (
        out .ret [(.bool false), gv ws0 1, gv ws0 2, gv ws0 3, gv ws0 4] h2) (
        asI .i64 (gv ws0 1) fun n7 =>
        ifB (eq n7 n1) (
          out .ret [(.bool false), gv ws0 1, gv ws0 2, gv ws0 3, gv ws0 4] h2) (
          ld Try.prog h2 22 (nx h0) (off 0 1) fun v4 =>
          six v4 n5 3 fun b2 b3 =>
          ld Try.prog h2 59 b2 b3 fun v5 =>
          al h2 59 [(.int .i64 0), (.int .i64 0), (.int .i64 0)] fun h3 =>
          st Try.prog h3 59 (nx h2) 0 v5 fun h4 =>
          ld Try.prog h4 3 (nx h2) 0 fun v6 =>
          asI .i64 v6 fun n8 =>
          asI .i64 (gv ws0 1) fun n9 =>
          ifB (not (eq n8 n9)) (
            ld Try.prog h4 3 (nx h2) (off 0 1) fun v7 =>
            asI .i64 v7 fun n10 =>
            asI .i64 (gv ws0 1) fun n11 =>
            ifB (not (eq n10 n11)) (
              out .ret [(.bool false), gv ws0 1, gv ws0 2, gv ws0 3, gv ws0 4] h4) (
              ld Try.prog h4 3 (nx h2) (off 0 2) fun v8 =>
              asI .i64 v8 fun n12 =>
              asI .i64 (gv ws0 2) fun n13 =>
              ifB (le n12 n13) (
                out .ret [(.bool false), gv ws0 1, gv ws0 2, gv ws0 3, gv ws0 4] h4) (
                ld Try.prog h4 3 (nx h2) 0 fun v9 =>
                asI .i64 v9 fun n14 =>
                ld Try.prog h4 3 (nx h2) (off 0 1) fun v10 =>
                asI .i64 v10 fun n15 =>
                asI .i64 (gv ws0 1) fun n16 =>
                ld Try.prog h4 3 (nx h2) (off 0 2) fun v11 =>
                asI .i64 v11 fun n17 =>
                asI .i64 (gv ws0 3) fun n18 =>
                nn (sub .i64 (add .i64 n14 n15) n16) (
                  ifB (eq (and .i64 (shr .i64 n18 (sub .i64 (add .i64 n14 n15) n16)) 1) 1) (
                    out .ret [(.bool false), (.int .i64 (sub .i64 (add .i64 n14 n15) n16)), (.int .i64 n17), gv ws0 3, gv ws0 4] h4) (
                    nn (sub .i64 (add .i64 n14 n15) n16) (
                      asI .i64 (gv ws0 3) fun n19 =>
                      asI .i64 (gv ws0 4) fun n20 =>
                      out .normal [gv ws0 0, (.int .i64 (sub .i64 (add .i64 n14 n15) n16)), (.int .i64 n17), (.int .i64 (or .i64 n19 (shl .i64 1 (sub .i64 (add .i64 n14 n15) n16)))), (.int .i64 (add .i64 n20 1))] h4)))))) (
            ld Try.prog h4 3 (nx h2) (off 0 2) fun v12 =>
            asI .i64 v12 fun n21 =>
            asI .i64 (gv ws0 2) fun n22 =>
            ifB (le n21 n22) (
              out .ret [(.bool false), gv ws0 1, gv ws0 2, gv ws0 3, gv ws0 4] h4) (
              ld Try.prog h4 3 (nx h2) 0 fun v13 =>
              asI .i64 v13 fun n23 =>
              ld Try.prog h4 3 (nx h2) (off 0 1) fun v14 =>
              asI .i64 v14 fun n24 =>
              asI .i64 (gv ws0 1) fun n25 =>
              ld Try.prog h4 3 (nx h2) (off 0 2) fun v15 =>
              asI .i64 v15 fun n26 =>
              asI .i64 (gv ws0 3) fun n27 =>
              nn (sub .i64 (add .i64 n23 n24) n25) (
                ifB (eq (and .i64 (shr .i64 n27 (sub .i64 (add .i64 n23 n24) n25)) 1) 1) (
                  out .ret [(.bool false), (.int .i64 (sub .i64 (add .i64 n23 n24) n25)), (.int .i64 n26), gv ws0 3, gv ws0 4] h4) (
                  nn (sub .i64 (add .i64 n23 n24) n25) (
                    asI .i64 (gv ws0 3) fun n28 =>
                    asI .i64 (gv ws0 4) fun n29 =>
                    out .normal [gv ws0 0, (.int .i64 (sub .i64 (add .i64 n23 n24) n25)), (.int .i64 n26), (.int .i64 (or .i64 n28 (shl .i64 1 (sub .i64 (add .i64 n23 n24) n25)))), (.int .i64 (add .i64 n29 1))] h4))))))))) (
    out (.exit 0) [gv ws0 0, gv ws0 1, gv ws0 2, gv ws0 3, gv ws0 4] h2)

noncomputable def f29 (rec : Rec) (k : Nat) (v0 : Value) (n0 : Int) (n1 : Int) (v1 : Value) (h0 : H) : Option (Value × H) :=
  bx h0 24 v0 fun h1 =>
  nn n0 (
    len v1 fun n2 =>
    lp k (f29_l1 rec k n1 v1 h0 n2) [(.bool false), (.int .i64 n0), (.int .i64 0), (.int .i64 (shl .i64 1 n0)), (.int .i64 0)] h1 fun e0 ws1 h5 =>
    onE e0 0 (
      asI .i64 (gv ws1 1) fun n30 =>
      ifB (eq n30 n1) (
        len v1 fun n31 =>
        some ((.bool (lt 0 n31)), h5)) (
        some ((.bool false), h5))) (
      onR e0 (
        some (gv ws1 0, h5))))

theorem e29 (rec : Rec) (k : Nat) (v0 : Value) (n0 : Int) (n1 : Int) (v1 : Value) (h : H) : bodyT Try.prog E0 SC (XC Try.prog rec k) 29 (Value × H) [.opq v0, .int .i64 n0, .int .i64 n1, .opq v1] h (fun v h => some (v, h)) = f29 rec k v0 n0 n1 v1 h := by kernel_rfl
theorem c29 {n : Nat} {v0 : Value} {n0 : Int} {n1 : Int} {v1 : Value} {h h1 : H} {v : Value} (hh : f29 (call Try.prog E0 n) (n + 1) v0 n0 n1 v1 h = some (v, h1)) : call Try.prog E0 (n + 1) 29 #[v0, .int .i64 n0, .int .i64 n1, v1] h = some (v, h1) :=
  call_of_bodyT (args := [.opq v0, .int .i64 n0, .int .i64 n1, .opq v1]) rfl ((e29 _ _ _ _ _ _ _).trans hh)

noncomputable def f35_l2 (rec : Rec) (k : Nat) (h2 : H) (v17 : Value) (n16 : Int) (ws1 : List Value) (h5 : H) : Option (Ex × List Value × H) :=
  asI .i64 (gv ws1 1) fun n17 =>
  ifB (lt n17 n16) (
    asK (gv ws1 1) fun n18 =>
    six v17 n18 3 fun b2 b3 =>
    ld Try.prog h5 59 b2 b3 fun v18 =>
    al h5 59 [(.int .i64 0), (.int .i64 0), (.int .i64 0)] fun h6 =>
    st Try.prog h6 59 (nx h5) 0 v18 fun h7 =>
    ld Try.prog h7 3 (nx h5) (off 0 2) fun v19 =>
    asI .i64 v19 fun n19 =>
    ld Try.prog h7 3 (nx h2) (off 0 2) fun v20 =>
    asI .i64 v20 fun n20 =>
    ifB (lt n20 n19) (
      out .ret [(.bool false), gv ws1 1] h7) (
      ld Try.prog h7 3 (nx h5) (off 0 2) fun v21 =>
      asI .i64 v21 fun n21 =>
      ld Try.prog h7 3 (nx h2) (off 0 2) fun v22 =>
      asI .i64 v22 fun n22 =>
      ifB (eq n21 n22) (
        ld Try.prog h7 3 (nx h5) 0 fun v23 =>
        asI .i64 v23 fun n23 =>
        ld Try.prog h7 3 (nx h2) 0 fun v24 =>
        asI .i64 v24 fun n24 =>
        ifB (eq n23 n24) (
          out .ret [(.bool false), gv ws1 1] h7) (
          ld Try.prog h7 3 (nx h5) 0 fun v25 =>
          asI .i64 v25 fun n25 =>
          ld Try.prog h7 3 (nx h2) (off 0 1) fun v26 =>
          asI .i64 v26 fun n26 =>
          ifB (eq n25 n26) (
            out .ret [(.bool false), gv ws1 1] h7) (
            ld Try.prog h7 3 (nx h5) (off 0 1) fun v27 =>
            asI .i64 v27 fun n27 =>
            ld Try.prog h7 3 (nx h2) 0 fun v28 =>
            asI .i64 v28 fun n28 =>
            ifB (eq n27 n28) (
              out .ret [(.bool false), gv ws1 1] h7) (
              ld Try.prog h7 3 (nx h5) (off 0 1) fun v29 =>
              asI .i64 v29 fun n29 =>
              ld Try.prog h7 3 (nx h2) (off 0 1) fun v30 =>
              asI .i64 v30 fun n30 =>
              ifB (eq n29 n30) (
                out .ret [(.bool false), gv ws1 1] h7) (
                asI .i64 (gv ws1 1) fun n31 =>
                out .normal [gv ws1 0, (.int .i64 (add .i64 n31 1))] h7))))) (
        asI .i64 (gv ws1 1) fun n32 =>
        out .normal [gv ws1 0, (.int .i64 (add .i64 n32 1))] h7))) (
    out (.exit 2) [gv ws1 0, gv ws1 1] h5)

noncomputable def f35_l1 (rec : Rec) (k : Nat) (h0 : H) (v4 : Value) (n3 : Int) (ws0 : List Value) (h2 : H) : Option (Ex × List Value × H) :=
  asI .i64 (gv ws0 1) fun n4 =>
  ifB (lt n4 n3) (
    asK (gv ws0 1) fun n5 =>
    six v4 n5 3 fun b0 b1 =>
    ld Try.prog h2 59 b0 b1 fun v5 =>
    al h2 59 [(.int .i64 0), (.int .i64 0), (.int .i64 0)] fun h3 =>
    st Try.prog h3 59 (nx h2) 0 v5 fun h4 =>
    ld Try.prog h4 3 (nx h2) 0 fun v6 =>
    asI .i64 v6 fun n6 =>
    ifB (lt n6 0) (
      out .ret [(.bool false), gv ws0 1] h4) (
      ld Try.prog h4 3 (nx h2) 0 fun v7 =>
      asI .i64 v7 fun n7 =>
      ld Try.prog h4 3 (nx h0) 0 fun v8 =>
      asI .i64 v8 fun n8 =>
      ifB (le n8 n7) (
        out .ret [(.bool false), gv ws0 1] h4) (
        ld Try.prog h4 3 (nx h2) (off 0 1) fun v9 =>
        asI .i64 v9 fun n9 =>
        ifB (lt n9 0) (
          out .ret [(.bool false), gv ws0 1] h4) (
          ld Try.prog h4 3 (nx h2) (off 0 1) fun v10 =>
          asI .i64 v10 fun n10 =>
          ld Try.prog h4 3 (nx h0) 0 fun v11 =>
          asI .i64 v11 fun n11 =>
          ifB (le n11 n10) (
            out .ret [(.bool false), gv ws0 1] h4) (
            ld Try.prog h4 3 (nx h2) 0 fun v12 =>
            asI .i64 v12 fun n12 =>
            ld Try.prog h4 3 (nx h2) (off 0 1) fun v13 =>
            asI .i64 v13 fun n13 =>
            ifB (eq n12 n13) (
              out .ret [(.bool false), gv ws0 1] h4) (
              ld Try.prog h4 3 (nx h2) (off 0 2) fun v14 =>
              asI .i64 v14 fun n14 =>
              ifB (lt n14 1) (
                out .ret [(.bool false), gv ws0 1] h4) (
                ld Try.prog h4 3 (nx h2) (off 0 2) fun v15 =>
                asI .i64 v15 fun n15 =>
                ifB (lt 30 n15) (
                  out .ret [(.bool false), gv ws0 1] h4) (
                  ld Try.prog h4 22 (nx h0) (off 0 1) fun v16 =>
                  sli Try.prog h4 22 v16 none (some (gv ws0 1)) none fun v17 =>
                  len v17 fun n16 =>
                  lp k (f35_l2 rec k h2 v17 n16) [gv ws0 0, (.int .i64 0)] h4 fun e0 ws2 h8 =>
                  onE e0 2 (
                    asI .i64 (gv ws0 1) fun n33 =>
                    out .normal [gv ws2 0, (.int .i64 (add .i64 n33 1))] h8) (
                    onR e0 (
                      out .ret [gv ws2 0, gv ws0 1] h8)))))))))) (
    out (.exit 0) [gv ws0 0, gv ws0 1] h2)

noncomputable def f35 (rec : Rec) (k : Nat) (v0 : Value) (h0 : H) : Option (Value × H) :=
  bx h0 24 v0 fun h1 =>
  ld Try.prog h1 3 (nx h0) 0 fun v1 =>
  asI .i64 v1 fun n0 =>
  ifB (lt n0 1) (
    some ((.bool false), h1)) (
    ld Try.prog h1 3 (nx h0) 0 fun v2 =>
    asI .i64 v2 fun n1 =>
    ifB (lt 7 n1) (
      some ((.bool false), h1)) (
      ld Try.prog h1 22 (nx h0) (off 0 1) fun v3 =>
      len v3 fun n2 =>
      ifB (lt 24 n2) (
        some ((.bool false), h1)) (
        ld Try.prog h1 22 (nx h0) (off 0 1) fun v4 =>
        len v4 fun n3 =>
        lp k (f35_l1 rec k h0 v4 n3) [(.bool false), (.int .i64 0)] h1 fun e1 ws3 h9 =>
        onE e1 0 (
          some ((.bool true), h9)) (
          onR e1 (
            some (gv ws3 0, h9))))))

theorem e35 (rec : Rec) (k : Nat) (v0 : Value) (h : H) : bodyT Try.prog E0 SC (XC Try.prog rec k) 35 (Value × H) [.opq v0] h (fun v h => some (v, h)) = f35 rec k v0 h := by kernel_rfl
theorem c35 {n : Nat} {v0 : Value} {h h1 : H} {v : Value} (hh : f35 (call Try.prog E0 n) (n + 1) v0 h = some (v, h1)) : call Try.prog E0 (n + 1) 35 #[v0] h = some (v, h1) :=
  call_of_bodyT (args := [.opq v0]) rfl ((e35 _ _ _ _).trans hh)

noncomputable def f42 (rec : Rec) (k : Nat) (v0 : Value) (n0 : Int) (h0 : H) : Option (Value × H) :=
  bx h0 24 v0 fun h1 =>
  ifB (le 0 n0) (
    ld Try.prog h1 3 (nx h0) 0 fun v1 =>
    asI .i64 v1 fun n1 =>
    some ((.bool (lt n0 n1)), h1)) (
    some ((.bool false), h1))

theorem e42 (rec : Rec) (k : Nat) (v0 : Value) (n0 : Int) (h : H) : bodyT Try.prog E0 SC (XC Try.prog rec k) 42 (Value × H) [.opq v0, .int .i64 n0] h (fun v h => some (v, h)) = f42 rec k v0 n0 h := by kernel_rfl
theorem c42 {n : Nat} {v0 : Value} {n0 : Int} {h h1 : H} {v : Value} (hh : f42 (call Try.prog E0 n) (n + 1) v0 n0 h = some (v, h1)) : call Try.prog E0 (n + 1) 42 #[v0, .int .i64 n0] h = some (v, h1) :=
  call_of_bodyT (args := [.opq v0, .int .i64 n0]) rfl ((e42 _ _ _ _ _).trans hh)

noncomputable def f71_l1 (rec : Rec) (k : Nat) (h0 : H) (v4 : Value) (n3 : Int) (ws0 : List Value) (h2 : H) : Option (Ex × List Value × H) :=
  asI .i64 (gv ws0 1) fun n4 =>
  ifB (lt n4 n3) (
    asK (gv ws0 1) fun n5 =>
    six v4 n5 3 fun b0 b1 =>
    ld Try.prog h2 56 b0 b1 fun v5 =>
    al h2 56 [(.int .i64 0), (.int .i64 0), (.int .i64 0)] fun h3 =>
    st Try.prog h3 56 (nx h2) 0 v5 fun h4 =>
    ld Try.prog h4 31 (nx h0) 0 fun v6 =>
    ld Try.prog h4 3 (nx h2) 0 fun v7 =>
    asI .i64 v7 fun n6 =>
    calls rec h4 72 [v6, (.int .i64 n6)] fun v8 h5 =>
    asB v8 fun q0 =>
    ifB (not q0) (
      out .ret [(.bool false), gv ws0 1] h5) (
      ld Try.prog h5 31 (nx h0) 0 fun v9 =>
      ld Try.prog h5 3 (nx h2) (off 0 1) fun v10 =>
      asI .i64 v10 fun n7 =>
      calls rec h5 72 [v9, (.int .i64 n7)] fun v11 h6 =>
      asB v11 fun q1 =>
      ifB (not q1) (
        out .ret [(.bool false), gv ws0 1] h6) (
        ld Try.prog h6 3 (nx h2) 0 fun v12 =>
        asI .i64 v12 fun n8 =>
        ld Try.prog h6 3 (nx h2) (off 0 1) fun v13 =>
        asI .i64 v13 fun n9 =>
        ifB (eq n8 n9) (
          out .ret [(.bool false), gv ws0 1] h6) (
          ld Try.prog h6 3 (nx h2) (off 0 2) fun v14 =>
          asI .i64 v14 fun n10 =>
          ifB (lt n10 1) (
            out .ret [(.bool false), gv ws0 1] h6) (
            ld Try.prog h6 3 (nx h2) (off 0 2) fun v15 =>
            asI .i64 v15 fun n11 =>
            ifB (lt 30 n11) (
              out .ret [(.bool false), gv ws0 1] h6) (
              asI .i64 (gv ws0 1) fun n12 =>
              ifB (lt 0 n12) (
                ld Try.prog h6 29 (nx h0) (off 0 1) fun v16 =>
                asI .i64 (gv ws0 1) fun n13 =>
                six v16 (sub .i64 n13 1) 3 fun b2 b3 =>
                ld Try.prog h6 3 b2 (off b3 2) fun v17 =>
                asI .i64 v17 fun n14 =>
                ld Try.prog h6 3 (nx h2) (off 0 2) fun v18 =>
                asI .i64 v18 fun n15 =>
                ifB (lt n15 n14) (
                  out .ret [(.bool false), gv ws0 1] h6) (
                  ld Try.prog h6 29 (nx h0) (off 0 1) fun v19 =>
                  sli Try.prog h6 29 v19 none (some (gv ws0 1)) none fun v20 =>
                  calls rec h6 89 [v20, (.func (.func 99) #[] #[(pt (nx h2) 0)])] fun v21 h7 =>
                  asB v21 fun q2 =>
                  ifB q2 (
                    out .ret [(.bool false), gv ws0 1] h7) (
                    asI .i64 (gv ws0 1) fun n16 =>
                    out .normal [gv ws0 0, (.int .i64 (add .i64 n16 1))] h7))) (
                ld Try.prog h6 29 (nx h0) (off 0 1) fun v22 =>
                sli Try.prog h6 29 v22 none (some (gv ws0 1)) none fun v23 =>
                calls rec h6 89 [v23, (.func (.func 99) #[] #[(pt (nx h2) 0)])] fun v24 h8 =>
                asB v24 fun q3 =>
                ifB q3 (
                  out .ret [(.bool false), gv ws0 1] h8) (
                  asI .i64 (gv ws0 1) fun n17 =>
                  out .normal [gv ws0 0, (.int .i64 (add .i64 n17 1))] h8)))))))) (
    out (.exit 0) [gv ws0 0, gv ws0 1] h2)

noncomputable def f71 (rec : Rec) (k : Nat) (v0 : Value) (h0 : H) : Option (Value × H) :=
  bx h0 31 v0 fun h1 =>
  ld Try.prog h1 3 (nx h0) 0 fun v1 =>
  asI .i64 v1 fun n0 =>
  ifB (lt n0 1) (
    some ((.bool false), h1)) (
    ld Try.prog h1 3 (nx h0) 0 fun v2 =>
    asI .i64 v2 fun n1 =>
    ifB (lt 7 n1) (
      some ((.bool false), h1)) (
      ld Try.prog h1 29 (nx h0) (off 0 1) fun v3 =>
      len v3 fun n2 =>
      ifB (lt 24 n2) (
        some ((.bool false), h1)) (
        ld Try.prog h1 29 (nx h0) (off 0 1) fun v4 =>
        len v4 fun n3 =>
        lp k (f71_l1 rec k h0 v4 n3) [(.bool false), (.int .i64 0)] h1 fun e0 ws1 h9 =>
        onE e0 0 (
          some ((.bool true), h9)) (
          onR e0 (
            some (gv ws1 0, h9))))))

theorem e71 (rec : Rec) (k : Nat) (v0 : Value) (h : H) : bodyT Try.prog E0 SC (XC Try.prog rec k) 71 (Value × H) [.opq v0] h (fun v h => some (v, h)) = f71 rec k v0 h := by kernel_rfl
theorem c71 {n : Nat} {v0 : Value} {h h1 : H} {v : Value} (hh : f71 (call Try.prog E0 n) (n + 1) v0 h = some (v, h1)) : call Try.prog E0 (n + 1) 71 #[v0] h = some (v, h1) :=
  call_of_bodyT (args := [.opq v0]) rfl ((e71 _ _ _ _).trans hh)

noncomputable def f72 (rec : Rec) (k : Nat) (v0 : Value) (n0 : Int) (h0 : H) : Option (Value × H) :=
  bx h0 31 v0 fun h1 =>
  ifB (le 0 n0) (
    ld Try.prog h1 3 (nx h0) 0 fun v1 =>
    asI .i64 v1 fun n1 =>
    some ((.bool (lt n0 n1)), h1)) (
    some ((.bool false), h1))

theorem e72 (rec : Rec) (k : Nat) (v0 : Value) (n0 : Int) (h : H) : bodyT Try.prog E0 SC (XC Try.prog rec k) 72 (Value × H) [.opq v0, .int .i64 n0] h (fun v h => some (v, h)) = f72 rec k v0 n0 h := by kernel_rfl
theorem c72 {n : Nat} {v0 : Value} {n0 : Int} {h h1 : H} {v : Value} (hh : f72 (call Try.prog E0 n) (n + 1) v0 n0 h = some (v, h1)) : call Try.prog E0 (n + 1) 72 #[v0, .int .i64 n0] h = some (v, h1) :=
  call_of_bodyT (args := [.opq v0, .int .i64 n0]) rfl ((e72 _ _ _ _ _).trans hh)

noncomputable def f73 (rec : Rec) (k : Nat) (v0 : Value) (n0 : Int) (h0 : H) : Option (Value × H) :=
  bx h0 56 v0 fun h1 =>
  ld Try.prog h1 3 (nx h0) 0 fun v1 =>
  asI .i64 v1 fun n1 =>
  ifB (eq n1 n0) (
    some ((.bool true), h1)) (
    ld Try.prog h1 3 (nx h0) (off 0 1) fun v2 =>
    asI .i64 v2 fun n2 =>
    some ((.bool (eq n2 n0)), h1))

theorem e73 (rec : Rec) (k : Nat) (v0 : Value) (n0 : Int) (h : H) : bodyT Try.prog E0 SC (XC Try.prog rec k) 73 (Value × H) [.opq v0, .int .i64 n0] h (fun v h => some (v, h)) = f73 rec k v0 n0 h := by kernel_rfl
theorem c73 {n : Nat} {v0 : Value} {n0 : Int} {h h1 : H} {v : Value} (hh : f73 (call Try.prog E0 n) (n + 1) v0 n0 h = some (v, h1)) : call Try.prog E0 (n + 1) 73 #[v0, .int .i64 n0] h = some (v, h1) :=
  call_of_bodyT (args := [.opq v0, .int .i64 n0]) rfl ((e73 _ _ _ _ _).trans hh)

noncomputable def f74 (rec : Rec) (k : Nat) (v0 : Value) (n0 : Int) (h0 : H) : Option (Value × H) :=
  bx h0 56 v0 fun h1 =>
  ld Try.prog h1 3 (nx h0) 0 fun v1 =>
  asI .i64 v1 fun n1 =>
  ld Try.prog h1 3 (nx h0) (off 0 1) fun v2 =>
  asI .i64 v2 fun n2 =>
  some ((.int .i64 (sub .i64 (add .i64 n1 n2) n0)), h1)

theorem e74 (rec : Rec) (k : Nat) (v0 : Value) (n0 : Int) (h : H) : bodyT Try.prog E0 SC (XC Try.prog rec k) 74 (Value × H) [.opq v0, .int .i64 n0] h (fun v h => some (v, h)) = f74 rec k v0 n0 h := by kernel_rfl
theorem c74 {n : Nat} {v0 : Value} {n0 : Int} {h h1 : H} {v : Value} (hh : f74 (call Try.prog E0 n) (n + 1) v0 n0 h = some (v, h1)) : call Try.prog E0 (n + 1) 74 #[v0, .int .i64 n0] h = some (v, h1) :=
  call_of_bodyT (args := [.opq v0, .int .i64 n0]) rfl ((e74 _ _ _ _ _).trans hh)

noncomputable def f75 (rec : Rec) (k : Nat) (v0 : Value) (h0 : H) : Option (Value × H) :=
  eqv Try.prog 25 v0 (.slice none 0 0) fun q0 =>
  ifB q0 (
    some ((.slice none 0 0), h0)) (
    bls Try.prog h0 25 0 [] fun v1 h1 =>
    app Try.prog h1 25 25 v1 v0 fun v2 h2 =>
    some (v2, h2))

theorem e75 (rec : Rec) (k : Nat) (v0 : Value) (h : H) : bodyT Try.prog E0 SC (XC Try.prog rec k) 75 (Value × H) [.opq v0] h (fun v h => some (v, h)) = f75 rec k v0 h := by kernel_rfl
theorem c75 {n : Nat} {v0 : Value} {h h1 : H} {v : Value} (hh : f75 (call Try.prog E0 n) (n + 1) v0 h = some (v, h1)) : call Try.prog E0 (n + 1) 75 #[v0] h = some (v, h1) :=
  call_of_bodyT (args := [.opq v0]) rfl ((e75 _ _ _ _).trans hh)

noncomputable def f89 (rec : Rec) (k : Nat) (v0 : Value) (v1 : Value) (h0 : H) : Option (Value × H) :=
  calls rec h0 105 [v0, v1] fun v2 h1 =>
  asI .i64 v2 fun n0 =>
  some ((.bool (le 0 n0)), h1)

theorem e89 (rec : Rec) (k : Nat) (v0 : Value) (v1 : Value) (h : H) : bodyT Try.prog E0 SC (XC Try.prog rec k) 89 (Value × H) [.opq v0, .opq v1] h (fun v h => some (v, h)) = f89 rec k v0 v1 h := by kernel_rfl
theorem c89 {n : Nat} {v0 : Value} {v1 : Value} {h h1 : H} {v : Value} (hh : f89 (call Try.prog E0 n) (n + 1) v0 v1 h = some (v, h1)) : call Try.prog E0 (n + 1) 89 #[v0, v1] h = some (v, h1) :=
  call_of_bodyT (args := [.opq v0, .opq v1]) rfl ((e89 _ _ _ _ _).trans hh)

noncomputable def f99 (rec : Rec) (k : Nat) (v0 : Value) (v1 : Value) (h0 : H) : Option (Value × H) :=
  bx h0 56 v0 fun h1 =>
  ld Try.prog h1 3 (nx h0) (off 0 2) fun v2 =>
  asI .i64 v2 fun n0 =>
  asP v1 fun b0 b1 =>
  ld Try.prog h1 3 b0 (off b1 2) fun v3 =>
  asI .i64 v3 fun n1 =>
  ifB (eq n0 n1) (
    ld Try.prog h1 56 (nx h0) 0 fun v4 =>
    asP v1 fun b2 b3 =>
    ld Try.prog h1 3 b2 b3 fun v5 =>
    asI .i64 v5 fun n2 =>
    calls rec h1 73 [v4, (.int .i64 n2)] fun v6 h2 =>
    asB v6 fun q0 =>
    ifB q0 (
      some ((.bool true), h2)) (
      ld Try.prog h2 56 (nx h0) 0 fun v7 =>
      asP v1 fun b4 b5 =>
      ld Try.prog h2 3 b4 (off b5 1) fun v8 =>
      asI .i64 v8 fun n3 =>
      calls rec h2 73 [v7, (.int .i64 n3)] fun v9 h3 =>
      asB v9 fun q1 =>
      some ((.bool q1), h3))) (
    some ((.bool false), h1))

theorem e99 (rec : Rec) (k : Nat) (v0 : Value) (v1 : Value) (h : H) : bodyT Try.prog E0 SC (XC Try.prog rec k) 99 (Value × H) [.opq v0, .opq v1] h (fun v h => some (v, h)) = f99 rec k v0 v1 h := by kernel_rfl
theorem c99 {n : Nat} {v0 : Value} {v1 : Value} {h h1 : H} {v : Value} (hh : f99 (call Try.prog E0 n) (n + 1) v0 v1 h = some (v, h1)) : call Try.prog E0 (n + 1) 99 #[v0, v1] h = some (v, h1) :=
  call_of_bodyT (args := [.opq v0, .opq v1]) rfl ((e99 _ _ _ _ _).trans hh)

noncomputable def f105_l1 (rec : Rec) (k : Nat) (v0 : Value) (v1 : Value) (n0 : Int) (ws0 : List Value) (h1 : H) : Option (Ex × List Value × H) :=
  asI .i64 (gv ws0 1) fun n1 =>
  ifB (lt n1 n0) (
    asK (gv ws0 1) fun n2 =>
    six v0 n2 3 fun b0 b1 =>
    ld Try.prog h1 56 b0 b1 fun v2 =>
    callsV rec h1 v1 [v2] fun v3 h2 =>
    asB v3 fun q0 =>
    ifB q0 (
      out .ret [gv ws0 1, gv ws0 1] h2) (
      asI .i64 (gv ws0 1) fun n3 =>
      out .normal [gv ws0 0, (.int .i64 (add .i64 n3 1))] h2)) (
    out (.exit 0) [gv ws0 0, gv ws0 1] h1)

noncomputable def f105 (rec : Rec) (k : Nat) (v0 : Value) (v1 : Value) (h0 : H) : Option (Value × H) :=
  len v0 fun n0 =>
  lp k (f105_l1 rec k v0 v1 n0) [(.int .i64 0), (.int .i64 0)] h0 fun e0 ws1 h3 =>
  onE e0 0 (
    some ((.int .i64 (-1)), h3)) (
    onR e0 (
      some (gv ws1 0, h3)))

theorem e105 (rec : Rec) (k : Nat) (v0 : Value) (v1 : Value) (h : H) : bodyT Try.prog E0 SC (XC Try.prog rec k) 105 (Value × H) [.opq v0, .opq v1] h (fun v h => some (v, h)) = f105 rec k v0 v1 h := by kernel_rfl
theorem c105 {n : Nat} {v0 : Value} {v1 : Value} {h h1 : H} {v : Value} (hh : f105 (call Try.prog E0 n) (n + 1) v0 v1 h = some (v, h1)) : call Try.prog E0 (n + 1) 105 #[v0, v1] h = some (v, h1) :=
  call_of_bodyT (args := [.opq v0, .opq v1]) rfl ((e105 _ _ _ _ _).trans hh)

end Go.AM
