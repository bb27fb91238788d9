/- The staged forms of functions 8, 10, 16, 44, 46, 47, 53, 54, 55, 56, 57, 58, 59, 62, 63, 64, 65, 66, 67, 68, 69, 70, 80, 81, 82, 85, 88, 90, 92, 93, 94, 97, 98, 101, 104, 111, 112, 116, and what calls of these answer. -/
import Derived.Test.YthmfjfblndophaaSx
namespace Go.AM
open Go.Proofs

noncomputable def f8_l1 (rec : Rec) (_k : Nat) (n0 : Int) (n1 : Int) (h0 : H) (v42 : Value) (n15 : Int) (ws0 : List Value) (h20 : H) : Option (Ex × List Value × H) :=
  asI .i64 (gv ws0 1) fun n16 =>
  ifB (lt n16 n15) (
    asK (gv ws0 1) fun n17 =>
    six v42 n17 1 fun b6 b7 =>
    ld Try.prog h20 25 b6 b7 fun v43 =>
    ld Try.prog h20 24 (nx h0) 0 fun v44 =>
    calls rec h20 18 [v44] fun v45 h21 =>
    calls rec h21 27 [v45, (.int .i64 n0), (.int .i64 n1), v43] fun v46 h22 =>
    ext v46 0 fun v47 =>
    asB v47 fun q7 =>
    ext v46 1 fun v48 =>
    asI .i64 v48 fun n18 =>
    ifB (not q7) (
      out .ret [(.bool false), gv ws0 1] h22) (
      ifB (not (eq n18 0)) (
        out .ret [(.bool false), gv ws0 1] h22) (
        asI .i64 (gv ws0 1) fun n19 =>
        out .normal [gv ws0 0, (.int .i64 (add .i64 n19 1))] h22))) (
    out (.exit 0) [gv ws0 0, gv ws0 1] h20)

noncomputable def f8 (rec : Rec) (k : Nat) (v0 : Value) (n0 : Int) (n1 : Int) (v1 : Value) (h0 : H) : Option (Value × H) :=
  bx h0 24 v0 fun h1 =>
  ld Try.prog h1 24 (nx h0) 0 fun v2 =>
  calls rec h1 18 [v2] fun v3 h2 =>
  calls rec h2 17 [v3, (.int .i64 n0), (.int .i64 n1)] fun v4 h3 =>
  ext v4 0 fun v5 =>
  ext v4 1 fun v6 =>
  asI .i64 v6 fun n2 =>
  ld Try.prog h3 24 (nx h0) 0 fun v7 =>
  calls rec h3 18 [v7] fun v8 h4 =>
  calls rec h4 19 [v8, (.int .i64 n0), (.int .i64 n1)] fun v9 h5 =>
  ext v9 0 fun v10 =>
  ext v9 1 fun v11 =>
  asI .i64 v11 fun n3 =>
  ld Try.prog h5 24 (nx h0) 0 fun v12 =>
  calls rec h5 18 [v12] fun v13 h6 =>
  calls rec h6 20 [v13, (.int .i64 n0), (.int .i64 n1)] fun v14 h7 =>
  ext v14 0 fun v15 =>
  ext v14 1 fun v16 =>
  asI .i64 v16 fun n4 =>
  ld Try.prog h7 24 (nx h0) 0 fun v17 =>
  calls rec h7 18 [v17] fun v18 h8 =>
  calls rec h8 45 [v18, (.int .i64 n0)] fun v19 h9 =>
  ext v19 0 fun v20 =>
  ext v19 1 fun v21 =>
  asI .i64 v21 fun n5 =>
  ld Try.prog h9 24 (nx h0) 0 fun v22 =>
  calls rec h9 18 [v22] fun v23 h10 =>
  calls rec h10 37 [v23] fun v24 h11 =>
  ext v24 0 fun v25 =>
  ext v24 1 fun v26 =>
  asI .i64 v26 fun n6 =>
  ld Try.prog h11 24 (nx h0) 0 fun v27 =>
  calls rec h11 18 [v27] fun v28 h12 =>
  calls rec h12 28 [v1] fun v29 h13 =>
  calls rec h13 27 [v28, (.int .i64 n0), (.int .i64 n1), v29] fun v30 h14 =>
  ext v30 0 fun v31 =>
  asB v31 fun q0 =>
  ext v30 1 fun v32 =>
  asI .i64 v32 fun n7 =>
  ifB (not (eq n7 0)) (
    ifB (eq n2 2) (
      ifB (eq n3 2) (
        ifB (eq n4 2) (
          ifB (eq n7 2) (
            calls rec h14 22 [] fun v33 h15 =>
            asB v33 fun q1 =>
            some ((.bool q1), h15)) (
            some ((.bool false), h14))) (
          some ((.bool false), h14))) (
        some ((.bool false), h14))) (
      some ((.bool false), h14))) (
    len v20 fun n8 =>
    ld Try.prog h14 3 (nx h0) 0 fun v34 =>
    asI .i64 v34 fun n9 =>
    ifB (not (eq n8 n9)) (
      ifB (eq n2 2) (
        ifB (eq n3 2) (
          ifB (eq n4 2) (
            ifB (eq n7 2) (
              calls rec h14 22 [] fun v35 h16 =>
              asB v35 fun q2 =>
              some ((.bool q2), h16)) (
              some ((.bool false), h14))) (
            some ((.bool false), h14))) (
          some ((.bool false), h14))) (
        some ((.bool false), h14))) (
      len v25 fun n10 =>
      ld Try.prog h14 3 (nx h0) 0 fun v36 =>
      asI .i64 v36 fun n11 =>
      ifB (not (eq n10 n11)) (
        ifB (eq n2 2) (
          ifB (eq n3 2) (
            ifB (eq n4 2) (
              ifB (eq n7 2) (
                calls rec h14 22 [] fun v37 h17 =>
                asB v37 fun q3 =>
                some ((.bool q3), h17)) (
                some ((.bool false), h14))) (
              some ((.bool false), h14))) (
            some ((.bool false), h14))) (
          some ((.bool false), h14))) (
        ifB (not (eq n5 0)) (
          some ((.bool false), h14)) (
          ifB (not (eq n6 0)) (
            some ((.bool false), h14)) (
            ifB (not (eq n2 n3)) (
              some ((.bool false), h14)) (
              ifB (not (eq n2 n4)) (
                some ((.bool false), h14)) (
                six v20 n1 1 fun b0 b1 =>
                ld Try.prog h14 3 b0 b1 fun v38 =>
                asI .i64 v38 fun n12 =>
                eqv Try.prog 4 (.bool (eq n2 0)) (.bool (le 0 n12)) fun q4 =>
                ifB (not q4) (
                  some ((.bool false), h14)) (
                  six v20 n1 1 fun b2 b3 =>
                  ld Try.prog h14 3 b2 b3 fun v39 =>
                  asI .i64 v39 fun n13 =>
                  six v25 n1 1 fun b4 b5 =>
                  ld Try.prog h14 3 b4 b5 fun v40 =>
                  asI .i64 v40 fun n14 =>
                  nn n0 (
                    eqv Try.prog 4 (.bool (le 0 n13)) (.bool (eq (and .i64 (shr .i64 n14 n0) 1) 1)) fun q5 =>
                    ifB (not q5) (
                      some ((.bool false), h14)) (
                      ifB (not (eq n2 0)) (
                        ifB (eq n2 4) (
                          ifB (not q0) (
                            calls rec h14 22 [] fun v41 h18 =>
                            asB v41 fun q6 =>
                            some ((.bool q6), h18)) (
                            some ((.bool false), h14))) (
                          some ((.bool false), h14))) (
                        bls Try.prog h14 58 3 [(0, v5), (1, v10), (2, v15)] fun v42 h19 =>
                        len v42 fun n15 =>
                        lp k (f8_l1 rec k n0 n1 h0 v42 n15) [(.bool false), (.int .i64 0)] h19 fun e0 ws1 h23 =>
                        onE e0 0 (
                          al h23 60 [.nilFunc] fun h24 =>
                          st Try.prog h24 60 (nx h23) 0 (.func (.func 46) #[] #[(pt (nx h0) 0)]) fun h25 =>
                          calls rec h25 47 [v5, (pt (nx h23) 0)] fun v49 h26 =>
                          asI .i64 v49 fun n20 =>
                          six v20 n1 1 fun b8 b9 =>
                          ld Try.prog h26 3 b8 b9 fun v50 =>
                          asI .i64 v50 fun n21 =>
                          ck (freq b8 (nx h25) (same h26 h25)) (
                            ifB (not (eq n20 n21)) (
                              some ((.bool false), h26)) (
                              ifB (not q0) (
                                calls rec h26 22 [] fun v51 h27 =>
                                asB v51 fun q8 =>
                                some ((.bool q8), h27)) (
                                calls rec h26 47 [v5, (pt (nx h23) 0)] fun v52 h28 =>
                                asI .i64 v52 fun n22 =>
                                calls rec h28 47 [v1, (pt (nx h23) 0)] fun v53 h29 =>
                                asI .i64 v53 fun n23 =>
                                ifB (le n22 n23) (
                                  len v10 fun n24 =>
                                  len v1 fun n25 =>
                                  ifB (le n24 n25) (
                                    calls rec h29 47 [v15, (pt (nx h23) 0)] fun v54 h30 =>
                                    asI .i64 v54 fun n26 =>
                                    ld Try.prog h30 60 (nx h23) 0 fun v55 =>
                                    ck (freq (nx h23) (nx h29) (same h30 h29)) (
                                      callsV rec h30 v55 [v15, (.int .i64 0)] fun v56 h31 =>
                                      asI .i64 v56 fun n27 =>
                                      calls rec h31 47 [v1, (pt (nx h23) 0)] fun v57 h32 =>
                                      asI .i64 v57 fun n28 =>
                                      ld Try.prog h32 60 (nx h23) 0 fun v58 =>
                                      ck (freq (nx h23) (nx h31) (same h32 h31)) (
                                        ck (freq (nx h23) (nx h30) (same h31 h30)) (
                                          ck (freq (nx h23) (nx h29) (same h30 h29)) (
                                            callsV rec h32 v58 [v1, (.int .i64 0)] fun v59 h33 =>
                                            asI .i64 v59 fun n29 =>
                                            ifB (le (sub .i64 n26 n27) (sub .i64 n28 n29)) (
                                              calls rec h33 22 [] fun v60 h34 =>
                                              asB v60 fun q9 =>
                                              some ((.bool q9), h34)) (
                                              some ((.bool false), h33))))))) (
                                    some ((.bool false), h29))) (
                                  some ((.bool false), h29)))))) (
                          onR e0 (
                            some (gv ws1 0, h23))))))))))))))

theorem e8 (rec : Rec) (k : Nat) (v0 : Value) (n0 : Int) (n1 : Int) (v1 : Value) (h : H) : bodyT Try.prog E0 SC (XC Try.prog rec k) 8 (Value × H) [.opq v0, .int .i64 n0, .int .i64 n1, .opq v1] h (fun v h => some (v, h)) = f8 rec k v0 n0 n1 v1 h := by kernel_rfl
theorem t8 {k : Nat} {v0 : Value} {n0 : Int} {n1 : Int} {v1 : Value} {h h1 : H} {v : Value} (hh : f8 rn k v0 n0 n1 v1 h = some (v, h1)) : rn 8 #[v0, .int .i64 n0, .int .i64 n1, v1] h = some (v, trunc Try.prog h h1 v) :=
  run_of_bodyT (args := [.opq v0, .int .i64 n0, .int .i64 n1, .opq v1]) rfl ((e8 _ _ _ _ _ _ _).trans hh)
theorem p8 {k : Nat} {v0 : Value} {n0 : Int} {n1 : Int} {v1 : Value} {h h1 : H} {v : Value} (hh : f8 rn k v0 n0 n1 v1 h = some (v, h1)) (hp : plainO v = true) (x : Ext h h1) : rn 8 #[v0, .int .i64 n0, .int .i64 n1, v1] h = some (v, h) := by rw [t8 hh, trunc_pure hp x]
theorem x8 {k : Nat} {v0 : Value} {n0 : Int} {n1 : Int} {v1 : Value} {h h1 : H} {v : Value} (hh : f8 rn k v0 n0 n1 v1 h = some (v, h1)) (hp : plainO v = false) : rn 8 #[v0, .int .i64 n0, .int .i64 n1, v1] h = some (v, h1) := by rw [t8 hh, trunc_not hp]

noncomputable def f10 (rec : Rec) (_k : Nat) (v0 : Value) (n0 : Int) (n1 : Int) (h0 : H) : Option (Value × H) :=
  bx h0 24 v0 fun h1 =>
  ld Try.prog h1 24 (nx h0) 0 fun v1 =>
  calls rec h1 18 [v1] fun v2 h2 =>
  calls rec h2 53 [v2, (.int .i64 n0), (.int .i64 n1)] fun v3 h3 =>
  ext v3 0 fun v4 =>
  asI .i64 v4 fun n2 =>
  ext v3 1 fun v5 =>
  asI .i64 v5 fun n3 =>
  ld Try.prog h3 24 (nx h0) 0 fun v6 =>
  calls rec h3 18 [v6] fun v7 h4 =>
  calls rec h4 54 [v7, (.int .i64 n0), (.int .i64 n1)] fun v8 h5 =>
  ext v8 0 fun v9 =>
  asI .i64 v9 fun n4 =>
  ext v8 1 fun v10 =>
  asI .i64 v10 fun n5 =>
  ld Try.prog h5 24 (nx h0) 0 fun v11 =>
  calls rec h5 21 [v11, (.int .i64 n0), (.int .i64 n1)] fun v12 h6 =>
  asB v12 fun q0 =>
  ifB (not q0) (
    ifB (eq n2 0) (
      ifB (eq n4 0) (
        ifB (eq n3 2) (
          ifB (eq n5 2) (
            calls rec h6 22 [] fun v13 h7 =>
            asB v13 fun q1 =>
            some ((.bool q1), h7)) (
            some ((.bool false), h6))) (
          some ((.bool false), h6))) (
        some ((.bool false), h6))) (
      some ((.bool false), h6))) (
    ld Try.prog h6 24 (nx h0) 0 fun v14 =>
    calls rec h6 55 [v14, (.int .i64 n0), (.int .i64 n1)] fun v15 h8 =>
    ext v15 0 fun v16 =>
    asI .i64 v16 fun n6 =>
    ext v15 1 fun v17 =>
    asI .i64 v17 fun n7 =>
    ld Try.prog h8 24 (nx h0) 0 fun v18 =>
    calls rec h8 56 [v18, (.int .i64 n0), (.int .i64 n1)] fun v19 h9 =>
    asI .i64 v19 fun n8 =>
    ifB (eq n2 n8) (
      ifB (eq n3 0) (
        ifB (eq n4 n6) (
          ifB (eq n5 n7) (
            calls rec h9 22 [] fun v20 h10 =>
            asB v20 fun q2 =>
            some ((.bool q2), h10)) (
            some ((.bool false), h9))) (
          some ((.bool false), h9))) (
        some ((.bool false), h9))) (
      some ((.bool false), h9)))

theorem e10 (rec : Rec) (k : Nat) (v0 : Value) (n0 : Int) (n1 : Int) (h : H) : bodyT Try.prog E0 SC (XC Try.prog rec k) 10 (Value × H) [.opq v0, .int .i64 n0, .int .i64 n1] h (fun v h => some (v, h)) = f10 rec k v0 n0 n1 h := by kernel_rfl
theorem t10 {k : Nat} {v0 : Value} {n0 : Int} {n1 : Int} {h h1 : H} {v : Value} (hh : f10 rn k v0 n0 n1 h = some (v, h1)) : rn 10 #[v0, .int .i64 n0, .int .i64 n1] h = some (v, trunc Try.prog h h1 v) :=
  run_of_bodyT (args := [.opq v0, .int .i64 n0, .int .i64 n1]) rfl ((e10 _ _ _ _ _ _).trans hh)
theorem p10 {k : Nat} {v0 : Value} {n0 : Int} {n1 : Int} {h h1 : H} {v : Value} (hh : f10 rn k v0 n0 n1 h = some (v, h1)) (hp : plainO v = true) (x : Ext h h1) : rn 10 #[v0, .int .i64 n0, .int .i64 n1] h = some (v, h) := by rw [t10 hh, trunc_pure hp x]
theorem x10 {k : Nat} {v0 : Value} {n0 : Int} {n1 : Int} {h h1 : H} {v : Value} (hh : f10 rn k v0 n0 n1 h = some (v, h1)) (hp : plainO v = false) : rn 10 #[v0, .int .i64 n0, .int .i64 n1] h = some (v, h1) := by rw [t10 hh, trunc_not hp]

noncomputable def f16_l1 (_rec : Rec) (_k : Nat) (n0 : Int) (v4 : Value) (v17 : Value) (v22 : Value) (v27 : Value) (n14 : Int) (ws0 : List Value) (h17 : H) : Option (Ex × List Value × H) :=
  asI .i64 (gv ws0 1) fun n15 =>
  ifB (lt n15 n14) (
    asK (gv ws0 1) fun n16 =>
    six v17 n16 1 fun b2 b3 =>
    ld Try.prog h17 3 b2 b3 fun v33 =>
    asI .i64 v33 fun n17 =>
    ifB (lt n17 0) (
      asK (gv ws0 1) fun n18 =>
      six v4 n18 1 fun b4 b5 =>
      ld Try.prog h17 3 b4 b5 fun v34 =>
      asI .i64 v34 fun n19 =>
      ifB (not (eq n19 (-1))) (
        out .ret [(.bool false), gv ws0 1] h17) (
        asK (gv ws0 1) fun n20 =>
        six v17 n20 1 fun b6 b7 =>
        ld Try.prog h17 3 b6 b7 fun v35 =>
        asI .i64 v35 fun n21 =>
        ifB (le 0 n21) (
          asK (gv ws0 1) fun n22 =>
          six v4 n22 1 fun b8 b9 =>
          ld Try.prog h17 3 b8 b9 fun v36 =>
          asI .i64 v36 fun n23 =>
          asK (gv ws0 1) fun n24 =>
          six v17 n24 1 fun b10 b11 =>
          ld Try.prog h17 3 b10 b11 fun v37 =>
          asI .i64 v37 fun n25 =>
          ifB (not (eq n23 (sub .i64 31 n25))) (
            out .ret [(.bool false), gv ws0 1] h17) (
            asK (gv ws0 1) fun n26 =>
            six v22 n26 1 fun b12 b13 =>
            ld Try.prog h17 3 b12 b13 fun v38 =>
            asI .i64 v38 fun n27 =>
            nn n0 (
              len v27 fun n28 =>
              six v27 (sub .i64 n28 1) 1 fun b14 b15 =>
              ld Try.prog h17 3 b14 b15 fun v39 =>
              asI .i64 v39 fun n29 =>
              asK (gv ws0 1) fun n30 =>
              nn n30 (
                ifB (not (eq (and .i64 (shr .i64 n27 n0) 1) (and .i64 (shr .i64 n29 n30) 1))) (
                  out .ret [(.bool false), gv ws0 1] h17) (
                  asI .i64 (gv ws0 1) fun n31 =>
                  out .normal [gv ws0 0, (.int .i64 (add .i64 n31 1))] h17))))) (
          asK (gv ws0 1) fun n32 =>
          six v22 n32 1 fun b16 b17 =>
          ld Try.prog h17 3 b16 b17 fun v40 =>
          asI .i64 v40 fun n33 =>
          nn n0 (
            len v27 fun n34 =>
            six v27 (sub .i64 n34 1) 1 fun b18 b19 =>
            ld Try.prog h17 3 b18 b19 fun v41 =>
            asI .i64 v41 fun n35 =>
            asK (gv ws0 1) fun n36 =>
            nn n36 (
              ifB (not (eq (and .i64 (shr .i64 n33 n0) 1) (and .i64 (shr .i64 n35 n36) 1))) (
                out .ret [(.bool false), gv ws0 1] h17) (
                asI .i64 (gv ws0 1) fun n37 =>
                out .normal [gv ws0 0, (.int .i64 (add .i64 n37 1))] h17)))))) (
      asK (gv ws0 1) fun n38 =>
      six v17 n38 1 fun b20 b21 =>
      ld Try.prog h17 3 b20 b21 fun v42 =>
      asI .i64 v42 fun n39 =>
      ifB (le 0 n39) (
        asK (gv ws0 1) fun n40 =>
        six v4 n40 1 fun b22 b23 =>
        ld Try.prog h17 3 b22 b23 fun v43 =>
        asI .i64 v43 fun n41 =>
        asK (gv ws0 1) fun n42 =>
        six v17 n42 1 fun b24 b25 =>
        ld Try.prog h17 3 b24 b25 fun v44 =>
        asI .i64 v44 fun n43 =>
        ifB (not (eq n41 (sub .i64 31 n43))) (
          out .ret [(.bool false), gv ws0 1] h17) (
          asK (gv ws0 1) fun n44 =>
          six v22 n44 1 fun b26 b27 =>
          ld Try.prog h17 3 b26 b27 fun v45 =>
          asI .i64 v45 fun n45 =>
          nn n0 (
            len v27 fun n46 =>
            six v27 (sub .i64 n46 1) 1 fun b28 b29 =>
            ld Try.prog h17 3 b28 b29 fun v46 =>
            asI .i64 v46 fun n47 =>
            asK (gv ws0 1) fun n48 =>
            nn n48 (
              ifB (not (eq (and .i64 (shr .i64 n45 n0) 1) (and .i64 (shr .i64 n47 n48) 1))) (
                out .ret [(.bool false), gv ws0 1] h17) (
                asI .i64 (gv ws0 1) fun n49 =>
                out .normal [gv ws0 0, (.int .i64 (add .i64 n49 1))] h17))))) (
        asK (gv ws0 1) fun n50 =>
        six v22 n50 1 fun b30 b31 =>
        ld Try.prog h17 3 b30 b31 fun v47 =>
        asI .i64 v47 fun n51 =>
        nn n0 (
          len v27 fun n52 =>
          six v27 (sub .i64 n52 1) 1 fun b32 b33 =>
          ld Try.prog h17 3 b32 b33 fun v48 =>
          asI .i64 v48 fun n53 =>
          asK (gv ws0 1) fun n54 =>
          nn n54 (
            ifB (not (eq (and .i64 (shr .i64 n51 n0) 1) (and .i64 (shr .i64 n53 n54) 1))) (
              out .ret [(.bool false), gv ws0 1] h17) (
              asI .i64 (gv ws0 1) fun n55 =>
              out .normal [gv ws0 0, (.int .i64 (add .i64 n55 1))] h17)))))) (
    out (.exit 0) [gv ws0 0, gv ws0 1] h17)

noncomputable def f16 (rec : Rec) (k : Nat) (v0 : Value) (n0 : Int) (h0 : H) : Option (Value × H) :=
  bx h0 24 v0 fun h1 =>
  ld Try.prog h1 24 (nx h0) 0 fun v1 =>
  calls rec h1 18 [v1] fun v2 h2 =>
  calls rec h2 62 [v2, (.int .i64 n0)] fun v3 h3 =>
  ext v3 0 fun v4 =>
  ext v3 1 fun v5 =>
  asI .i64 v5 fun n1 =>
  ld Try.prog h3 24 (nx h0) 0 fun v6 =>
  calls rec h3 18 [v6] fun v7 h4 =>
  calls rec h4 57 [v7] fun v8 h5 =>
  ext v8 0 fun v9 =>
  ext v8 1 fun v10 =>
  asI .i64 v10 fun n2 =>
  al h5 31 [(.int .i64 0), (.slice none 0 0)] fun h6 =>
  st Try.prog h6 31 (nx h5) 0 v9 fun h7 =>
  ifB (not (eq n1 0)) (
    ifB (eq n1 2) (
      ifB (eq n2 0) (
        calls rec h7 22 [] fun v11 h8 =>
        asB v11 fun q0 =>
        some ((.bool q0), h8)) (
        ifB (eq n2 2) (
          calls rec h7 22 [] fun v12 h9 =>
          asB v12 fun q1 =>
          some ((.bool q1), h9)) (
          some ((.bool false), h7)))) (
      some ((.bool false), h7))) (
    ifB (not (eq n2 0)) (
      ifB (eq n1 2) (
        ifB (eq n2 0) (
          calls rec h7 22 [] fun v13 h10 =>
          asB v13 fun q2 =>
          some ((.bool q2), h10)) (
          ifB (eq n2 2) (
            calls rec h7 22 [] fun v14 h11 =>
            asB v14 fun q3 =>
            some ((.bool q3), h11)) (
            some ((.bool false), h7)))) (
        some ((.bool false), h7))) (
      ld Try.prog h7 31 (nx h5) 0 fun v15 =>
      calls rec h7 45 [v15, (.int .i64 n0)] fun v16 h12 =>
      ext v16 0 fun v17 =>
      ext v16 1 fun v18 =>
      asI .i64 v18 fun n3 =>
      ld Try.prog h12 24 (nx h0) 0 fun v19 =>
      calls rec h12 18 [v19] fun v20 h13 =>
      calls rec h13 37 [v20] fun v21 h14 =>
      ext v21 0 fun v22 =>
      ext v21 1 fun v23 =>
      asI .i64 v23 fun n4 =>
      ld Try.prog h14 24 (nx h0) 0 fun v24 =>
      calls rec h14 18 [v24] fun v25 h15 =>
      calls rec h15 38 [v25, (.int .i64 n0)] fun v26 h16 =>
      ext v26 0 fun v27 =>
      ext v26 1 fun v28 =>
      asI .i64 v28 fun n5 =>
      ifB (not (eq n3 0)) (
        some ((.bool false), h16)) (
        ifB (not (eq n4 0)) (
          some ((.bool false), h16)) (
          ifB (not (eq n5 0)) (
            some ((.bool false), h16)) (
            len v4 fun n6 =>
            ld Try.prog h16 3 (nx h0) 0 fun v29 =>
            asI .i64 v29 fun n7 =>
            ifB (not (eq n6 n7)) (
              some ((.bool false), h16)) (
              len v17 fun n8 =>
              ld Try.prog h16 3 (nx h0) 0 fun v30 =>
              asI .i64 v30 fun n9 =>
              ifB (not (eq n8 n9)) (
                some ((.bool false), h16)) (
                len v22 fun n10 =>
                ld Try.prog h16 3 (nx h0) 0 fun v31 =>
                asI .i64 v31 fun n11 =>
                ifB (not (eq n10 n11)) (
                  some ((.bool false), h16)) (
                  len v27 fun n12 =>
                  ifB (eq n12 0) (
                    some ((.bool false), h16)) (
                    six v27 0 1 fun b0 b1 =>
                    ld Try.prog h16 3 b0 b1 fun v32 =>
                    asI .i64 v32 fun n13 =>
                    nn n0 (
                      ifB (not (eq n13 (shl .i64 1 n0))) (
                        some ((.bool false), h16)) (
                        len v4 fun n14 =>
                        lp k (f16_l1 rec k n0 v4 v17 v22 v27 n14) [(.bool false), (.int .i64 0)] h16 fun e0 ws1 h18 =>
                        onE e0 0 (
                          ld Try.prog h18 31 (nx h5) 0 fun v49 =>
                          calls rec h18 57 [v49] fun v50 h19 =>
                          ext v50 0 fun v51 =>
                          ext v50 1 fun v52 =>
                          asI .i64 v52 fun n56 =>
                          al h19 31 [(.int .i64 0), (.slice none 0 0)] fun h20 =>
                          st Try.prog h20 31 (nx h19) 0 v51 fun h21 =>
                          ifB (eq n56 0) (
                            ld Try.prog h21 29 (nx h19) (off 0 1) fun v53 =>
                            len v53 fun n57 =>
                            ld Try.prog h21 22 (nx h0) (off 0 1) fun v54 =>
                            len v54 fun n58 =>
                            ifB (eq n57 n58) (
                              calls rec h21 22 [] fun v55 h22 =>
                              asB v55 fun q4 =>
                              some ((.bool q4), h22)) (
                              some ((.bool false), h21))) (
                            some ((.bool false), h21))) (
                          onR e0 (
                            some (gv ws1 0, h18))))))))))))))

theorem e16 (rec : Rec) (k : Nat) (v0 : Value) (n0 : Int) (h : H) : bodyT Try.prog E0 SC (XC Try.prog rec k) 16 (Value × H) [.opq v0, .int .i64 n0] h (fun v h => some (v, h)) = f16 rec k v0 n0 h := by kernel_rfl
theorem t16 {k : Nat} {v0 : Value} {n0 : Int} {h h1 : H} {v : Value} (hh : f16 rn k v0 n0 h = some (v, h1)) : rn 16 #[v0, .int .i64 n0] h = some (v, trunc Try.prog h h1 v) :=
  run_of_bodyT (args := [.opq v0, .int .i64 n0]) rfl ((e16 _ _ _ _ _).trans hh)
theorem p16 {k : Nat} {v0 : Value} {n0 : Int} {h h1 : H} {v : Value} (hh : f16 rn k v0 n0 h = some (v, h1)) (hp : plainO v = true) (x : Ext h h1) : rn 16 #[v0, .int .i64 n0] h = some (v, h) := by rw [t16 hh, trunc_pure hp x]
theorem x16 {k : Nat} {v0 : Value} {n0 : Int} {h h1 : H} {v : Value} (hh : f16 rn k v0 n0 h = some (v, h1)) (hp : plainO v = false) : rn 16 #[v0, .int .i64 n0] h = some (v, h1) := by rw [t16 hh, trunc_not hp]

noncomputable def f44 (rec : Rec) (_k : Nat) (v0 : Value) (n0 : Int) (h0 : H) : Option (Value × H) :=
  calls rec h0 80 [v0, (.int .i64 n0)] fun v1 h1 =>
  asI .i64 v1 fun n1 =>
  some ((.bool (le 0 n1)), h1)

theorem e44 (rec : Rec) (k : Nat) (v0 : Value) (n0 : Int) (h : H) : bodyT Try.prog E0 SC (XC Try.prog rec k) 44 (Value × H) [.opq v0, .int .i64 n0] h (fun v h => some (v, h)) = f44 rec k v0 n0 h := by kernel_rfl
theorem t44 {k : Nat} {v0 : Value} {n0 : Int} {h h1 : H} {v : Value} (hh : f44 rn k v0 n0 h = some (v, h1)) : rn 44 #[v0, .int .i64 n0] h = some (v, trunc Try.prog h h1 v) :=
  run_of_bodyT (args := [.opq v0, .int .i64 n0]) rfl ((e44 _ _ _ _ _).trans hh)
theorem p44 {k : Nat} {v0 : Value} {n0 : Int} {h h1 : H} {v : Value} (hh : f44 rn k v0 n0 h = some (v, h1)) (hp : plainO v = true) (x : Ext h h1) : rn 44 #[v0, .int .i64 n0] h = some (v, h) := by rw [t44 hh, trunc_pure hp x]
theorem x44 {k : Nat} {v0 : Value} {n0 : Int} {h h1 : H} {v : Value} (hh : f44 rn k v0 n0 h = some (v, h1)) (hp : plainO v = false) : rn 44 #[v0, .int .i64 n0] h = some (v, h1) := by rw [t44 hh, trunc_not hp]

noncomputable def f46 (_rec : Rec) (_k : Nat) (v0 : Value) (n0 : Int) (v1 : Value) (h0 : H) : Option (Value × H) :=
  asP v1 fun b0 b1 =>
  ld Try.prog h0 22 b0 (off b1 1) fun v2 =>
  six v0 n0 1 fun b2 b3 =>
  ld Try.prog h0 3 b2 b3 fun v3 =>
  asI .i64 v3 fun n1 =>
  six v2 n1 3 fun b4 b5 =>
  ld Try.prog h0 3 b4 (off b5 2) fun v4 =>
  asI .i64 v4 fun n2 =>
  some ((.int .i64 n2), h0)

theorem e46 (rec : Rec) (k : Nat) (v0 : Value) (n0 : Int) (v1 : Value) (h : H) : bodyT Try.prog E0 SC (XC Try.prog rec k) 46 (Value × H) [.opq v0, .int .i64 n0, .opq v1] h (fun v h => some (v, h)) = f46 rec k v0 n0 v1 h := by kernel_rfl
theorem t46 {k : Nat} {v0 : Value} {n0 : Int} {v1 : Value} {h h1 : H} {v : Value} (hh : f46 rn k v0 n0 v1 h = some (v, h1)) : rn 46 #[v0, .int .i64 n0, v1] h = some (v, trunc Try.prog h h1 v) :=
  run_of_bodyT (args := [.opq v0, .int .i64 n0, .opq v1]) rfl ((e46 _ _ _ _ _ _).trans hh)
theorem p46 {k : Nat} {v0 : Value} {n0 : Int} {v1 : Value} {h h1 : H} {v : Value} (hh : f46 rn k v0 n0 v1 h = some (v, h1)) (hp : plainO v = true) (x : Ext h h1) : rn 46 #[v0, .int .i64 n0, v1] h = some (v, h) := by rw [t46 hh, trunc_pure hp x]
theorem x46 {k : Nat} {v0 : Value} {n0 : Int} {v1 : Value} {h h1 : H} {v : Value} (hh : f46 rn k v0 n0 v1 h = some (v, h1)) (hp : plainO v = false) : rn 46 #[v0, .int .i64 n0, v1] h = some (v, h1) := by rw [t46 hh, trunc_not hp]

noncomputable def f47 (rec : Rec) (_k : Nat) (v0 : Value) (v1 : Value) (h0 : H) : Option (Value × H) :=
  asP v1 fun b0 b1 =>
  ld Try.prog h0 60 b0 b1 fun v2 =>
  len v0 fun n0 =>
  callsV rec h0 v2 [v0, (.int .i64 (sub .i64 n0 1))] fun v3 h1 =>
  asI .i64 v3 fun n1 =>
  some ((.int .i64 n1), h1)

theorem e47 (rec : Rec) (k : Nat) (v0 : Value) (v1 : Value) (h : H) : bodyT Try.prog E0 SC (XC Try.prog rec k) 47 (Value × H) [.opq v0, .opq v1] h (fun v h => some (v, h)) = f47 rec k v0 v1 h := by kernel_rfl
theorem t47 {k : Nat} {v0 : Value} {v1 : Value} {h h1 : H} {v : Value} (hh : f47 rn k v0 v1 h = some (v, h1)) : rn 47 #[v0, v1] h = some (v, trunc Try.prog h h1 v) :=
  run_of_bodyT (args := [.opq v0, .opq v1]) rfl ((e47 _ _ _ _ _).trans hh)
theorem p47 {k : Nat} {v0 : Value} {v1 : Value} {h h1 : H} {v : Value} (hh : f47 rn k v0 v1 h = some (v, h1)) (hp : plainO v = true) (x : Ext h h1) : rn 47 #[v0, v1] h = some (v, h) := by rw [t47 hh, trunc_pure hp x]
theorem x47 {k : Nat} {v0 : Value} {v1 : Value} {h h1 : H} {v : Value} (hh : f47 rn k v0 v1 h = some (v, h1)) (hp : plainO v = false) : rn 47 #[v0, v1] h = some (v, h1) := by rw [t47 hh, trunc_not hp]

noncomputable def f53_l1 (_rec : Rec) (_k : Nat) (h7 : H) (n7 : Int) (ws0 : List Value) (h12 : H) : Option (Ex × List Value × H) :=
  asI .i64 (gv ws0 0) fun n8 =>
  ifB (lt n8 n7) (
    ld Try.prog h12 98 (nx h7) 0 fun _ =>
    none) (
    out (.exit 0) [gv ws0 0] h12)

noncomputable def f53 (rec : Rec) (k : Nat) (v0 : Value) (n0 : Int) (n1 : Int) (h0 : H) : Option (Value × H) :=
  bx h0 31 v0 fun h1 =>
  bx h1 3 (.int .i64 n0) fun h2 =>
  bx h2 3 (.int .i64 n1) fun h3 =>
  ld Try.prog h3 31 (nx h0) 0 fun v1 =>
  ld Try.prog h3 3 (nx h1) 0 fun v2 =>
  asI .i64 v2 fun n2 =>
  ld Try.prog h3 3 (nx h2) 0 fun v3 =>
  asI .i64 v3 fun n3 =>
  calls rec h3 82 [v1, (.int .i64 n2), (.int .i64 n3)] fun v4 h4 =>
  asB v4 fun q0 =>
  ifB (not q0) (
    some ((.tuple #[(.int .i64 0), (.int .i64 2)]), h4)) (
    al h4 3 [(.int .i64 0)] fun h5 =>
    st Try.prog h5 3 (nx h4) 0 (.int .i64 0) fun h6 =>
    mkm h6 fun h7 =>
    al h7 98 [(.map none)] fun h8 =>
    st Try.prog h8 98 (nx h7) 0 (.map (some (nx h6))) fun h9 =>
    ld Try.prog h9 31 (nx h0) 0 fun v5 =>
    ld Try.prog h9 3 (nx h1) 0 fun v6 =>
    asI .i64 v6 fun n4 =>
    ld Try.prog h9 3 (nx h2) 0 fun v7 =>
    asI .i64 v7 fun n5 =>
    calls rec h9 85 [v5, (.int .i64 n4), (.int .i64 n5), (.func (.func 88) #[] #[(pt (nx h4) 0), (pt (nx h0) 0), (pt (nx h7) 0), (pt (nx h1) 0), (pt (nx h2) 0)])] fun _ h10 =>
    ld Try.prog h10 3 (nx h0) 0 fun v9 =>
    asI .i64 v9 fun n6 =>
    nn n6 (
      mks Try.prog h10 25 (shl .i64 1 n6) (shl .i64 1 n6) fun v10 h11 =>
      len v10 fun n7 =>
      lp k (f53_l1 rec k h7 n7) [(.int .i64 0)] h11 fun e0 _ h13 =>
      onE e0 0 (
        ld Try.prog h13 3 (nx h4) 0 fun v12 =>
        asI .i64 v12 fun n9 =>
        len v10 fun n10 =>
        six v10 (sub .i64 n10 1) 1 fun b0 b1 =>
        ld Try.prog h13 3 b0 b1 fun v13 =>
        asI .i64 v13 fun n11 =>
        some ((.tuple #[(.int .i64 (add .i64 n9 n11)), (.int .i64 0)]), h13)) (
        none)))

theorem e53 (rec : Rec) (k : Nat) (v0 : Value) (n0 : Int) (n1 : Int) (h : H) : bodyT Try.prog E0 SC (XC Try.prog rec k) 53 (Value × H) [.opq v0, .int .i64 n0, .int .i64 n1] h (fun v h => some (v, h)) = f53 rec k v0 n0 n1 h := by kernel_rfl
theorem t53 {k : Nat} {v0 : Value} {n0 : Int} {n1 : Int} {h h1 : H} {v : Value} (hh : f53 rn k v0 n0 n1 h = some (v, h1)) : rn 53 #[v0, .int .i64 n0, .int .i64 n1] h = some (v, trunc Try.prog h h1 v) :=
  run_of_bodyT (args := [.opq v0, .int .i64 n0, .int .i64 n1]) rfl ((e53 _ _ _ _ _ _).trans hh)
theorem p53 {k : Nat} {v0 : Value} {n0 : Int} {n1 : Int} {h h1 : H} {v : Value} (hh : f53 rn k v0 n0 n1 h = some (v, h1)) (hp : plainO v = true) (x : Ext h h1) : rn 53 #[v0, .int .i64 n0, .int .i64 n1] h = some (v, h) := by rw [t53 hh, trunc_pure hp x]
theorem x53 {k : Nat} {v0 : Value} {n0 : Int} {n1 : Int} {h h1 : H} {v : Value} (hh : f53 rn k v0 n0 n1 h = some (v, h1)) (hp : plainO v = false) : rn 53 #[v0, .int .i64 n0, .int .i64 n1] h = some (v, h1) := by rw [t53 hh, trunc_not hp]

noncomputable def f54_l1 (rec : Rec) (_k : Nat) (h0 : H) (h1 : H) (h2 : H) (n5 : Int) (ws0 : List Value) (h6 : H) : Option (Ex × List Value × H) :=
  asI .i64 (gv ws0 1) fun n6 =>
  ifB (lt n6 (shl .i64 1 n5)) (
    ld Try.prog h6 3 (nx h1) 0 fun v9 =>
    asI .i64 v9 fun n7 =>
    asI .i64 (gv ws0 1) fun n8 =>
    nn n7 (
      ifB (eq (and .i64 (shr .i64 n8 n7) 1) 0) (
        ld Try.prog h6 3 (nx h2) 0 fun v10 =>
        asI .i64 v10 fun n9 =>
        asI .i64 (gv ws0 1) fun n10 =>
        nn n9 (
          ifB (eq (and .i64 (shr .i64 n10 n9) 1) 0) (
            asI .i64 (gv ws0 1) fun n11 =>
            calls rec h6 91 [(.int .u64 (wr .u64 n11))] fun v11 h7 =>
            asI .i64 v11 fun n12 =>
            asI .i64 (gv ws0 0) fun n13 =>
            calls rec h7 91 [(.int .u64 (wr .u64 n13))] fun v12 h8 =>
            asI .i64 v12 fun n14 =>
            ifB (lt n12 n14) (
              ld Try.prog h8 31 (nx h0) 0 fun v13 =>
              ld Try.prog h8 3 (nx h1) 0 fun v14 =>
              asI .i64 v14 fun n15 =>
              calls rec h8 81 [v13, (.int .i64 n15), gv ws0 1] fun v15 h9 =>
              ld Try.prog h9 3 (nx h2) 0 fun v16 =>
              asI .i64 v16 fun n16 =>
              ck (freq (nx h2) (nx h8) (same h9 h8)) (
                six v15 n16 1 fun b0 b1 =>
                ld Try.prog h9 3 b0 b1 fun v17 =>
                asI .i64 v17 fun n17 =>
                ifB (eq n17 (-1)) (
                  asI .i64 (gv ws0 1) fun n18 =>
                  out .normal [gv ws0 1, (.int .i64 (add .i64 n18 1))] h9) (
                  asI .i64 (gv ws0 1) fun n19 =>
                  out .normal [gv ws0 0, (.int .i64 (add .i64 n19 1))] h9))) (
              asI .i64 (gv ws0 1) fun n20 =>
              out .normal [gv ws0 0, (.int .i64 (add .i64 n20 1))] h8)) (
            asI .i64 (gv ws0 1) fun n21 =>
            out .normal [gv ws0 0, (.int .i64 (add .i64 n21 1))] h6))) (
        asI .i64 (gv ws0 1) fun n22 =>
        out .normal [gv ws0 0, (.int .i64 (add .i64 n22 1))] h6))) (
    out (.exit 0) [gv ws0 0, gv ws0 1] h6)

noncomputable def f54 (rec : Rec) (k : Nat) (v0 : Value) (n0 : Int) (n1 : Int) (h0 : H) : Option (Value × H) :=
  bx h0 31 v0 fun h1 =>
  bx h1 3 (.int .i64 n0) fun h2 =>
  bx h2 3 (.int .i64 n1) fun h3 =>
  ld Try.prog h3 31 (nx h0) 0 fun v1 =>
  ld Try.prog h3 3 (nx h1) 0 fun v2 =>
  asI .i64 v2 fun n2 =>
  ld Try.prog h3 3 (nx h2) 0 fun v3 =>
  asI .i64 v3 fun n3 =>
  calls rec h3 82 [v1, (.int .i64 n2), (.int .i64 n3)] fun v4 h4 =>
  asB v4 fun q0 =>
  ifB (not q0) (
    some ((.tuple #[(.int .i64 0), (.int .i64 2)]), h4)) (
    ld Try.prog h4 29 (nx h0) (off 0 1) fun v5 =>
    calls rec h4 89 [v5, (.func (.func 90) #[] #[(pt (nx h1) 0), (pt (nx h2) 0)])] fun v6 h5 =>
    asB v6 fun q1 =>
    ifB q1 (
      some ((.tuple #[(.int .i64 0), (.int .i64 4)]), h5)) (
      ld Try.prog h5 3 (nx h0) 0 fun v7 =>
      asI .i64 v7 fun n4 =>
      nn n4 (
        ld Try.prog h5 3 (nx h0) 0 fun v8 =>
        asI .i64 v8 fun n5 =>
        nn n5 (
          lp k (f54_l1 rec k h0 h1 h2 n5) [(.int .i64 (sub .i64 (shl .i64 1 n4) 1)), (.int .i64 0)] h5 fun e0 ws1 h10 =>
          onE e0 0 (
            some ((.tuple #[gv ws1 0, (.int .i64 0)]), h10)) (
            none)))))

theorem e54 (rec : Rec) (k : Nat) (v0 : Value) (n0 : Int) (n1 : Int) (h : H) : bodyT Try.prog E0 SC (XC Try.prog rec k) 54 (Value × H) [.opq v0, .int .i64 n0, .int .i64 n1] h (fun v h => some (v, h)) = f54 rec k v0 n0 n1 h := by kernel_rfl
theorem t54 {k : Nat} {v0 : Value} {n0 : Int} {n1 : Int} {h h1 : H} {v : Value} (hh : f54 rn k v0 n0 n1 h = some (v, h1)) : rn 54 #[v0, .int .i64 n0, .int .i64 n1] h = some (v, trunc Try.prog h h1 v) :=
  run_of_bodyT (args := [.opq v0, .int .i64 n0, .int .i64 n1]) rfl ((e54 _ _ _ _ _ _).trans hh)
theorem p54 {k : Nat} {v0 : Value} {n0 : Int} {n1 : Int} {h h1 : H} {v : Value} (hh : f54 rn k v0 n0 n1 h = some (v, h1)) (hp : plainO v = true) (x : Ext h h1) : rn 54 #[v0, .int .i64 n0, .int .i64 n1] h = some (v, h) := by rw [t54 hh, trunc_pure hp x]
theorem x54 {k : Nat} {v0 : Value} {n0 : Int} {n1 : Int} {h h1 : H} {v : Value} (hh : f54 rn k v0 n0 n1 h = some (v, h1)) (hp : plainO v = false) : rn 54 #[v0, .int .i64 n0, .int .i64 n1] h = some (v, h1) := by rw [t54 hh, trunc_not hp]

noncomputable def f55_l2 (_rec : Rec) (_k : Nat)  (ws1 : List Value) (h4 : H) : Option (Ex × List Value × H) :=
  asI .i64 (gv ws1 1) fun n5 =>
  ifB (lt 0 n5) (
    asI .i64 (gv ws1 0) fun n6 =>
    asI .i64 (gv ws1 1) fun n7 =>
    asI .i64 (gv ws1 1) fun n8 =>
    out .normal [(.int .i64 (add .i64 n6 1)), (.int .i64 (and .i64 n8 (sub .i64 n7 1)))] h4) (
    out (.exit 2) [gv ws1 0, gv ws1 1] h4)

noncomputable def f55_l3 (_rec : Rec) (_k : Nat) (v3 : Value) (ws0 : List Value) (n13 : Int) (ws3 : List Value) (h6 : H) : Option (Ex × List Value × H) :=
  asI .i64 (gv ws3 1) fun n14 =>
  ifB (lt n14 n13) (
    asK (gv ws3 1) fun n15 =>
    six v3 n15 1 fun b0 b1 =>
    ld Try.prog h6 3 b0 b1 fun v6 =>
    asI .i64 v6 fun n16 =>
    asB (gv ws3 0) fun q0 =>
    ifB q0 (
      asI .i64 (gv ws0 2) fun n17 =>
      asI .i64 (gv ws3 1) fun n18 =>
      out .normal [(.bool (not (eq (and .i64 n16 n17) 0))), (.int .i64 (add .i64 n18 1))] h6) (
      asI .i64 (gv ws3 1) fun n19 =>
      out .normal [(.bool false), (.int .i64 (add .i64 n19 1))] h6)) (
    out (.exit 4) [gv ws3 0, gv ws3 1] h6)

noncomputable def f55_l4 (_rec : Rec) (_k : Nat) (v3 : Value) (ws0 : List Value) (n22 : Int) (ws5 : List Value) (h8 : H) : Option (Ex × List Value × H) :=
  asI .i64 (gv ws5 1) fun n23 =>
  ifB (lt n23 n22) (
    asK (gv ws5 1) fun n24 =>
    six v3 n24 1 fun b2 b3 =>
    ld Try.prog h8 3 b2 b3 fun v7 =>
    asI .i64 v7 fun n25 =>
    asB (gv ws5 0) fun q2 =>
    ifB q2 (
      asI .i64 (gv ws0 2) fun n26 =>
      asI .i64 (gv ws5 1) fun n27 =>
      out .normal [(.bool (not (eq (and .i64 n25 n26) 0))), (.int .i64 (add .i64 n27 1))] h8) (
      asI .i64 (gv ws5 1) fun n28 =>
      out .normal [(.bool false), (.int .i64 (add .i64 n28 1))] h8)) (
    out (.exit 4) [gv ws5 0, gv ws5 1] h8)

noncomputable def f55_l5 (_rec : Rec) (_k : Nat) (v3 : Value) (ws0 : List Value) (n31 : Int) (ws7 : List Value) (h10 : H) : Option (Ex × List Value × H) :=
  asI .i64 (gv ws7 1) fun n32 =>
  ifB (lt n32 n31) (
    asK (gv ws7 1) fun n33 =>
    six v3 n33 1 fun b4 b5 =>
    ld Try.prog h10 3 b4 b5 fun v8 =>
    asI .i64 v8 fun n34 =>
    asB (gv ws7 0) fun q4 =>
    ifB q4 (
      asI .i64 (gv ws0 2) fun n35 =>
      asI .i64 (gv ws7 1) fun n36 =>
      out .normal [(.bool (not (eq (and .i64 n34 n35) 0))), (.int .i64 (add .i64 n36 1))] h10) (
      asI .i64 (gv ws7 1) fun n37 =>
      out .normal [(.bool false), (.int .i64 (add .i64 n37 1))] h10)) (
    out (.exit 4) [gv ws7 0, gv ws7 1] h10)

noncomputable def f55_l1 (rec : Rec) (k : Nat) (n0 : Int) (n1 : Int) (v3 : Value) (n3 : Int) (ws0 : List Value) (h3 : H) : Option (Ex × List Value × H) :=
  asI .i64 (gv ws0 2) fun n4 =>
  ifB (lt n4 (shl .i64 1 n3)) (
    lp k (f55_l2 rec k) [(.int .i64 0), gv ws0 2] h3 fun e0 ws2 h5 =>
    onE e0 2 (
      asI .i64 (gv ws2 0) fun n9 =>
      asI .i64 (gv ws0 1) fun n10 =>
      ifB (lt n9 n10) (
        asI .i64 (gv ws0 2) fun n11 =>
        nn n0 (
          ifB (eq (and .i64 (shr .i64 n11 n0) 1) 0) (
            asI .i64 (gv ws0 2) fun n12 =>
            nn n1 (
              len v3 fun n13 =>
              lp k (f55_l3 rec k v3 ws0 n13) [(.bool (eq (and .i64 (shr .i64 n12 n1) 1) 0)), (.int .i64 0)] h5 fun e1 ws4 h7 =>
              onE e1 4 (
                asB (gv ws4 0) fun q1 =>
                ifB q1 (
                  asI .i64 (gv ws0 2) fun n20 =>
                  out .normal [gv ws0 2, gv ws2 0, (.int .i64 (add .i64 n20 1))] h7) (
                  asI .i64 (gv ws0 2) fun n21 =>
                  out .normal [gv ws0 0, gv ws0 1, (.int .i64 (add .i64 n21 1))] h7)) (
                none))) (
            len v3 fun n22 =>
            lp k (f55_l4 rec k v3 ws0 n22) [(.bool false), (.int .i64 0)] h5 fun e2 ws6 h9 =>
            onE e2 4 (
              asB (gv ws6 0) fun q3 =>
              ifB q3 (
                asI .i64 (gv ws0 2) fun n29 =>
                out .normal [gv ws0 2, gv ws2 0, (.int .i64 (add .i64 n29 1))] h9) (
                asI .i64 (gv ws0 2) fun n30 =>
                out .normal [gv ws0 0, gv ws0 1, (.int .i64 (add .i64 n30 1))] h9)) (
              none)))) (
        len v3 fun n31 =>
        lp k (f55_l5 rec k v3 ws0 n31) [(.bool false), (.int .i64 0)] h5 fun e3 ws8 h11 =>
        onE e3 4 (
          asB (gv ws8 0) fun q5 =>
          ifB q5 (
            asI .i64 (gv ws0 2) fun n38 =>
            out .normal [gv ws0 2, gv ws2 0, (.int .i64 (add .i64 n38 1))] h11) (
            asI .i64 (gv ws0 2) fun n39 =>
            out .normal [gv ws0 0, gv ws0 1, (.int .i64 (add .i64 n39 1))] h11)) (
          none))) (
      none)) (
    out (.exit 0) [gv ws0 0, gv ws0 1, gv ws0 2] h3)

noncomputable def f55 (rec : Rec) (k : Nat) (v0 : Value) (n0 : Int) (n1 : Int) (h0 : H) : Option (Value × H) :=
  bx h0 24 v0 fun h1 =>
  ld Try.prog h1 24 (nx h0) 0 fun v1 =>
  calls rec h1 92 [v1, (.int .i64 n0), (.int .i64 n1)] fun v2 h2 =>
  ext v2 0 fun v3 =>
  ext v2 1 fun v4 =>
  asI .i64 v4 fun n2 =>
  ifB (lt 0 n2) (
    some ((.tuple #[(.int .i64 0), (.int .i64 4)]), h2)) (
    ld Try.prog h2 3 (nx h0) 0 fun v5 =>
    asI .i64 v5 fun n3 =>
    nn n3 (
      lp k (f55_l1 rec k n0 n1 v3 n3) [(.int .i64 0), (.int .i64 99), (.int .i64 0)] h2 fun e4 ws9 h12 =>
      onE e4 0 (
        some ((.tuple #[gv ws9 0, (.int .i64 0)]), h12)) (
        none)))

theorem e55 (rec : Rec) (k : Nat) (v0 : Value) (n0 : Int) (n1 : Int) (h : H) : bodyT Try.prog E0 SC (XC Try.prog rec k) 55 (Value × H) [.opq v0, .int .i64 n0, .int .i64 n1] h (fun v h => some (v, h)) = f55 rec k v0 n0 n1 h := by kernel_rfl
theorem t55 {k : Nat} {v0 : Value} {n0 : Int} {n1 : Int} {h h1 : H} {v : Value} (hh : f55 rn k v0 n0 n1 h = some (v, h1)) : rn 55 #[v0, .int .i64 n0, .int .i64 n1] h = some (v, trunc Try.prog h h1 v) :=
  run_of_bodyT (args := [.opq v0, .int .i64 n0, .int .i64 n1]) rfl ((e55 _ _ _ _ _ _).trans hh)
theorem p55 {k : Nat} {v0 : Value} {n0 : Int} {n1 : Int} {h h1 : H} {v : Value} (hh : f55 rn k v0 n0 n1 h = some (v, h1)) (hp : plainO v = true) (x : Ext h h1) : rn 55 #[v0, .int .i64 n0, .int .i64 n1] h = some (v, h) := by rw [t55 hh, trunc_pure hp x]
theorem x55 {k : Nat} {v0 : Value} {n0 : Int} {n1 : Int} {h h1 : H} {v : Value} (hh : f55 rn k v0 n0 n1 h = some (v, h1)) (hp : plainO v = false) : rn 55 #[v0, .int .i64 n0, .int .i64 n1] h = some (v, h1) := by rw [t55 hh, trunc_not hp]

noncomputable def f56 (rec : Rec) (_k : Nat) (v0 : Value) (n0 : Int) (n1 : Int) (h0 : H) : Option (Value × H) :=
  bx h0 24 v0 fun h1 =>
  ld Try.prog h1 24 (nx h0) 0 fun v1 =>
  calls rec h1 92 [v1, (.int .i64 n0), (.int .i64 n1)] fun v2 h2 =>
  ext v2 0 fun v3 =>
  ext v2 1 fun v4 =>
  asI .i64 v4 fun n2 =>
  calls rec h2 93 [v3, (.int .i64 0)] fun v5 h3 =>
  asI .i64 v5 fun n3 =>
  some ((.int .i64 (add .i64 n2 n3)), h3)

theorem e56 (rec : Rec) (k : Nat) (v0 : Value) (n0 : Int) (n1 : Int) (h : H) : bodyT Try.prog E0 SC (XC Try.prog rec k) 56 (Value × H) [.opq v0, .int .i64 n0, .int .i64 n1] h (fun v h => some (v, h)) = f56 rec k v0 n0 n1 h := by kernel_rfl
theorem t56 {k : Nat} {v0 : Value} {n0 : Int} {n1 : Int} {h h1 : H} {v : Value} (hh : f56 rn k v0 n0 n1 h = some (v, h1)) : rn 56 #[v0, .int .i64 n0, .int .i64 n1] h = some (v, trunc Try.prog h h1 v) :=
  run_of_bodyT (args := [.opq v0, .int .i64 n0, .int .i64 n1]) rfl ((e56 _ _ _ _ _ _).trans hh)
theorem p56 {k : Nat} {v0 : Value} {n0 : Int} {n1 : Int} {h h1 : H} {v : Value} (hh : f56 rn k v0 n0 n1 h = some (v, h1)) (hp : plainO v = true) (x : Ext h h1) : rn 56 #[v0, .int .i64 n0, .int .i64 n1] h = some (v, h) := by rw [t56 hh, trunc_pure hp x]
theorem x56 {k : Nat} {v0 : Value} {n0 : Int} {n1 : Int} {h h1 : H} {v : Value} (hh : f56 rn k v0 n0 n1 h = some (v, h1)) (hp : plainO v = false) : rn 56 #[v0, .int .i64 n0, .int .i64 n1] h = some (v, h1) := by rw [t56 hh, trunc_not hp]

noncomputable def f57 (rec : Rec) (_k : Nat) (v0 : Value) (h0 : H) : Option (Value × H) :=
  bx h0 31 v0 fun h1 =>
  al h1 31 [(.int .i64 0), (.slice none 0 0)] fun h2 =>
  ld Try.prog h2 31 (nx h0) 0 fun v1 =>
  calls rec h2 71 [v1] fun v2 h3 =>
  asB v2 fun q0 =>
  ifB (not q0) (
    bld Try.prog 31 [] fun v3 =>
    st Try.prog h3 31 (nx h1) 0 v3 fun h4 =>
    ld Try.prog h4 31 (nx h1) 0 fun v4 =>
    some ((.tuple #[v4, (.int .i64 2)]), h4)) (
    ld Try.prog h3 31 (nx h0) 0 fun v5 =>
    calls rec h3 94 [v5] fun v6 h5 =>
    st Try.prog h5 31 (nx h1) 0 v6 fun h6 =>
    ld Try.prog h6 31 (nx h1) 0 fun v7 =>
    some ((.tuple #[v7, (.int .i64 0)]), h6))

theorem e57 (rec : Rec) (k : Nat) (v0 : Value) (h : H) : bodyT Try.prog E0 SC (XC Try.prog rec k) 57 (Value × H) [.opq v0] h (fun v h => some (v, h)) = f57 rec k v0 h := by kernel_rfl
theorem t57 {k : Nat} {v0 : Value} {h h1 : H} {v : Value} (hh : f57 rn k v0 h = some (v, h1)) : rn 57 #[v0] h = some (v, trunc Try.prog h h1 v) :=
  run_of_bodyT (args := [.opq v0]) rfl ((e57 _ _ _ _).trans hh)
theorem p57 {k : Nat} {v0 : Value} {h h1 : H} {v : Value} (hh : f57 rn k v0 h = some (v, h1)) (hp : plainO v = true) (x : Ext h h1) : rn 57 #[v0] h = some (v, h) := by rw [t57 hh, trunc_pure hp x]
theorem x57 {k : Nat} {v0 : Value} {h h1 : H} {v : Value} (hh : f57 rn k v0 h = some (v, h1)) (hp : plainO v = false) : rn 57 #[v0] h = some (v, h1) := by rw [t57 hh, trunc_not hp]

noncomputable def f58_l2 (_rec : Rec) (_k : Nat) (h2 : H) (ws0 : List Value) (v3 : Value) (n2 : Int) (ws1 : List Value) (h6 : H) : Option (Ex × List Value × H) :=
  asI .i64 (gv ws1 0) fun n3 =>
  ifB (lt n3 n2) (
    asK (gv ws1 0) fun n4 =>
    six v3 n4 3 fun b0 b1 =>
    ld Try.prog h6 59 b0 b1 fun v4 =>
    al h6 59 [(.int .i64 0), (.int .i64 0), (.int .i64 0)] fun h7 =>
    st Try.prog h7 59 (nx h6) 0 v4 fun h8 =>
    ld Try.prog h8 3 (nx h6) (off 0 2) fun v5 =>
    asI .i64 v5 fun n5 =>
    asI .i64 (gv ws0 0) fun n6 =>
    ifB (eq (sub .i64 31 n5) n6) (
      ld Try.prog h8 22 (nx h2) (off 0 1) fun v6 =>
      ld Try.prog h8 3 (nx h6) 0 fun v7 =>
      asI .i64 v7 fun n7 =>
      ld Try.prog h8 3 (nx h6) (off 0 1) fun v8 =>
      asI .i64 v8 fun n8 =>
      bld Try.prog 59 [(0, (.int .i64 n7)), (1, (.int .i64 n8)), (2, gv ws0 0)] fun v9 =>
      bls Try.prog h8 22 1 [(0, v9)] fun v10 h9 =>
      app Try.prog h9 22 22 v6 v10 fun v11 h10 =>
      st Try.prog h10 22 (nx h2) (off 0 1) v11 fun h11 =>
      asI .i64 (gv ws1 0) fun n9 =>
      out .normal [(.int .i64 (add .i64 n9 1))] h11) (
      asI .i64 (gv ws1 0) fun n10 =>
      out .normal [(.int .i64 (add .i64 n10 1))] h8)) (
    out (.exit 2) [gv ws1 0] h6)

noncomputable def f58_l1 (rec : Rec) (k : Nat) (h0 : H) (h2 : H) (ws0 : List Value) (h5 : H) : Option (Ex × List Value × H) :=
  asI .i64 (gv ws0 0) fun n1 =>
  ifB (le n1 30) (
    ld Try.prog h5 22 (nx h0) (off 0 1) fun v3 =>
    len v3 fun n2 =>
    lp k (f58_l2 rec k h2 ws0 v3 n2) [(.int .i64 0)] h5 fun e0 _ h12 =>
    onE e0 2 (
      asI .i64 (gv ws0 0) fun n11 =>
      out .normal [(.int .i64 (add .i64 n11 1))] h12) (
      none)) (
    out (.exit 0) [gv ws0 0] h5)

noncomputable def f58 (rec : Rec) (k : Nat) (v0 : Value) (h0 : H) : Option (Value × H) :=
  bx h0 24 v0 fun h1 =>
  al h1 24 [(.int .i64 0), (.slice none 0 0)] fun h2 =>
  ld Try.prog h2 3 (nx h0) 0 fun v1 =>
  asI .i64 v1 fun n0 =>
  bld Try.prog 24 [(0, (.int .i64 n0))] fun v2 =>
  al h2 24 [(.int .i64 0), (.slice none 0 0)] fun h3 =>
  st Try.prog h3 24 (nx h2) 0 v2 fun h4 =>
  lp k (f58_l1 rec k h0 h2) [(.int .i64 1)] h4 fun e1 _ h13 =>
  onE e1 0 (
    ld Try.prog h13 24 (nx h2) 0 fun v12 =>
    st Try.prog h13 24 (nx h1) 0 v12 fun h14 =>
    ld Try.prog h14 24 (nx h1) 0 fun v13 =>
    some (v13, h14)) (
    none)

theorem e58 (rec : Rec) (k : Nat) (v0 : Value) (h : H) : bodyT Try.prog E0 SC (XC Try.prog rec k) 58 (Value × H) [.opq v0] h (fun v h => some (v, h)) = f58 rec k v0 h := by kernel_rfl
theorem t58 {k : Nat} {v0 : Value} {h h1 : H} {v : Value} (hh : f58 rn k v0 h = some (v, h1)) : rn 58 #[v0] h = some (v, trunc Try.prog h h1 v) :=
  run_of_bodyT (args := [.opq v0]) rfl ((e58 _ _ _ _).trans hh)
theorem p58 {k : Nat} {v0 : Value} {h h1 : H} {v : Value} (hh : f58 rn k v0 h = some (v, h1)) (hp : plainO v = true) (x : Ext h h1) : rn 58 #[v0] h = some (v, h) := by rw [t58 hh, trunc_pure hp x]
theorem x58 {k : Nat} {v0 : Value} {h h1 : H} {v : Value} (hh : f58 rn k v0 h = some (v, h1)) (hp : plainO v = false) : rn 58 #[v0] h = some (v, h1) := by rw [t58 hh, trunc_not hp]

noncomputable def f59_l1 (_rec : Rec) (_k : Nat) (v0 : Value) (v1 : Value) (n2 : Int) (ws0 : List Value) (h1 : H) : Option (Ex × List Value × H) :=
  asI .i64 (gv ws0 1) fun n3 =>
  ifB (lt n3 n2) (
    asK (gv ws0 1) fun n4 =>
    six v0 n4 3 fun b0 b1 =>
    ld Try.prog h1 59 b0 b1 fun v2 =>
    asK (gv ws0 1) fun n5 =>
    six v1 n5 3 fun b2 b3 =>
    ld Try.prog h1 59 b2 b3 fun v3 =>
    eqv Try.prog 59 v2 v3 fun q0 =>
    ifB (not q0) (
      out .ret [(.bool false), gv ws0 1] h1) (
      asI .i64 (gv ws0 1) fun n6 =>
      out .normal [gv ws0 0, (.int .i64 (add .i64 n6 1))] h1)) (
    out (.exit 0) [gv ws0 0, gv ws0 1] h1)

noncomputable def f59 (rec : Rec) (k : Nat) (v0 : Value) (v1 : Value) (h0 : H) : Option (Value × H) :=
  len v0 fun n0 =>
  len v1 fun n1 =>
  ifB (not (eq n0 n1)) (
    some ((.bool false), h0)) (
    len v0 fun n2 =>
    lp k (f59_l1 rec k v0 v1 n2) [(.bool false), (.int .i64 0)] h0 fun e0 ws1 h2 =>
    onE e0 0 (
      some ((.bool true), h2)) (
      onR e0 (
        some (gv ws1 0, h2))))

theorem e59 (rec : Rec) (k : Nat) (v0 : Value) (v1 : Value) (h : H) : bodyT Try.prog E0 SC (XC Try.prog rec k) 59 (Value × H) [.opq v0, .opq v1] h (fun v h => some (v, h)) = f59 rec k v0 v1 h := by kernel_rfl
theorem t59 {k : Nat} {v0 : Value} {v1 : Value} {h h1 : H} {v : Value} (hh : f59 rn k v0 v1 h = some (v, h1)) : rn 59 #[v0, v1] h = some (v, trunc Try.prog h h1 v) :=
  run_of_bodyT (args := [.opq v0, .opq v1]) rfl ((e59 _ _ _ _ _).trans hh)
theorem p59 {k : Nat} {v0 : Value} {v1 : Value} {h h1 : H} {v : Value} (hh : f59 rn k v0 v1 h = some (v, h1)) (hp : plainO v = true) (x : Ext h h1) : rn 59 #[v0, v1] h = some (v, h) := by rw [t59 hh, trunc_pure hp x]
theorem x59 {k : Nat} {v0 : Value} {v1 : Value} {h h1 : H} {v : Value} (hh : f59 rn k v0 v1 h = some (v, h1)) (hp : plainO v = false) : rn 59 #[v0, v1] h = some (v, h1) := by rw [t59 hh, trunc_not hp]

noncomputable def f62_l1 (_rec : Rec) (_k : Nat) (v7 : Value) (n1 : Int) (ws0 : List Value) (h6 : H) : Option (Ex × List Value × H) :=
  asI .i64 (gv ws0 0) fun n2 =>
  ifB (lt n2 n1) (
    asK (gv ws0 0) fun n3 =>
    six v7 n3 1 fun b0 b1 =>
    ld Try.prog h6 3 b0 b1 fun v8 =>
    asI .i64 v8 fun n4 =>
    ifB (not (eq n4 (-1))) (
      asK (gv ws0 0) fun n5 =>
      six v7 n5 1 fun b2 b3 =>
      st Try.prog h6 3 b2 b3 (.int .i64 (sub .i64 31 n4)) fun h7 =>
      asI .i64 (gv ws0 0) fun n6 =>
      out .normal [(.int .i64 (add .i64 n6 1))] h7) (
      asI .i64 (gv ws0 0) fun n7 =>
      out .normal [(.int .i64 (add .i64 n7 1))] h6)) (
    out (.exit 0) [gv ws0 0] h6)

noncomputable def f62 (rec : Rec) (k : Nat) (v0 : Value) (n0 : Int) (h0 : H) : Option (Value × H) :=
  bx h0 31 v0 fun h1 =>
  ld Try.prog h1 31 (nx h0) 0 fun v1 =>
  calls rec h1 71 [v1] fun v2 h2 =>
  asB v2 fun q0 =>
  ifB (not q0) (
    some ((.tuple #[(.slice none 0 0), (.int .i64 2)]), h2)) (
    ld Try.prog h2 31 (nx h0) 0 fun v3 =>
    calls rec h2 72 [v3, (.int .i64 n0)] fun v4 h3 =>
    asB v4 fun q1 =>
    ifB (not q1) (
      some ((.tuple #[(.slice none 0 0), (.int .i64 2)]), h3)) (
      ld Try.prog h3 31 (nx h0) 0 fun v5 =>
      calls rec h3 94 [v5] fun v6 h4 =>
      calls rec h4 81 [v6, (.int .i64 n0), (.int .i64 0)] fun v7 h5 =>
      len v7 fun n1 =>
      lp k (f62_l1 rec k v7 n1) [(.int .i64 0)] h5 fun e0 _ h8 =>
      onE e0 0 (
        some ((.tuple #[v7, (.int .i64 0)]), h8)) (
        none)))

theorem e62 (rec : Rec) (k : Nat) (v0 : Value) (n0 : Int) (h : H) : bodyT Try.prog E0 SC (XC Try.prog rec k) 62 (Value × H) [.opq v0, .int .i64 n0] h (fun v h => some (v, h)) = f62 rec k v0 n0 h := by kernel_rfl
theorem t62 {k : Nat} {v0 : Value} {n0 : Int} {h h1 : H} {v : Value} (hh : f62 rn k v0 n0 h = some (v, h1)) : rn 62 #[v0, .int .i64 n0] h = some (v, trunc Try.prog h h1 v) :=
  run_of_bodyT (args := [.opq v0, .int .i64 n0]) rfl ((e62 _ _ _ _ _).trans hh)
theorem p62 {k : Nat} {v0 : Value} {n0 : Int} {h h1 : H} {v : Value} (hh : f62 rn k v0 n0 h = some (v, h1)) (hp : plainO v = true) (x : Ext h h1) : rn 62 #[v0, .int .i64 n0] h = some (v, h) := by rw [t62 hh, trunc_pure hp x]
theorem x62 {k : Nat} {v0 : Value} {n0 : Int} {h h1 : H} {v : Value} (hh : f62 rn k v0 n0 h = some (v, h1)) (hp : plainO v = false) : rn 62 #[v0, .int .i64 n0] h = some (v, h1) := by rw [t62 hh, trunc_not hp]

noncomputable def f63_l1 (_rec : Rec) (_k : Nat) (n0 : Int) (v2 : Value) (n2 : Int) (ws0 : List Value) (h3 : H) : Option (Ex × List Value × H) :=
  asI .i64 (gv ws0 0) fun n3 =>
  ifB (lt n3 n2) (
    asI .i64 (gv ws0 0) fun n4 =>
    ifB (not (eq n4 n0)) (
      asK (gv ws0 0) fun n5 =>
      six v2 n5 1 fun b0 b1 =>
      st Try.prog h3 3 b0 b1 (.int .i64 (-1)) fun h4 =>
      asI .i64 (gv ws0 0) fun n6 =>
      out .normal [(.int .i64 (add .i64 n6 1))] h4) (
      asI .i64 (gv ws0 0) fun n7 =>
      out .normal [(.int .i64 (add .i64 n7 1))] h3)) (
    out (.exit 0) [gv ws0 0] h3)

noncomputable def f63_l2 (_rec : Rec) (_k : Nat) (v2 : Value) (v3 : Value) (n8 : Int) (ws2 : List Value) (h6 : H) : Option (Ex × List Value × H) :=
  asI .i64 (gv ws2 0) fun n9 =>
  ifB (lt n9 n8) (
    asK (gv ws2 0) fun n10 =>
    six v3 n10 3 fun b2 b3 =>
    ld Try.prog h6 59 b2 b3 fun v4 =>
    al h6 59 [(.int .i64 0), (.int .i64 0), (.int .i64 0)] fun h7 =>
    st Try.prog h7 59 (nx h6) 0 v4 fun h8 =>
    ld Try.prog h8 3 (nx h6) 0 fun v5 =>
    asI .i64 v5 fun n11 =>
    six v2 n11 1 fun b4 b5 =>
    ld Try.prog h8 3 b4 b5 fun v6 =>
    asI .i64 v6 fun n12 =>
    ld Try.prog h8 3 (nx h6) (off 0 1) fun v7 =>
    asI .i64 v7 fun n13 =>
    six v2 n13 1 fun b6 b7 =>
    ld Try.prog h8 3 b6 b7 fun v8 =>
    asI .i64 v8 fun n14 =>
    ifB (le 0 n12) (
      ld Try.prog h8 3 (nx h6) (off 0 2) fun v9 =>
      asI .i64 v9 fun n15 =>
      ifB (lt n12 n15) (
        ifB (lt n14 0) (
          ld Try.prog h8 3 (nx h6) (off 0 1) fun v10 =>
          asI .i64 v10 fun n16 =>
          ld Try.prog h8 3 (nx h6) (off 0 2) fun v11 =>
          asI .i64 v11 fun n17 =>
          six v2 n16 1 fun b8 b9 =>
          st Try.prog h8 3 b8 b9 (.int .i64 n17) fun h9 =>
          ifB (le 0 n14) (
            ld Try.prog h9 3 (nx h6) (off 0 2) fun v12 =>
            asI .i64 v12 fun n18 =>
            ifB (lt n14 n18) (
              ifB (lt n12 0) (
                ld Try.prog h9 3 (nx h6) 0 fun v13 =>
                asI .i64 v13 fun n19 =>
                ld Try.prog h9 3 (nx h6) (off 0 2) fun v14 =>
                asI .i64 v14 fun n20 =>
                six v2 n19 1 fun b10 b11 =>
                st Try.prog h9 3 b10 b11 (.int .i64 n20) fun h10 =>
                asI .i64 (gv ws2 0) fun n21 =>
                out .normal [(.int .i64 (add .i64 n21 1))] h10) (
                asI .i64 (gv ws2 0) fun n22 =>
                out .normal [(.int .i64 (add .i64 n22 1))] h9)) (
              asI .i64 (gv ws2 0) fun n23 =>
              out .normal [(.int .i64 (add .i64 n23 1))] h9)) (
            asI .i64 (gv ws2 0) fun n24 =>
            out .normal [(.int .i64 (add .i64 n24 1))] h9)) (
          ifB (le 0 n14) (
            ld Try.prog h8 3 (nx h6) (off 0 2) fun v15 =>
            asI .i64 v15 fun n25 =>
            ifB (lt n14 n25) (
              ifB (lt n12 0) (
                ld Try.prog h8 3 (nx h6) 0 fun v16 =>
                asI .i64 v16 fun n26 =>
                ld Try.prog h8 3 (nx h6) (off 0 2) fun v17 =>
                asI .i64 v17 fun n27 =>
                six v2 n26 1 fun b12 b13 =>
                st Try.prog h8 3 b12 b13 (.int .i64 n27) fun h11 =>
                asI .i64 (gv ws2 0) fun n28 =>
                out .normal [(.int .i64 (add .i64 n28 1))] h11) (
                asI .i64 (gv ws2 0) fun n29 =>
                out .normal [(.int .i64 (add .i64 n29 1))] h8)) (
              asI .i64 (gv ws2 0) fun n30 =>
              out .normal [(.int .i64 (add .i64 n30 1))] h8)) (
            asI .i64 (gv ws2 0) fun n31 =>
            out .normal [(.int .i64 (add .i64 n31 1))] h8))) (
        ifB (le 0 n14) (
          ld Try.prog h8 3 (nx h6) (off 0 2) fun v18 =>
          asI .i64 v18 fun n32 =>
          ifB (lt n14 n32) (
            ifB (lt n12 0) (
              ld Try.prog h8 3 (nx h6) 0 fun v19 =>
              asI .i64 v19 fun n33 =>
              ld Try.prog h8 3 (nx h6) (off 0 2) fun v20 =>
              asI .i64 v20 fun n34 =>
              six v2 n33 1 fun b14 b15 =>
              st Try.prog h8 3 b14 b15 (.int .i64 n34) fun h12 =>
              asI .i64 (gv ws2 0) fun n35 =>
              out .normal [(.int .i64 (add .i64 n35 1))] h12) (
              asI .i64 (gv ws2 0) fun n36 =>
              out .normal [(.int .i64 (add .i64 n36 1))] h8)) (
            asI .i64 (gv ws2 0) fun n37 =>
            out .normal [(.int .i64 (add .i64 n37 1))] h8)) (
          asI .i64 (gv ws2 0) fun n38 =>
          out .normal [(.int .i64 (add .i64 n38 1))] h8))) (
      ifB (le 0 n14) (
        ld Try.prog h8 3 (nx h6) (off 0 2) fun v21 =>
        asI .i64 v21 fun n39 =>
        ifB (lt n14 n39) (
          ifB (lt n12 0) (
            ld Try.prog h8 3 (nx h6) 0 fun v22 =>
            asI .i64 v22 fun n40 =>
            ld Try.prog h8 3 (nx h6) (off 0 2) fun v23 =>
            asI .i64 v23 fun n41 =>
            six v2 n40 1 fun b16 b17 =>
            st Try.prog h8 3 b16 b17 (.int .i64 n41) fun h13 =>
            asI .i64 (gv ws2 0) fun n42 =>
            out .normal [(.int .i64 (add .i64 n42 1))] h13) (
            asI .i64 (gv ws2 0) fun n43 =>
            out .normal [(.int .i64 (add .i64 n43 1))] h8)) (
          asI .i64 (gv ws2 0) fun n44 =>
          out .normal [(.int .i64 (add .i64 n44 1))] h8)) (
        asI .i64 (gv ws2 0) fun n45 =>
        out .normal [(.int .i64 (add .i64 n45 1))] h8))) (
    out (.exit 2) [gv ws2 0] h6)

noncomputable def f63 (rec : Rec) (k : Nat) (v0 : Value) (n0 : Int) (h0 : H) : Option (Value × H) :=
  bx h0 24 v0 fun h1 =>
  ld Try.prog h1 3 (nx h0) 0 fun v1 =>
  asI .i64 v1 fun n1 =>
  mks Try.prog h1 25 n1 n1 fun v2 h2 =>
  len v2 fun n2 =>
  lp k (f63_l1 rec k n0 v2 n2) [(.int .i64 0)] h2 fun e0 _ h5 =>
  onE e0 0 (
    ld Try.prog h5 22 (nx h0) (off 0 1) fun v3 =>
    len v3 fun n8 =>
    lp k (f63_l2 rec k v2 v3 n8) [(.int .i64 0)] h5 fun e1 _ h14 =>
    onE e1 2 (
      some (v2, h14)) (
      none)) (
    none)

theorem e63 (rec : Rec) (k : Nat) (v0 : Value) (n0 : Int) (h : H) : bodyT Try.prog E0 SC (XC Try.prog rec k) 63 (Value × H) [.opq v0, .int .i64 n0] h (fun v h => some (v, h)) = f63 rec k v0 n0 h := by kernel_rfl
theorem t63 {k : Nat} {v0 : Value} {n0 : Int} {h h1 : H} {v : Value} (hh : f63 rn k v0 n0 h = some (v, h1)) : rn 63 #[v0, .int .i64 n0] h = some (v, trunc Try.prog h h1 v) :=
  run_of_bodyT (args := [.opq v0, .int .i64 n0]) rfl ((e63 _ _ _ _ _).trans hh)
theorem p63 {k : Nat} {v0 : Value} {n0 : Int} {h h1 : H} {v : Value} (hh : f63 rn k v0 n0 h = some (v, h1)) (hp : plainO v = true) (x : Ext h h1) : rn 63 #[v0, .int .i64 n0] h = some (v, h) := by rw [t63 hh, trunc_pure hp x]
theorem x63 {k : Nat} {v0 : Value} {n0 : Int} {h h1 : H} {v : Value} (hh : f63 rn k v0 n0 h = some (v, h1)) (hp : plainO v = false) : rn 63 #[v0, .int .i64 n0] h = some (v, h1) := by rw [t63 hh, trunc_not hp]

noncomputable def f64_l1 (_rec : Rec) (_k : Nat) (n0 : Int) (v2 : Value) (n2 : Int) (ws0 : List Value) (h3 : H) : Option (Ex × List Value × H) :=
  asI .i64 (gv ws0 0) fun n3 =>
  ifB (lt n3 n2) (
    asK (gv ws0 0) fun n4 =>
    six v2 n4 1 fun b0 b1 =>
    st Try.prog h3 3 b0 b1 (.int .i64 (-1)) fun h4 =>
    asI .i64 (gv ws0 0) fun n5 =>
    ifB (eq n5 n0) (
      asK (gv ws0 0) fun n6 =>
      six v2 n6 1 fun b2 b3 =>
      st Try.prog h4 3 b2 b3 (.int .i64 31) fun h5 =>
      asI .i64 (gv ws0 0) fun n7 =>
      out .normal [(.int .i64 (add .i64 n7 1))] h5) (
      asI .i64 (gv ws0 0) fun n8 =>
      out .normal [(.int .i64 (add .i64 n8 1))] h4)) (
    out (.exit 0) [gv ws0 0] h3)

noncomputable def f64_l2 (_rec : Rec) (_k : Nat) (h0 : H) (v2 : Value) (ws2 : List Value) (h7 : H) : Option (Ex × List Value × H) :=
  asI .i64 (gv ws2 0) fun n10 =>
  ifB (le 0 n10) (
    ld Try.prog h7 22 (nx h0) (off 0 1) fun v4 =>
    asK (gv ws2 0) fun n11 =>
    six v4 n11 3 fun b4 b5 =>
    ld Try.prog h7 59 b4 b5 fun v5 =>
    al h7 59 [(.int .i64 0), (.int .i64 0), (.int .i64 0)] fun h8 =>
    st Try.prog h8 59 (nx h7) 0 v5 fun h9 =>
    ld Try.prog h9 3 (nx h7) 0 fun v6 =>
    asI .i64 v6 fun n12 =>
    six v2 n12 1 fun b6 b7 =>
    ld Try.prog h9 3 b6 b7 fun v7 =>
    asI .i64 v7 fun n13 =>
    ld Try.prog h9 3 (nx h7) (off 0 1) fun v8 =>
    asI .i64 v8 fun n14 =>
    six v2 n14 1 fun b8 b9 =>
    ld Try.prog h9 3 b8 b9 fun v9 =>
    asI .i64 v9 fun n15 =>
    ld Try.prog h9 3 (nx h7) (off 0 2) fun v10 =>
    asI .i64 v10 fun n16 =>
    ifB (lt n16 n13) (
      ifB (lt n15 0) (
        ld Try.prog h9 3 (nx h7) (off 0 1) fun v11 =>
        asI .i64 v11 fun n17 =>
        ld Try.prog h9 3 (nx h7) (off 0 2) fun v12 =>
        asI .i64 v12 fun n18 =>
        six v2 n17 1 fun b10 b11 =>
        st Try.prog h9 3 b10 b11 (.int .i64 n18) fun h10 =>
        ld Try.prog h10 3 (nx h7) (off 0 2) fun v13 =>
        asI .i64 v13 fun n19 =>
        ifB (lt n19 n15) (
          ifB (lt n13 0) (
            ld Try.prog h10 3 (nx h7) 0 fun v14 =>
            asI .i64 v14 fun n20 =>
            ld Try.prog h10 3 (nx h7) (off 0 2) fun v15 =>
            asI .i64 v15 fun n21 =>
            six v2 n20 1 fun b12 b13 =>
            st Try.prog h10 3 b12 b13 (.int .i64 n21) fun h11 =>
            asI .i64 (gv ws2 0) fun n22 =>
            out .normal [(.int .i64 (sub .i64 n22 1))] h11) (
            asI .i64 (gv ws2 0) fun n23 =>
            out .normal [(.int .i64 (sub .i64 n23 1))] h10)) (
          asI .i64 (gv ws2 0) fun n24 =>
          out .normal [(.int .i64 (sub .i64 n24 1))] h10)) (
        ld Try.prog h9 3 (nx h7) (off 0 2) fun v16 =>
        asI .i64 v16 fun n25 =>
        ifB (lt n25 n15) (
          ifB (lt n13 0) (
            ld Try.prog h9 3 (nx h7) 0 fun v17 =>
            asI .i64 v17 fun n26 =>
            ld Try.prog h9 3 (nx h7) (off 0 2) fun v18 =>
            asI .i64 v18 fun n27 =>
            six v2 n26 1 fun b14 b15 =>
            st Try.prog h9 3 b14 b15 (.int .i64 n27) fun h12 =>
            asI .i64 (gv ws2 0) fun n28 =>
            out .normal [(.int .i64 (sub .i64 n28 1))] h12) (
            asI .i64 (gv ws2 0) fun n29 =>
            out .normal [(.int .i64 (sub .i64 n29 1))] h9)) (
          asI .i64 (gv ws2 0) fun n30 =>
          out .normal [(.int .i64 (sub .i64 n30 1))] h9))) (
      ld Try.prog h9 3 (nx h7) (off 0 2) fun v19 =>
      asI .i64 v19 fun n31 =>
      ifB (lt n31 n15) (
        ifB (lt n13 0) (
          ld Try.prog h9 3 (nx h7) 0 fun v20 =>
          asI .i64 v20 fun n32 =>
          ld Try.prog h9 3 (nx h7) (off 0 2) fun v21 =>
          asI .i64 v21 fun n33 =>
          six v2 n32 1 fun b16 b17 =>
          st Try.prog h9 3 b16 b17 (.int .i64 n33) fun h13 =>
          asI .i64 (gv ws2 0) fun n34 =>
          out .normal [(.int .i64 (sub .i64 n34 1))] h13) (
          asI .i64 (gv ws2 0) fun n35 =>
          out .normal [(.int .i64 (sub .i64 n35 1))] h9)) (
        asI .i64 (gv ws2 0) fun n36 =>
        out .normal [(.int .i64 (sub .i64 n36 1))] h9))) (
    out (.exit 2) [gv ws2 0] h7)

noncomputable def f64 (rec : Rec) (k : Nat) (v0 : Value) (n0 : Int) (h0 : H) : Option (Value × H) :=
  bx h0 24 v0 fun h1 =>
  ld Try.prog h1 3 (nx h0) 0 fun v1 =>
  asI .i64 v1 fun n1 =>
  mks Try.prog h1 25 n1 n1 fun v2 h2 =>
  len v2 fun n2 =>
  lp k (f64_l1 rec k n0 v2 n2) [(.int .i64 0)] h2 fun e0 _ h6 =>
  onE e0 0 (
    ld Try.prog h6 22 (nx h0) (off 0 1) fun v3 =>
    len v3 fun n9 =>
    lp k (f64_l2 rec k h0 v2) [(.int .i64 (sub .i64 n9 1))] h6 fun e1 _ h14 =>
    onE e1 2 (
      some (v2, h14)) (
      none)) (
    none)

theorem e64 (rec : Rec) (k : Nat) (v0 : Value) (n0 : Int) (h : H) : bodyT Try.prog E0 SC (XC Try.prog rec k) 64 (Value × H) [.opq v0, .int .i64 n0] h (fun v h => some (v, h)) = f64 rec k v0 n0 h := by kernel_rfl
theorem t64 {k : Nat} {v0 : Value} {n0 : Int} {h h1 : H} {v : Value} (hh : f64 rn k v0 n0 h = some (v, h1)) : rn 64 #[v0, .int .i64 n0] h = some (v, trunc Try.prog h h1 v) :=
  run_of_bodyT (args := [.opq v0, .int .i64 n0]) rfl ((e64 _ _ _ _ _).trans hh)
theorem p64 {k : Nat} {v0 : Value} {n0 : Int} {h h1 : H} {v : Value} (hh : f64 rn k v0 n0 h = some (v, h1)) (hp : plainO v = true) (x : Ext h h1) : rn 64 #[v0, .int .i64 n0] h = some (v, h) := by rw [t64 hh, trunc_pure hp x]
theorem x64 {k : Nat} {v0 : Value} {n0 : Int} {h h1 : H} {v : Value} (hh : f64 rn k v0 n0 h = some (v, h1)) (hp : plainO v = false) : rn 64 #[v0, .int .i64 n0] h = some (v, h1) := by rw [t64 hh, trunc_not hp]

noncomputable def f65 (rec : Rec) (_k : Nat) (v0 : Value) (n0 : Int) (n1 : Int) (v1 : Value) (h0 : H) : Option (Value × H) :=
  bx h0 31 v0 fun h1 =>
  bx h1 61 v1 fun h2 =>
  ld Try.prog h2 31 (nx h0) 0 fun v2 =>
  calls rec h2 71 [v2] fun v3 h3 =>
  asB v3 fun q0 =>
  ifB (not q0) (
    some ((.tuple #[(.slice none 0 0), (.int .i64 2)]), h3)) (
    ld Try.prog h3 31 (nx h0) 0 fun v4 =>
    calls rec h3 72 [v4, (.int .i64 n0)] fun v5 h4 =>
    asB v5 fun q1 =>
    ifB (not q1) (
      some ((.tuple #[(.slice none 0 0), (.int .i64 2)]), h4)) (
      ld Try.prog h4 31 (nx h0) 0 fun v6 =>
      calls rec h4 72 [v6, (.int .i64 n1)] fun v7 h5 =>
      asB v7 fun q2 =>
      ifB (not q2) (
        some ((.tuple #[(.slice none 0 0), (.int .i64 2)]), h5)) (
        ifB (eq n0 n1) (
          some ((.tuple #[(.slice none 0 0), (.int .i64 2)]), h5)) (
          al h5 25 [(.slice none 0 0)] fun h6 =>
          ld Try.prog h6 31 (nx h0) 0 fun v8 =>
          calls rec h6 85 [v8, (.int .i64 n0), (.int .i64 n1), (.func (.func 97) #[] #[(pt (nx h5) 0), (pt (nx h1) 0)])] fun _ h7 =>
          ld Try.prog h7 25 (nx h5) 0 fun v10 =>
          eqv Try.prog 25 v10 (.slice none 0 0) fun q3 =>
          ifB q3 (
            some ((.tuple #[(.slice none 0 0), (.int .i64 4)]), h7)) (
            ld Try.prog h7 25 (nx h5) 0 fun v11 =>
            some ((.tuple #[v11, (.int .i64 0)]), h7))))))

theorem e65 (rec : Rec) (k : Nat) (v0 : Value) (n0 : Int) (n1 : Int) (v1 : Value) (h : H) : bodyT Try.prog E0 SC (XC Try.prog rec k) 65 (Value × H) [.opq v0, .int .i64 n0, .int .i64 n1, .opq v1] h (fun v h => some (v, h)) = f65 rec k v0 n0 n1 v1 h := by kernel_rfl
theorem t65 {k : Nat} {v0 : Value} {n0 : Int} {n1 : Int} {v1 : Value} {h h1 : H} {v : Value} (hh : f65 rn k v0 n0 n1 v1 h = some (v, h1)) : rn 65 #[v0, .int .i64 n0, .int .i64 n1, v1] h = some (v, trunc Try.prog h h1 v) :=
  run_of_bodyT (args := [.opq v0, .int .i64 n0, .int .i64 n1, .opq v1]) rfl ((e65 _ _ _ _ _ _ _).trans hh)
theorem p65 {k : Nat} {v0 : Value} {n0 : Int} {n1 : Int} {v1 : Value} {h h1 : H} {v : Value} (hh : f65 rn k v0 n0 n1 v1 h = some (v, h1)) (hp : plainO v = true) (x : Ext h h1) : rn 65 #[v0, .int .i64 n0, .int .i64 n1, v1] h = some (v, h) := by rw [t65 hh, trunc_pure hp x]
theorem x65 {k : Nat} {v0 : Value} {n0 : Int} {n1 : Int} {v1 : Value} {h h1 : H} {v : Value} (hh : f65 rn k v0 n0 n1 v1 h = some (v, h1)) (hp : plainO v = false) : rn 65 #[v0, .int .i64 n0, .int .i64 n1, v1] h = some (v, h1) := by rw [t65 hh, trunc_not hp]

noncomputable def f66 (_rec : Rec) (_k : Nat) (v0 : Value) (v1 : Value) (h0 : H) : Option (Value × H) :=
  bx h0 31 v0 fun h1 =>
  ld Try.prog h1 29 (nx h0) (off 0 1) fun v2 =>
  len v1 fun n0 =>
  six v1 (sub .i64 n0 1) 1 fun b0 b1 =>
  ld Try.prog h1 3 b0 b1 fun v3 =>
  asI .i64 v3 fun n1 =>
  six v2 n1 3 fun b2 b3 =>
  ld Try.prog h1 3 b2 (off b3 2) fun v4 =>
  asI .i64 v4 fun n2 =>
  some ((.int .i64 n2), h1)

theorem e66 (rec : Rec) (k : Nat) (v0 : Value) (v1 : Value) (h : H) : bodyT Try.prog E0 SC (XC Try.prog rec k) 66 (Value × H) [.opq v0, .opq v1] h (fun v h => some (v, h)) = f66 rec k v0 v1 h := by kernel_rfl
theorem t66 {k : Nat} {v0 : Value} {v1 : Value} {h h1 : H} {v : Value} (hh : f66 rn k v0 v1 h = some (v, h1)) : rn 66 #[v0, v1] h = some (v, trunc Try.prog h h1 v) :=
  run_of_bodyT (args := [.opq v0, .opq v1]) rfl ((e66 _ _ _ _ _).trans hh)
theorem p66 {k : Nat} {v0 : Value} {v1 : Value} {h h1 : H} {v : Value} (hh : f66 rn k v0 v1 h = some (v, h1)) (hp : plainO v = true) (x : Ext h h1) : rn 66 #[v0, v1] h = some (v, h) := by rw [t66 hh, trunc_pure hp x]
theorem x66 {k : Nat} {v0 : Value} {v1 : Value} {h h1 : H} {v : Value} (hh : f66 rn k v0 v1 h = some (v, h1)) (hp : plainO v = false) : rn 66 #[v0, v1] h = some (v, h1) := by rw [t66 hh, trunc_not hp]

noncomputable def f67 (_rec : Rec) (_k : Nat) (v0 : Value) (h0 : H) : Option (Value × H) :=
  len v0 fun n0 =>
  some ((.int .i64 n0), h0)

theorem e67 (rec : Rec) (k : Nat) (v0 : Value) (h : H) : bodyT Try.prog E0 SC (XC Try.prog rec k) 67 (Value × H) [.opq v0] h (fun v h => some (v, h)) = f67 rec k v0 h := by kernel_rfl
theorem t67 {k : Nat} {v0 : Value} {h h1 : H} {v : Value} (hh : f67 rn k v0 h = some (v, h1)) : rn 67 #[v0] h = some (v, trunc Try.prog h h1 v) :=
  run_of_bodyT (args := [.opq v0]) rfl ((e67 _ _ _ _).trans hh)
theorem p67 {k : Nat} {v0 : Value} {h h1 : H} {v : Value} (hh : f67 rn k v0 h = some (v, h1)) (hp : plainO v = true) (x : Ext h h1) : rn 67 #[v0] h = some (v, h) := by rw [t67 hh, trunc_pure hp x]
theorem x67 {k : Nat} {v0 : Value} {h h1 : H} {v : Value} (hh : f67 rn k v0 h = some (v, h1)) (hp : plainO v = false) : rn 67 #[v0] h = some (v, h1) := by rw [t67 hh, trunc_not hp]

noncomputable def f68 (rec : Rec) (_k : Nat) (v0 : Value) (v1 : Value) (h0 : H) : Option (Value × H) :=
  asP v1 fun _ _ =>
  asP v1 fun b2 b3 =>
  ld Try.prog h0 31 b2 b3 fun v2 =>
  calls rec h0 66 [v2, v0] fun v3 h1 =>
  asI .i64 v3 fun n0 =>
  asP v1 fun b4 _ =>
  asP v1 fun b6 b7 =>
  ld Try.prog h1 31 b6 b7 fun v4 =>
  ck (freq b4 (nx h0) (same h1 h0)) (
    calls rec h1 69 [v4, v0] fun v5 h2 =>
    asI .i64 v5 fun n1 =>
    some ((.int .i64 (sub .i64 n0 n1)), h2))

theorem e68 (rec : Rec) (k : Nat) (v0 : Value) (v1 : Value) (h : H) : bodyT Try.prog E0 SC (XC Try.prog rec k) 68 (Value × H) [.opq v0, .opq v1] h (fun v h => some (v, h)) = f68 rec k v0 v1 h := by kernel_rfl
theorem t68 {k : Nat} {v0 : Value} {v1 : Value} {h h1 : H} {v : Value} (hh : f68 rn k v0 v1 h = some (v, h1)) : rn 68 #[v0, v1] h = some (v, trunc Try.prog h h1 v) :=
  run_of_bodyT (args := [.opq v0, .opq v1]) rfl ((e68 _ _ _ _ _).trans hh)
theorem p68 {k : Nat} {v0 : Value} {v1 : Value} {h h1 : H} {v : Value} (hh : f68 rn k v0 v1 h = some (v, h1)) (hp : plainO v = true) (x : Ext h h1) : rn 68 #[v0, v1] h = some (v, h) := by rw [t68 hh, trunc_pure hp x]
theorem x68 {k : Nat} {v0 : Value} {v1 : Value} {h h1 : H} {v : Value} (hh : f68 rn k v0 v1 h = some (v, h1)) (hp : plainO v = false) : rn 68 #[v0, v1] h = some (v, h1) := by rw [t68 hh, trunc_not hp]

noncomputable def f69 (_rec : Rec) (_k : Nat) (v0 : Value) (v1 : Value) (h0 : H) : Option (Value × H) :=
  bx h0 31 v0 fun h1 =>
  ld Try.prog h1 29 (nx h0) (off 0 1) fun v2 =>
  six v1 0 1 fun b0 b1 =>
  ld Try.prog h1 3 b0 b1 fun v3 =>
  asI .i64 v3 fun n0 =>
  six v2 n0 3 fun b2 b3 =>
  ld Try.prog h1 3 b2 (off b3 2) fun v4 =>
  asI .i64 v4 fun n1 =>
  some ((.int .i64 n1), h1)

theorem e69 (rec : Rec) (k : Nat) (v0 : Value) (v1 : Value) (h : H) : bodyT Try.prog E0 SC (XC Try.prog rec k) 69 (Value × H) [.opq v0, .opq v1] h (fun v h => some (v, h)) = f69 rec k v0 v1 h := by kernel_rfl
theorem t69 {k : Nat} {v0 : Value} {v1 : Value} {h h1 : H} {v : Value} (hh : f69 rn k v0 v1 h = some (v, h1)) : rn 69 #[v0, v1] h = some (v, trunc Try.prog h h1 v) :=
  run_of_bodyT (args := [.opq v0, .opq v1]) rfl ((e69 _ _ _ _ _).trans hh)
theorem p69 {k : Nat} {v0 : Value} {v1 : Value} {h h1 : H} {v : Value} (hh : f69 rn k v0 v1 h = some (v, h1)) (hp : plainO v = true) (x : Ext h h1) : rn 69 #[v0, v1] h = some (v, h) := by rw [t69 hh, trunc_pure hp x]
theorem x69 {k : Nat} {v0 : Value} {v1 : Value} {h h1 : H} {v : Value} (hh : f69 rn k v0 v1 h = some (v, h1)) (hp : plainO v = false) : rn 69 #[v0, v1] h = some (v, h1) := by rw [t69 hh, trunc_not hp]

noncomputable def f70_l1 (_rec : Rec) (_k : Nat) (n2 : Int) (h0 : H) (v2 : Value) (n3 : Int) (ws0 : List Value) (h3 : H) : Option (Ex × List Value × H) :=
  asI .i64 (gv ws0 2) fun n4 =>
  ifB (lt n4 n3) (
    asK (gv ws0 2) fun n5 =>
    six v2 n5 1 fun b0 b1 =>
    ld Try.prog h3 25 b0 b1 fun v3 =>
    ld Try.prog h3 22 (nx h0) (off 0 1) fun v4 =>
    six v3 0 1 fun b2 b3 =>
    ld Try.prog h3 3 b2 b3 fun v5 =>
    asI .i64 v5 fun n6 =>
    six v4 n6 3 fun b4 b5 =>
    ld Try.prog h3 3 b4 (off b5 2) fun v6 =>
    asI .i64 v6 fun n7 =>
    ld Try.prog h3 22 (nx h0) (off 0 1) fun v7 =>
    len v3 fun n8 =>
    six v3 (sub .i64 n8 1) 1 fun b6 b7 =>
    ld Try.prog h3 3 b6 b7 fun v8 =>
    asI .i64 v8 fun n9 =>
    six v7 n9 3 fun b8 b9 =>
    ld Try.prog h3 3 b8 (off b9 2) fun v9 =>
    asI .i64 v9 fun n10 =>
    len v3 fun n11 =>
    bld Try.prog 108 [(0, (.int .i64 n10)), (1, (.int .i64 n11)), (2, (.int .i64 (sub .i64 n10 n7)))] fun v10 =>
    inx Try.prog 108 v10 n2 fun v11 =>
    asI .i64 v11 fun n12 =>
    asI .i64 (gv ws0 1) fun n13 =>
    ifB (lt n12 n13) (
      asI .i64 (gv ws0 2) fun n14 =>
      out .normal [v3, (.int .i64 n12), (.int .i64 (add .i64 n14 1))] h3) (
      asI .i64 (gv ws0 2) fun n15 =>
      out .normal [gv ws0 0, gv ws0 1, (.int .i64 (add .i64 n15 1))] h3)) (
    out (.exit 0) [gv ws0 0, gv ws0 1, gv ws0 2] h3)

noncomputable def f70 (rec : Rec) (k : Nat) (v0 : Value) (n0 : Int) (n1 : Int) (n2 : Int) (h0 : H) : Option (Value × H) :=
  bx h0 24 v0 fun h1 =>
  ld Try.prog h1 24 (nx h0) 0 fun v1 =>
  calls rec h1 98 [v1, (.int .i64 n0), (.int .i64 n1)] fun v2 h2 =>
  len v2 fun n3 =>
  lp k (f70_l1 rec k n2 h0 v2 n3) [(.slice none 0 0), (.int .i64 99), (.int .i64 0)] h2 fun e0 ws1 h4 =>
  onE e0 0 (
    eqv Try.prog 25 (gv ws1 0) (.slice none 0 0) fun q0 =>
    ifB q0 (
      some ((.tuple #[(.slice none 0 0), (.int .i64 4)]), h4)) (
      some ((.tuple #[gv ws1 0, (.int .i64 0)]), h4))) (
    none)

theorem e70 (rec : Rec) (k : Nat) (v0 : Value) (n0 : Int) (n1 : Int) (n2 : Int) (h : H) : bodyT Try.prog E0 SC (XC Try.prog rec k) 70 (Value × H) [.opq v0, .int .i64 n0, .int .i64 n1, .int .i64 n2] h (fun v h => some (v, h)) = f70 rec k v0 n0 n1 n2 h := by kernel_rfl
theorem t70 {k : Nat} {v0 : Value} {n0 : Int} {n1 : Int} {n2 : Int} {h h1 : H} {v : Value} (hh : f70 rn k v0 n0 n1 n2 h = some (v, h1)) : rn 70 #[v0, .int .i64 n0, .int .i64 n1, .int .i64 n2] h = some (v, trunc Try.prog h h1 v) :=
  run_of_bodyT (args := [.opq v0, .int .i64 n0, .int .i64 n1, .int .i64 n2]) rfl ((e70 _ _ _ _ _ _ _).trans hh)
theorem p70 {k : Nat} {v0 : Value} {n0 : Int} {n1 : Int} {n2 : Int} {h h1 : H} {v : Value} (hh : f70 rn k v0 n0 n1 n2 h = some (v, h1)) (hp : plainO v = true) (x : Ext h h1) : rn 70 #[v0, .int .i64 n0, .int .i64 n1, .int .i64 n2] h = some (v, h) := by rw [t70 hh, trunc_pure hp x]
theorem x70 {k : Nat} {v0 : Value} {n0 : Int} {n1 : Int} {n2 : Int} {h h1 : H} {v : Value} (hh : f70 rn k v0 n0 n1 n2 h = some (v, h1)) (hp : plainO v = false) : rn 70 #[v0, .int .i64 n0, .int .i64 n1, .int .i64 n2] h = some (v, h1) := by rw [t70 hh, trunc_not hp]

noncomputable def f80_l1 (_rec : Rec) (_k : Nat) (v0 : Value) (n0 : Int) (n1 : Int) (ws0 : List Value) (h1 : H) : Option (Ex × List Value × H) :=
  asI .i64 (gv ws0 1) fun n2 =>
  ifB (lt n2 n1) (
    asK (gv ws0 1) fun n3 =>
    six v0 n3 1 fun b0 b1 =>
    ld Try.prog h1 3 b0 b1 fun v1 =>
    asI .i64 v1 fun n4 =>
    ifB (eq n0 n4) (
      out .ret [gv ws0 1, gv ws0 1] h1) (
      asI .i64 (gv ws0 1) fun n5 =>
      out .normal [gv ws0 0, (.int .i64 (add .i64 n5 1))] h1)) (
    out (.exit 0) [gv ws0 0, gv ws0 1] h1)

noncomputable def f80 (rec : Rec) (k : Nat) (v0 : Value) (n0 : Int) (h0 : H) : Option (Value × H) :=
  len v0 fun n1 =>
  lp k (f80_l1 rec k v0 n0 n1) [(.int .i64 0), (.int .i64 0)] h0 fun e0 ws1 h2 =>
  onE e0 0 (
    some ((.int .i64 (-1)), h2)) (
    onR e0 (
      some (gv ws1 0, h2)))

theorem e80 (rec : Rec) (k : Nat) (v0 : Value) (n0 : Int) (h : H) : bodyT Try.prog E0 SC (XC Try.prog rec k) 80 (Value × H) [.opq v0, .int .i64 n0] h (fun v h => some (v, h)) = f80 rec k v0 n0 h := by kernel_rfl
theorem t80 {k : Nat} {v0 : Value} {n0 : Int} {h h1 : H} {v : Value} (hh : f80 rn k v0 n0 h = some (v, h1)) : rn 80 #[v0, .int .i64 n0] h = some (v, trunc Try.prog h h1 v) :=
  run_of_bodyT (args := [.opq v0, .int .i64 n0]) rfl ((e80 _ _ _ _ _).trans hh)
theorem p80 {k : Nat} {v0 : Value} {n0 : Int} {h h1 : H} {v : Value} (hh : f80 rn k v0 n0 h = some (v, h1)) (hp : plainO v = true) (x : Ext h h1) : rn 80 #[v0, .int .i64 n0] h = some (v, h) := by rw [t80 hh, trunc_pure hp x]
theorem x80 {k : Nat} {v0 : Value} {n0 : Int} {h h1 : H} {v : Value} (hh : f80 rn k v0 n0 h = some (v, h1)) (hp : plainO v = false) : rn 80 #[v0, .int .i64 n0] h = some (v, h1) := by rw [t80 hh, trunc_not hp]

noncomputable def f81_l1 (_rec : Rec) (_k : Nat) (n1 : Int) (v3 : Value) (v4 : Value) (n3 : Int) (ws0 : List Value) (h5 : H) : Option (Ex × List Value × H) :=
  asI .i64 (gv ws0 0) fun n4 =>
  ifB (lt n4 n3) (
    asK (gv ws0 0) fun n5 =>
    six v4 n5 3 fun b2 b3 =>
    ld Try.prog h5 56 b2 b3 fun v5 =>
    al h5 56 [(.int .i64 0), (.int .i64 0), (.int .i64 0)] fun h6 =>
    st Try.prog h6 56 (nx h5) 0 v5 fun h7 =>
    ld Try.prog h7 3 (nx h5) 0 fun v6 =>
    asI .i64 v6 fun n6 =>
    nn n6 (
      ifB (eq (and .i64 (shr .i64 n1 n6) 1) 1) (
        asI .i64 (gv ws0 0) fun n7 =>
        out .normal [(.int .i64 (add .i64 n7 1))] h7) (
        ld Try.prog h7 3 (nx h5) (off 0 1) fun v7 =>
        asI .i64 v7 fun n8 =>
        nn n8 (
          ifB (eq (and .i64 (shr .i64 n1 n8) 1) 1) (
            asI .i64 (gv ws0 0) fun n9 =>
            out .normal [(.int .i64 (add .i64 n9 1))] h7) (
            ld Try.prog h7 3 (nx h5) 0 fun v8 =>
            asI .i64 v8 fun n10 =>
            six v3 n10 1 fun b4 b5 =>
            ld Try.prog h7 3 b4 b5 fun v9 =>
            asI .i64 v9 fun n11 =>
            ld Try.prog h7 3 (nx h5) (off 0 1) fun v10 =>
            asI .i64 v10 fun n12 =>
            six v3 n12 1 fun b6 b7 =>
            ld Try.prog h7 3 b6 b7 fun v11 =>
            asI .i64 v11 fun n13 =>
            ifB (not (eq n11 (-1))) (
              ifB (eq n13 (-1)) (
                ld Try.prog h7 3 (nx h5) (off 0 1) fun v12 =>
                asI .i64 v12 fun n14 =>
                ld Try.prog h7 3 (nx h5) (off 0 2) fun v13 =>
                asI .i64 v13 fun n15 =>
                six v3 n14 1 fun b8 b9 =>
                st Try.prog h7 3 b8 b9 (.int .i64 n15) fun h8 =>
                asI .i64 (gv ws0 0) fun n16 =>
                out .normal [(.int .i64 (add .i64 n16 1))] h8) (
                ifB (not (eq n13 (-1))) (
                  ifB (eq n11 (-1)) (
                    ld Try.prog h7 3 (nx h5) 0 fun v14 =>
                    asI .i64 v14 fun n17 =>
                    ld Try.prog h7 3 (nx h5) (off 0 2) fun v15 =>
                    asI .i64 v15 fun n18 =>
                    six v3 n17 1 fun b10 b11 =>
                    st Try.prog h7 3 b10 b11 (.int .i64 n18) fun h9 =>
                    asI .i64 (gv ws0 0) fun n19 =>
                    out .normal [(.int .i64 (add .i64 n19 1))] h9) (
                    asI .i64 (gv ws0 0) fun n20 =>
                    out .normal [(.int .i64 (add .i64 n20 1))] h7)) (
                  asI .i64 (gv ws0 0) fun n21 =>
                  out .normal [(.int .i64 (add .i64 n21 1))] h7))) (
              ifB (not (eq n13 (-1))) (
                ifB (eq n11 (-1)) (
                  ld Try.prog h7 3 (nx h5) 0 fun v16 =>
                  asI .i64 v16 fun n22 =>
                  ld Try.prog h7 3 (nx h5) (off 0 2) fun v17 =>
                  asI .i64 v17 fun n23 =>
                  six v3 n22 1 fun b12 b13 =>
                  st Try.prog h7 3 b12 b13 (.int .i64 n23) fun h10 =>
                  asI .i64 (gv ws0 0) fun n24 =>
                  out .normal [(.int .i64 (add .i64 n24 1))] h10) (
                  asI .i64 (gv ws0 0) fun n25 =>
                  out .normal [(.int .i64 (add .i64 n25 1))] h7)) (
                asI .i64 (gv ws0 0) fun n26 =>
                out .normal [(.int .i64 (add .i64 n26 1))] h7))))))) (
    out (.exit 0) [gv ws0 0] h5)

noncomputable def f81 (rec : Rec) (k : Nat) (v0 : Value) (n0 : Int) (n1 : Int) (h0 : H) : Option (Value × H) :=
  bx h0 31 v0 fun h1 =>
  bls Try.prog h1 25 1 [(0, (.int .i64 (-1)))] fun v1 h2 =>
  ld Try.prog h2 3 (nx h0) 0 fun v2 =>
  asI .i64 v2 fun n2 =>
  calls rec h2 101 [v1, (.int .i64 n2)] fun v3 h3 =>
  six v3 n0 1 fun b0 b1 =>
  st Try.prog h3 3 b0 b1 (.int .i64 0) fun h4 =>
  ld Try.prog h4 29 (nx h0) (off 0 1) fun v4 =>
  len v4 fun n3 =>
  lp k (f81_l1 rec k n1 v3 v4 n3) [(.int .i64 0)] h4 fun e0 _ h11 =>
  onE e0 0 (
    some (v3, h11)) (
    none)

theorem e81 (rec : Rec) (k : Nat) (v0 : Value) (n0 : Int) (n1 : Int) (h : H) : bodyT Try.prog E0 SC (XC Try.prog rec k) 81 (Value × H) [.opq v0, .int .i64 n0, .int .i64 n1] h (fun v h => some (v, h)) = f81 rec k v0 n0 n1 h := by kernel_rfl
theorem t81 {k : Nat} {v0 : Value} {n0 : Int} {n1 : Int} {h h1 : H} {v : Value} (hh : f81 rn k v0 n0 n1 h = some (v, h1)) : rn 81 #[v0, .int .i64 n0, .int .i64 n1] h = some (v, trunc Try.prog h h1 v) :=
  run_of_bodyT (args := [.opq v0, .int .i64 n0, .int .i64 n1]) rfl ((e81 _ _ _ _ _ _).trans hh)
theorem p81 {k : Nat} {v0 : Value} {n0 : Int} {n1 : Int} {h h1 : H} {v : Value} (hh : f81 rn k v0 n0 n1 h = some (v, h1)) (hp : plainO v = true) (x : Ext h h1) : rn 81 #[v0, .int .i64 n0, .int .i64 n1] h = some (v, h) := by rw [t81 hh, trunc_pure hp x]
theorem x81 {k : Nat} {v0 : Value} {n0 : Int} {n1 : Int} {h h1 : H} {v : Value} (hh : f81 rn k v0 n0 n1 h = some (v, h1)) (hp : plainO v = false) : rn 81 #[v0, .int .i64 n0, .int .i64 n1] h = some (v, h1) := by rw [t81 hh, trunc_not hp]

noncomputable def f82 (rec : Rec) (_k : Nat) (v0 : Value) (n0 : Int) (n1 : Int) (h0 : H) : Option (Value × H) :=
  bx h0 31 v0 fun h1 =>
  ld Try.prog h1 31 (nx h0) 0 fun v1 =>
  calls rec h1 71 [v1] fun v2 h2 =>
  asB v2 fun q0 =>
  ifB q0 (
    ld Try.prog h2 31 (nx h0) 0 fun v3 =>
    calls rec h2 72 [v3, (.int .i64 n0)] fun v4 h3 =>
    asB v4 fun q1 =>
    ifB q1 (
      ld Try.prog h3 31 (nx h0) 0 fun v5 =>
      calls rec h3 72 [v5, (.int .i64 n1)] fun v6 h4 =>
      asB v6 fun q2 =>
      ifB q2 (
        some ((.bool (not (eq n0 n1))), h4)) (
        some ((.bool false), h4))) (
      some ((.bool false), h3))) (
    some ((.bool false), h2))

theorem e82 (rec : Rec) (k : Nat) (v0 : Value) (n0 : Int) (n1 : Int) (h : H) : bodyT Try.prog E0 SC (XC Try.prog rec k) 82 (Value × H) [.opq v0, .int .i64 n0, .int .i64 n1] h (fun v h => some (v, h)) = f82 rec k v0 n0 n1 h := by kernel_rfl
theorem t82 {k : Nat} {v0 : Value} {n0 : Int} {n1 : Int} {h h1 : H} {v : Value} (hh : f82 rn k v0 n0 n1 h = some (v, h1)) : rn 82 #[v0, .int .i64 n0, .int .i64 n1] h = some (v, trunc Try.prog h h1 v) :=
  run_of_bodyT (args := [.opq v0, .int .i64 n0, .int .i64 n1]) rfl ((e82 _ _ _ _ _ _).trans hh)
theorem p82 {k : Nat} {v0 : Value} {n0 : Int} {n1 : Int} {h h1 : H} {v : Value} (hh : f82 rn k v0 n0 n1 h = some (v, h1)) (hp : plainO v = true) (x : Ext h h1) : rn 82 #[v0, .int .i64 n0, .int .i64 n1] h = some (v, h) := by rw [t82 hh, trunc_pure hp x]
theorem x82 {k : Nat} {v0 : Value} {n0 : Int} {n1 : Int} {h h1 : H} {v : Value} (hh : f82 rn k v0 n0 n1 h = some (v, h1)) (hp : plainO v = false) : rn 82 #[v0, .int .i64 n0, .int .i64 n1] h = some (v, h1) := by rw [t82 hh, trunc_not hp]

noncomputable def f85 (rec : Rec) (_k : Nat) (v0 : Value) (n0 : Int) (n1 : Int) (v1 : Value) (h0 : H) : Option (Value × H) :=
  bx h0 31 v0 fun h1 =>
  bx h1 3 (.int .i64 n1) fun h2 =>
  bx h2 89 v1 fun h3 =>
  al h3 25 [(.slice none 0 0)] fun h4 =>
  al h4 121 [.nilFunc] fun h5 =>
  st Try.prog h5 121 (nx h4) 0 (.func (.func 104) #[] #[(pt (nx h0) 0), (pt (nx h3) 0), (pt (nx h1) 0), (pt (nx h2) 0), (pt (nx h4) 0)]) fun h6 =>
  ld Try.prog h6 121 (nx h4) 0 fun v2 =>
  nn n0 (
    callsV rec h6 v2 [(.int .i64 n0), (.int .i64 0), (.int .i64 (shl .i64 1 n0))] fun _ h7 =>
    some (undef, h7))

theorem e85 (rec : Rec) (k : Nat) (v0 : Value) (n0 : Int) (n1 : Int) (v1 : Value) (h : H) : bodyT Try.prog E0 SC (XC Try.prog rec k) 85 (Value × H) [.opq v0, .int .i64 n0, .int .i64 n1, .opq v1] h (fun v h => some (v, h)) = f85 rec k v0 n0 n1 v1 h := by kernel_rfl
theorem t85 {k : Nat} {v0 : Value} {n0 : Int} {n1 : Int} {v1 : Value} {h h1 : H} {v : Value} (hh : f85 rn k v0 n0 n1 v1 h = some (v, h1)) : rn 85 #[v0, .int .i64 n0, .int .i64 n1, v1] h = some (v, trunc Try.prog h h1 v) :=
  run_of_bodyT (args := [.opq v0, .int .i64 n0, .int .i64 n1, .opq v1]) rfl ((e85 _ _ _ _ _ _ _).trans hh)
theorem p85 {k : Nat} {v0 : Value} {n0 : Int} {n1 : Int} {v1 : Value} {h h1 : H} {v : Value} (hh : f85 rn k v0 n0 n1 v1 h = some (v, h1)) (hp : plainO v = true) (x : Ext h h1) : rn 85 #[v0, .int .i64 n0, .int .i64 n1, v1] h = some (v, h) := by rw [t85 hh, trunc_pure hp x]
theorem x85 {k : Nat} {v0 : Value} {n0 : Int} {n1 : Int} {v1 : Value} {h h1 : H} {v : Value} (hh : f85 rn k v0 n0 n1 v1 h = some (v, h1)) (hp : plainO v = false) : rn 85 #[v0, .int .i64 n0, .int .i64 n1, v1] h = some (v, h1) := by rw [t85 hh, trunc_not hp]

noncomputable def f88_l1 (_rec : Rec) (_k : Nat) (v0 : Value) (v2 : Value) (n2 : Int) (ws0 : List Value) (h2 : H) : Option (Ex × List Value × H) :=
  asI .i64 (gv ws0 1) fun n3 =>
  ifB (lt n3 n2) (
    asK (gv ws0 1) fun n4 =>
    six v0 n4 1 fun b4 b5 =>
    ld Try.prog h2 3 b4 b5 fun v7 =>
    asI .i64 v7 fun n5 =>
    asP v2 fun b6 b7 =>
    ld Try.prog h2 29 b6 (off b7 1) fun v8 =>
    six v8 n5 3 fun b8 b9 =>
    ld Try.prog h2 3 b8 b9 fun v9 =>
    asI .i64 v9 fun n6 =>
    nn n6 (
      asP v2 fun b10 b11 =>
      ld Try.prog h2 29 b10 (off b11 1) fun v10 =>
      six v10 n5 3 fun b12 b13 =>
      ld Try.prog h2 3 b12 (off b13 1) fun v11 =>
      asI .i64 v11 fun n7 =>
      nn n7 (
        asI .i64 (gv ws0 0) fun n8 =>
        asI .i64 (gv ws0 1) fun n9 =>
        out .normal [(.int .i64 (or .i64 n8 (or .i64 (shl .i64 1 n6) (shl .i64 1 n7)))), (.int .i64 (add .i64 n9 1))] h2))) (
    out (.exit 0) [gv ws0 0, gv ws0 1] h2)

noncomputable def f88 (rec : Rec) (k : Nat) (v0 : Value) (v1 : Value) (v2 : Value) (v3 : Value) (v4 : Value) (v5 : Value) (h0 : H) : Option (Value × H) :=
  len v0 fun n0 =>
  ifB (eq n0 1) (
    asP v1 fun b0 b1 =>
    ld Try.prog h0 3 b0 b1 fun v6 =>
    asI .i64 v6 fun n1 =>
    asP v1 fun b2 b3 =>
    st Try.prog h0 3 b2 b3 (.int .i64 (add .i64 n1 1)) fun h1 =>
    some (undef, h1)) (
    len v0 fun n2 =>
    lp k (f88_l1 rec k v0 v2 n2) [(.int .i64 0), (.int .i64 0)] h0 fun e0 ws1 h3 =>
    onE e0 0 (
      asP v3 fun _ _ =>
      asP v3 fun b16 b17 =>
      ld Try.prog h3 98 b16 b17 fun v12 =>
      asP v4 fun _ _ =>
      asP v4 fun b20 b21 =>
      ld Try.prog h3 3 b20 b21 fun v13 =>
      asI .i64 v13 fun n10 =>
      nn n10 (
        asI .i64 (gv ws1 0) fun n11 =>
        asP v5 fun _ _ =>
        asP v5 fun b24 b25 =>
        ld Try.prog h3 3 b24 b25 fun v14 =>
        asI .i64 v14 fun n12 =>
        nn n12 (
          mup Try.prog h3 98 v12 (.int .i64 (andNot .i64 (andNot .i64 n11 (shl .i64 1 n10)) (shl .i64 1 n12))) (.bool true) fun h4 =>
          some (undef, h4)))) (
      none))

theorem e88 (rec : Rec) (k : Nat) (v0 : Value) (v1 : Value) (v2 : Value) (v3 : Value) (v4 : Value) (v5 : Value) (h : H) : bodyT Try.prog E0 SC (XC Try.prog rec k) 88 (Value × H) [.opq v0, .opq v1, .opq v2, .opq v3, .opq v4, .opq v5] h (fun v h => some (v, h)) = f88 rec k v0 v1 v2 v3 v4 v5 h := by kernel_rfl
theorem t88 {k : Nat} {v0 : Value} {v1 : Value} {v2 : Value} {v3 : Value} {v4 : Value} {v5 : Value} {h h1 : H} {v : Value} (hh : f88 rn k v0 v1 v2 v3 v4 v5 h = some (v, h1)) : rn 88 #[v0, v1, v2, v3, v4, v5] h = some (v, trunc Try.prog h h1 v) :=
  run_of_bodyT (args := [.opq v0, .opq v1, .opq v2, .opq v3, .opq v4, .opq v5]) rfl ((e88 _ _ _ _ _ _ _ _ _).trans hh)
theorem p88 {k : Nat} {v0 : Value} {v1 : Value} {v2 : Value} {v3 : Value} {v4 : Value} {v5 : Value} {h h1 : H} {v : Value} (hh : f88 rn k v0 v1 v2 v3 v4 v5 h = some (v, h1)) (hp : plainO v = true) (x : Ext h h1) : rn 88 #[v0, v1, v2, v3, v4, v5] h = some (v, h) := by rw [t88 hh, trunc_pure hp x]
theorem x88 {k : Nat} {v0 : Value} {v1 : Value} {v2 : Value} {v3 : Value} {v4 : Value} {v5 : Value} {h h1 : H} {v : Value} (hh : f88 rn k v0 v1 v2 v3 v4 v5 h = some (v, h1)) (hp : plainO v = false) : rn 88 #[v0, v1, v2, v3, v4, v5] h = some (v, h1) := by rw [t88 hh, trunc_not hp]

noncomputable def f90 (rec : Rec) (_k : Nat) (v0 : Value) (v1 : Value) (v2 : Value) (h0 : H) : Option (Value × H) :=
  bx h0 56 v0 fun h1 =>
  ld Try.prog h1 56 (nx h0) 0 fun v3 =>
  asP v1 fun b0 b1 =>
  ld Try.prog h1 3 b0 b1 fun v4 =>
  asI .i64 v4 fun n0 =>
  calls rec h1 73 [v3, (.int .i64 n0)] fun v5 h2 =>
  asB v5 fun q0 =>
  ifB q0 (
    ld Try.prog h2 56 (nx h0) 0 fun v6 =>
    asP v2 fun b2 b3 =>
    ld Try.prog h2 3 b2 b3 fun v7 =>
    asI .i64 v7 fun n1 =>
    calls rec h2 73 [v6, (.int .i64 n1)] fun v8 h3 =>
    asB v8 fun q1 =>
    some ((.bool q1), h3)) (
    some ((.bool false), h2))

theorem e90 (rec : Rec) (k : Nat) (v0 : Value) (v1 : Value) (v2 : Value) (h : H) : bodyT Try.prog E0 SC (XC Try.prog rec k) 90 (Value × H) [.opq v0, .opq v1, .opq v2] h (fun v h => some (v, h)) = f90 rec k v0 v1 v2 h := by kernel_rfl
theorem t90 {k : Nat} {v0 : Value} {v1 : Value} {v2 : Value} {h h1 : H} {v : Value} (hh : f90 rn k v0 v1 v2 h = some (v, h1)) : rn 90 #[v0, v1, v2] h = some (v, trunc Try.prog h h1 v) :=
  run_of_bodyT (args := [.opq v0, .opq v1, .opq v2]) rfl ((e90 _ _ _ _ _ _).trans hh)
theorem p90 {k : Nat} {v0 : Value} {v1 : Value} {v2 : Value} {h h1 : H} {v : Value} (hh : f90 rn k v0 v1 v2 h = some (v, h1)) (hp : plainO v = true) (x : Ext h h1) : rn 90 #[v0, v1, v2] h = some (v, h) := by rw [t90 hh, trunc_pure hp x]
theorem x90 {k : Nat} {v0 : Value} {v1 : Value} {v2 : Value} {h h1 : H} {v : Value} (hh : f90 rn k v0 v1 v2 h = some (v, h1)) (hp : plainO v = false) : rn 90 #[v0, v1, v2] h = some (v, h1) := by rw [t90 hh, trunc_not hp]

noncomputable def f92_l2 (_rec : Rec) (_k : Nat) (h0 : H) (v3 : Value) (n5 : Int) (ws1 : List Value) (h4 : H) : Option (Ex × List Value × H) :=
  asI .i64 (gv ws1 1) fun n6 =>
  ifB (lt n6 n5) (
    asK (gv ws1 1) fun n7 =>
    six v3 n7 1 fun b2 b3 =>
    ld Try.prog h4 3 b2 b3 fun v4 =>
    asI .i64 v4 fun n8 =>
    ld Try.prog h4 22 (nx h0) (off 0 1) fun v5 =>
    six v5 n8 3 fun b4 b5 =>
    ld Try.prog h4 3 b4 b5 fun v6 =>
    asI .i64 v6 fun n9 =>
    nn n9 (
      ld Try.prog h4 22 (nx h0) (off 0 1) fun v7 =>
      six v7 n8 3 fun b6 b7 =>
      ld Try.prog h4 3 b6 (off b7 1) fun v8 =>
      asI .i64 v8 fun n10 =>
      nn n10 (
        asI .i64 (gv ws1 0) fun n11 =>
        asI .i64 (gv ws1 1) fun n12 =>
        out .normal [(.int .i64 (or .i64 n11 (or .i64 (shl .i64 1 n9) (shl .i64 1 n10)))), (.int .i64 (add .i64 n12 1))] h4))) (
    out (.exit 2) [gv ws1 0, gv ws1 1] h4)

noncomputable def f92_l3 (_rec : Rec) (_k : Nat) (n0 : Int) (n1 : Int) (ws0 : List Value) (n13 : Int) (n14 : Int) (ws3 : List Value) (h6 : H) : Option (Ex × List Value × H) :=
  asI .i64 (gv ws3 1) fun n15 =>
  ifB (lt n15 n14) (
    asK (gv ws3 1) fun n16 =>
    six (gv ws0 1) n16 1 fun b8 b9 =>
    ld Try.prog h6 3 b8 b9 fun v9 =>
    asI .i64 v9 fun n17 =>
    asB (gv ws3 0) fun q0 =>
    ifB q0 (
      asI .i64 (gv ws3 1) fun n18 =>
      out .normal [(.bool (not (eq n17 (andNot .i64 n13 (or .i64 (shl .i64 1 n0) (shl .i64 1 n1)))))), (.int .i64 (add .i64 n18 1))] h6) (
      asI .i64 (gv ws3 1) fun n19 =>
      out .normal [(.bool false), (.int .i64 (add .i64 n19 1))] h6)) (
    out (.exit 4) [gv ws3 0, gv ws3 1] h6)

noncomputable def f92_l1 (rec : Rec) (k : Nat) (n0 : Int) (n1 : Int) (h0 : H) (v2 : Value) (n2 : Int) (ws0 : List Value) (h3 : H) : Option (Ex × List Value × H) :=
  asI .i64 (gv ws0 2) fun n3 =>
  ifB (lt n3 n2) (
    asK (gv ws0 2) fun n4 =>
    six v2 n4 1 fun b0 b1 =>
    ld Try.prog h3 25 b0 b1 fun v3 =>
    len v3 fun n5 =>
    lp k (f92_l2 rec k h0 v3 n5) [(.int .i64 0), (.int .i64 0)] h3 fun e0 ws2 h5 =>
    onE e0 2 (
      nn n0 (
        nn n1 (
          asI .i64 (gv ws2 0) fun n13 =>
          len (gv ws0 1) fun n14 =>
          lp k (f92_l3 rec k n0 n1 ws0 n13 n14) [(.bool (not (eq (andNot .i64 n13 (or .i64 (shl .i64 1 n0) (shl .i64 1 n1))) 0))), (.int .i64 0)] h5 fun e1 ws4 h7 =>
          onE e1 4 (
            ifB (eq (andNot .i64 n13 (or .i64 (shl .i64 1 n0) (shl .i64 1 n1))) 0) (
              asI .i64 (gv ws0 0) fun n20 =>
              asB (gv ws4 0) fun q1 =>
              ifB q1 (
                bls Try.prog h7 25 1 [(0, (.int .i64 (andNot .i64 n13 (or .i64 (shl .i64 1 n0) (shl .i64 1 n1)))))] fun v10 h8 =>
                app Try.prog h8 25 25 (gv ws0 1) v10 fun v11 h9 =>
                asI .i64 (gv ws0 2) fun n21 =>
                out .normal [(.int .i64 (add .i64 n20 1)), v11, (.int .i64 (add .i64 n21 1))] h9) (
                asI .i64 (gv ws0 2) fun n22 =>
                out .normal [(.int .i64 (add .i64 n20 1)), gv ws0 1, (.int .i64 (add .i64 n22 1))] h7)) (
              asB (gv ws4 0) fun q2 =>
              ifB q2 (
                bls Try.prog h7 25 1 [(0, (.int .i64 (andNot .i64 n13 (or .i64 (shl .i64 1 n0) (shl .i64 1 n1)))))] fun v12 h10 =>
                app Try.prog h10 25 25 (gv ws0 1) v12 fun v13 h11 =>
                asI .i64 (gv ws0 2) fun n23 =>
                out .normal [gv ws0 0, v13, (.int .i64 (add .i64 n23 1))] h11) (
                asI .i64 (gv ws0 2) fun n24 =>
                out .normal [gv ws0 0, gv ws0 1, (.int .i64 (add .i64 n24 1))] h7))) (
            none)))) (
      none)) (
    out (.exit 0) [gv ws0 0, gv ws0 1, gv ws0 2] h3)

noncomputable def f92 (rec : Rec) (k : Nat) (v0 : Value) (n0 : Int) (n1 : Int) (h0 : H) : Option (Value × H) :=
  bx h0 24 v0 fun h1 =>
  ld Try.prog h1 24 (nx h0) 0 fun v1 =>
  calls rec h1 98 [v1, (.int .i64 n0), (.int .i64 n1)] fun v2 h2 =>
  len v2 fun n2 =>
  lp k (f92_l1 rec k n0 n1 h0 v2 n2) [(.int .i64 0), (.slice none 0 0), (.int .i64 0)] h2 fun e2 ws5 h12 =>
  onE e2 0 (
    some ((.tuple #[gv ws5 1, gv ws5 0]), h12)) (
    none)

theorem e92 (rec : Rec) (k : Nat) (v0 : Value) (n0 : Int) (n1 : Int) (h : H) : bodyT Try.prog E0 SC (XC Try.prog rec k) 92 (Value × H) [.opq v0, .int .i64 n0, .int .i64 n1] h (fun v h => some (v, h)) = f92 rec k v0 n0 n1 h := by kernel_rfl
theorem t92 {k : Nat} {v0 : Value} {n0 : Int} {n1 : Int} {h h1 : H} {v : Value} (hh : f92 rn k v0 n0 n1 h = some (v, h1)) : rn 92 #[v0, .int .i64 n0, .int .i64 n1] h = some (v, trunc Try.prog h h1 v) :=
  run_of_bodyT (args := [.opq v0, .int .i64 n0, .int .i64 n1]) rfl ((e92 _ _ _ _ _ _).trans hh)
theorem p92 {k : Nat} {v0 : Value} {n0 : Int} {n1 : Int} {h h1 : H} {v : Value} (hh : f92 rn k v0 n0 n1 h = some (v, h1)) (hp : plainO v = true) (x : Ext h h1) : rn 92 #[v0, .int .i64 n0, .int .i64 n1] h = some (v, h) := by rw [t92 hh, trunc_pure hp x]
theorem x92 {k : Nat} {v0 : Value} {n0 : Int} {n1 : Int} {h h1 : H} {v : Value} (hh : f92 rn k v0 n0 n1 h = some (v, h1)) (hp : plainO v = false) : rn 92 #[v0, .int .i64 n0, .int .i64 n1] h = some (v, h1) := by rw [t92 hh, trunc_not hp]

noncomputable def f93_l1 (rec : Rec) (_k : Nat) (v0 : Value) (n0 : Int) (n1 : Int) (ws0 : List Value) (h1 : H) : Option (Ex × List Value × H) :=
  asI .i64 (gv ws0 1) fun n2 =>
  ifB (lt n2 n1) (
    asK (gv ws0 1) fun n3 =>
    six v0 n3 1 fun b0 b1 =>
    ld Try.prog h1 3 b0 b1 fun v1 =>
    asI .i64 v1 fun n4 =>
    ifB (eq (and .i64 n4 n0) 0) (
      asI .i64 (gv ws0 1) fun n5 =>
      sli Try.prog h1 25 v0 (some (.int .i64 (add .i64 n5 1))) none none fun v2 =>
      calls rec h1 93 [v2, (.int .i64 (or .i64 n0 n4))] fun v3 h2 =>
      asI .i64 v3 fun n6 =>
      asI .i64 (gv ws0 0) fun n7 =>
      asI .i64 (gv ws0 1) fun n8 =>
      out .normal [(.int .i64 (imax n7 (add .i64 1 n6))), (.int .i64 (add .i64 n8 1))] h2) (
      asI .i64 (gv ws0 1) fun n9 =>
      out .normal [gv ws0 0, (.int .i64 (add .i64 n9 1))] h1)) (
    out (.exit 0) [gv ws0 0, gv ws0 1] h1)

noncomputable def f93 (rec : Rec) (k : Nat) (v0 : Value) (n0 : Int) (h0 : H) : Option (Value × H) :=
  len v0 fun n1 =>
  lp k (f93_l1 rec k v0 n0 n1) [(.int .i64 0), (.int .i64 0)] h0 fun e0 ws1 h3 =>
  onE e0 0 (
    some (gv ws1 0, h3)) (
    none)

theorem e93 (rec : Rec) (k : Nat) (v0 : Value) (n0 : Int) (h : H) : bodyT Try.prog E0 SC (XC Try.prog rec k) 93 (Value × H) [.opq v0, .int .i64 n0] h (fun v h => some (v, h)) = f93 rec k v0 n0 h := by kernel_rfl
theorem t93 {k : Nat} {v0 : Value} {n0 : Int} {h h1 : H} {v : Value} (hh : f93 rn k v0 n0 h = some (v, h1)) : rn 93 #[v0, .int .i64 n0] h = some (v, trunc Try.prog h h1 v) :=
  run_of_bodyT (args := [.opq v0, .int .i64 n0]) rfl ((e93 _ _ _ _ _).trans hh)
theorem p93 {k : Nat} {v0 : Value} {n0 : Int} {h h1 : H} {v : Value} (hh : f93 rn k v0 n0 h = some (v, h1)) (hp : plainO v = true) (x : Ext h h1) : rn 93 #[v0, .int .i64 n0] h = some (v, h) := by rw [t93 hh, trunc_pure hp x]
theorem x93 {k : Nat} {v0 : Value} {n0 : Int} {h h1 : H} {v : Value} (hh : f93 rn k v0 n0 h = some (v, h1)) (hp : plainO v = false) : rn 93 #[v0, .int .i64 n0] h = some (v, h1) := by rw [t93 hh, trunc_not hp]

noncomputable def f94_l1 (_rec : Rec) (_k : Nat) (h2 : H) (v3 : Value) (n1 : Int) (ws0 : List Value) (h5 : H) : Option (Ex × List Value × H) :=
  asI .i64 (gv ws0 0) fun n2 =>
  ifB (lt n2 n1) (
    asK (gv ws0 0) fun n3 =>
    six v3 n3 3 fun b0 b1 =>
    ld Try.prog h5 56 b0 b1 fun v4 =>
    al h5 56 [(.int .i64 0), (.int .i64 0), (.int .i64 0)] fun h6 =>
    st Try.prog h6 56 (nx h5) 0 v4 fun h7 =>
    ld Try.prog h7 29 (nx h2) (off 0 1) fun v5 =>
    ld Try.prog h7 3 (nx h5) 0 fun v6 =>
    asI .i64 v6 fun n4 =>
    ld Try.prog h7 3 (nx h5) (off 0 1) fun v7 =>
    asI .i64 v7 fun n5 =>
    ld Try.prog h7 3 (nx h5) (off 0 2) fun v8 =>
    asI .i64 v8 fun n6 =>
    bld Try.prog 56 [(0, (.int .i64 n4)), (1, (.int .i64 n5)), (2, (.int .i64 (sub .i64 31 n6)))] fun v9 =>
    bls Try.prog h7 29 1 [(0, v9)] fun v10 h8 =>
    app Try.prog h8 29 29 v5 v10 fun v11 h9 =>
    st Try.prog h9 29 (nx h2) (off 0 1) v11 fun h10 =>
    asI .i64 (gv ws0 0) fun n7 =>
    out .normal [(.int .i64 (add .i64 n7 1))] h10) (
    out (.exit 0) [gv ws0 0] h5)

noncomputable def f94 (rec : Rec) (k : Nat) (v0 : Value) (h0 : H) : Option (Value × H) :=
  bx h0 31 v0 fun h1 =>
  al h1 31 [(.int .i64 0), (.slice none 0 0)] fun h2 =>
  ld Try.prog h2 3 (nx h0) 0 fun v1 =>
  asI .i64 v1 fun n0 =>
  bld Try.prog 31 [(0, (.int .i64 n0))] fun v2 =>
  al h2 31 [(.int .i64 0), (.slice none 0 0)] fun h3 =>
  st Try.prog h3 31 (nx h2) 0 v2 fun h4 =>
  ld Try.prog h4 29 (nx h0) (off 0 1) fun v3 =>
  len v3 fun n1 =>
  lp k (f94_l1 rec k h2 v3 n1) [(.int .i64 0)] h4 fun e0 _ h11 =>
  onE e0 0 (
    ld Try.prog h11 29 (nx h2) (off 0 1) fun v12 =>
    calls rec h11 108 [v12, (.func (.func 109) #[] #[])] fun _ h12 =>
    ld Try.prog h12 31 (nx h2) 0 fun v14 =>
    st Try.prog h12 31 (nx h1) 0 v14 fun h13 =>
    ld Try.prog h13 31 (nx h1) 0 fun v15 =>
    some (v15, h13)) (
    none)

theorem e94 (rec : Rec) (k : Nat) (v0 : Value) (h : H) : bodyT Try.prog E0 SC (XC Try.prog rec k) 94 (Value × H) [.opq v0] h (fun v h => some (v, h)) = f94 rec k v0 h := by kernel_rfl
theorem t94 {k : Nat} {v0 : Value} {h h1 : H} {v : Value} (hh : f94 rn k v0 h = some (v, h1)) : rn 94 #[v0] h = some (v, trunc Try.prog h h1 v) :=
  run_of_bodyT (args := [.opq v0]) rfl ((e94 _ _ _ _).trans hh)
theorem p94 {k : Nat} {v0 : Value} {h h1 : H} {v : Value} (hh : f94 rn k v0 h = some (v, h1)) (hp : plainO v = true) (x : Ext h h1) : rn 94 #[v0] h = some (v, h) := by rw [t94 hh, trunc_pure hp x]
theorem x94 {k : Nat} {v0 : Value} {h h1 : H} {v : Value} (hh : f94 rn k v0 h = some (v, h1)) (hp : plainO v = false) : rn 94 #[v0] h = some (v, h1) := by rw [t94 hh, trunc_not hp]

noncomputable def f97 (rec : Rec) (_k : Nat) (v0 : Value) (v1 : Value) (v2 : Value) (h0 : H) : Option (Value × H) :=
  asP v1 fun _ _ =>
  asP v1 fun b2 b3 =>
  ld Try.prog h0 25 b2 b3 fun v3 =>
  eqv Try.prog 25 v3 (.slice none 0 0) fun q0 =>
  ifB q0 (
    calls rec h0 75 [v0] fun v4 h1 =>
    asP v1 fun b4 b5 =>
    st Try.prog h1 25 b4 b5 v4 fun h2 =>
    some (undef, h2)) (
    asP v2 fun _ _ =>
    asP v2 fun b8 b9 =>
    ld Try.prog h0 61 b8 b9 fun v5 =>
    callsV rec h0 v5 [v0] fun v6 h3 =>
    asI .i64 v6 fun n0 =>
    asP v2 fun b10 _ =>
    asP v2 fun b12 b13 =>
    ld Try.prog h3 61 b12 b13 fun v7 =>
    ck (freq b10 (nx h0) (same h3 h0)) (
      asP v1 fun b14 _ =>
      asP v1 fun b16 b17 =>
      ld Try.prog h3 25 b16 b17 fun v8 =>
      ck (freq b14 (nx h0) (same h3 h0)) (
        callsV rec h3 v7 [v8] fun v9 h4 =>
        asI .i64 v9 fun n1 =>
        ifB (lt n0 n1) (
          calls rec h4 75 [v0] fun v10 h5 =>
          asP v1 fun b18 b19 =>
          st Try.prog h5 25 b18 b19 v10 fun h6 =>
          some (undef, h6)) (
          some (undef, h4)))))

theorem e97 (rec : Rec) (k : Nat) (v0 : Value) (v1 : Value) (v2 : Value) (h : H) : bodyT Try.prog E0 SC (XC Try.prog rec k) 97 (Value × H) [.opq v0, .opq v1, .opq v2] h (fun v h => some (v, h)) = f97 rec k v0 v1 v2 h := by kernel_rfl
theorem t97 {k : Nat} {v0 : Value} {v1 : Value} {v2 : Value} {h h1 : H} {v : Value} (hh : f97 rn k v0 v1 v2 h = some (v, h1)) : rn 97 #[v0, v1, v2] h = some (v, trunc Try.prog h h1 v) :=
  run_of_bodyT (args := [.opq v0, .opq v1, .opq v2]) rfl ((e97 _ _ _ _ _ _).trans hh)
theorem p97 {k : Nat} {v0 : Value} {v1 : Value} {v2 : Value} {h h1 : H} {v : Value} (hh : f97 rn k v0 v1 v2 h = some (v, h1)) (hp : plainO v = true) (x : Ext h h1) : rn 97 #[v0, v1, v2] h = some (v, h) := by rw [t97 hh, trunc_pure hp x]
theorem x97 {k : Nat} {v0 : Value} {v1 : Value} {v2 : Value} {h h1 : H} {v : Value} (hh : f97 rn k v0 v1 v2 h = some (v, h1)) (hp : plainO v = false) : rn 97 #[v0, v1, v2] h = some (v, h1) := by rw [t97 hh, trunc_not hp]

noncomputable def f98 (rec : Rec) (_k : Nat) (v0 : Value) (n0 : Int) (n1 : Int) (h0 : H) : Option (Value × H) :=
  bx h0 24 v0 fun h1 =>
  ld Try.prog h1 24 (nx h0) 0 fun v1 =>
  nn n0 (
    calls rec h1 111 [v1, (.int .i64 n0), (.int .i64 n1), (.int .i64 (shl .i64 1 n0)), (.int .i64 0), (.slice none 0 0)] fun v2 h2 =>
    some (v2, h2))

theorem e98 (rec : Rec) (k : Nat) (v0 : Value) (n0 : Int) (n1 : Int) (h : H) : bodyT Try.prog E0 SC (XC Try.prog rec k) 98 (Value × H) [.opq v0, .int .i64 n0, .int .i64 n1] h (fun v h => some (v, h)) = f98 rec k v0 n0 n1 h := by kernel_rfl
theorem t98 {k : Nat} {v0 : Value} {n0 : Int} {n1 : Int} {h h1 : H} {v : Value} (hh : f98 rn k v0 n0 n1 h = some (v, h1)) : rn 98 #[v0, .int .i64 n0, .int .i64 n1] h = some (v, trunc Try.prog h h1 v) :=
  run_of_bodyT (args := [.opq v0, .int .i64 n0, .int .i64 n1]) rfl ((e98 _ _ _ _ _ _).trans hh)
theorem p98 {k : Nat} {v0 : Value} {n0 : Int} {n1 : Int} {h h1 : H} {v : Value} (hh : f98 rn k v0 n0 n1 h = some (v, h1)) (hp : plainO v = true) (x : Ext h h1) : rn 98 #[v0, .int .i64 n0, .int .i64 n1] h = some (v, h) := by rw [t98 hh, trunc_pure hp x]
theorem x98 {k : Nat} {v0 : Value} {n0 : Int} {n1 : Int} {h h1 : H} {v : Value} (hh : f98 rn k v0 n0 n1 h = some (v, h1)) (hp : plainO v = false) : rn 98 #[v0, .int .i64 n0, .int .i64 n1] h = some (v, h1) := by rw [t98 hh, trunc_not hp]

noncomputable def f101_l1 (_rec : Rec) (_k : Nat) (v4 : Value) (ws0 : List Value) (h4 : H) : Option (Ex × List Value × H) :=
  len v4 fun n5 =>
  asI .i64 (gv ws0 0) fun n6 =>
  ifB (lt n6 n5) (
    sli Try.prog h4 25 v4 (some (gv ws0 0)) none none fun v5 =>
    sli Try.prog h4 25 v4 none (some (gv ws0 0)) none fun v6 =>
    cpy Try.prog h4 25 v5 v6 fun n7 h5 =>
    asI .i64 (gv ws0 0) fun n8 =>
    out .normal [(.int .i64 (add .i64 n8 n7))] h5) (
    out (.exit 0) [gv ws0 0] h4)

noncomputable def f101 (rec : Rec) (k : Nat) (v0 : Value) (n0 : Int) (h0 : H) : Option (Value × H) :=
  ifB (lt n0 0) (
    none) (
    len v0 fun n1 =>
    calls rec h0 112 [(.int .u64 (wr .u64 n1)), (.int .u64 (wr .u64 n0))] fun v1 h1 =>
    ext v1 0 fun v2 =>
    asI .u64 v2 fun n2 =>
    ext v1 1 fun v3 =>
    asI .u64 v3 fun n3 =>
    ifB (lt 0 n2) (
      none) (
      ifB (lt 9223372036854775807 n3) (
        none) (
        mks Try.prog h1 25 (wr .i64 n3) (wr .i64 n3) fun v4 h2 =>
        cpy Try.prog h2 25 v4 v0 fun n4 h3 =>
        lp k (f101_l1 rec k v4) [(.int .i64 n4)] h3 fun e0 _ h6 =>
        onE e0 0 (
          some (v4, h6)) (
          none))))

theorem e101 (rec : Rec) (k : Nat) (v0 : Value) (n0 : Int) (h : H) : bodyT Try.prog E0 SC (XC Try.prog rec k) 101 (Value × H) [.opq v0, .int .i64 n0] h (fun v h => some (v, h)) = f101 rec k v0 n0 h := by kernel_rfl
theorem t101 {k : Nat} {v0 : Value} {n0 : Int} {h h1 : H} {v : Value} (hh : f101 rn k v0 n0 h = some (v, h1)) : rn 101 #[v0, .int .i64 n0] h = some (v, trunc Try.prog h h1 v) :=
  run_of_bodyT (args := [.opq v0, .int .i64 n0]) rfl ((e101 _ _ _ _ _).trans hh)
theorem p101 {k : Nat} {v0 : Value} {n0 : Int} {h h1 : H} {v : Value} (hh : f101 rn k v0 n0 h = some (v, h1)) (hp : plainO v = true) (x : Ext h h1) : rn 101 #[v0, .int .i64 n0] h = some (v, h) := by rw [t101 hh, trunc_pure hp x]
theorem x101 {k : Nat} {v0 : Value} {n0 : Int} {h h1 : H} {v : Value} (hh : f101 rn k v0 n0 h = some (v, h1)) (hp : plainO v = false) : rn 101 #[v0, .int .i64 n0] h = some (v, h1) := by rw [t101 hh, trunc_not hp]

noncomputable def f104_l1 (rec : Rec) (_k : Nat) (n0 : Int) (n1 : Int) (n2 : Int) (v1 : Value) (v2 : Value) (v3 : Value) (v4 : Value) (v5 : Value) (n3 : Int) (ws0 : List Value) (h1 : H) : Option (Ex × List Value × H) :=
  asI .i64 (gv ws0 0) fun n4 =>
  ifB (lt n4 n3) (
    asK (gv ws0 0) fun n5 =>
    six v5 n5 3 fun b2 b3 =>
    ld Try.prog h1 56 b2 b3 fun v6 =>
    al h1 56 [(.int .i64 0), (.int .i64 0), (.int .i64 0)] fun h2 =>
    st Try.prog h2 56 (nx h1) 0 v6 fun h3 =>
    ld Try.prog h3 3 (nx h1) (off 0 2) fun v7 =>
    asI .i64 v7 fun n6 =>
    ifB (le n6 n1) (
      asI .i64 (gv ws0 0) fun n7 =>
      out .normal [(.int .i64 (add .i64 n7 1))] h3) (
      ld Try.prog h3 56 (nx h1) 0 fun v8 =>
      calls rec h3 73 [v8, (.int .i64 n0)] fun v9 h4 =>
      asB v9 fun q0 =>
      ifB (not q0) (
        asI .i64 (gv ws0 0) fun n8 =>
        out .normal [(.int .i64 (add .i64 n8 1))] h4) (
        ld Try.prog h4 56 (nx h1) 0 fun v10 =>
        calls rec h4 74 [v10, (.int .i64 n0)] fun v11 h5 =>
        asI .i64 v11 fun n9 =>
        nn n9 (
          ifB (eq (and .i64 (shr .i64 n2 n9) 1) 1) (
            asI .i64 (gv ws0 0) fun n10 =>
            out .normal [(.int .i64 (add .i64 n10 1))] h5) (
            ld Try.prog h5 56 (nx h1) 0 fun v12 =>
            calls rec h5 74 [v12, (.int .i64 n0)] fun v13 h6 =>
            asI .i64 v13 fun n11 =>
            asP v1 fun b4 b5 =>
            ld Try.prog h6 25 b4 b5 fun v14 =>
            bls Try.prog h6 25 1 [(0, gv ws0 0)] fun v15 h7 =>
            app Try.prog h7 25 25 v14 v15 fun v16 h8 =>
            asP v1 fun b6 b7 =>
            st Try.prog h8 25 b6 b7 v16 fun h9 =>
            asP v2 fun b8 b9 =>
            ld Try.prog h9 3 b8 b9 fun v17 =>
            asI .i64 v17 fun n12 =>
            ifB (eq n11 n12) (
              asP v3 fun b10 b11 =>
              ld Try.prog h9 89 b10 b11 fun v18 =>
              asP v1 fun b12 b13 =>
              ld Try.prog h9 25 b12 b13 fun v19 =>
              callsV rec h9 v18 [v19] fun _ h10 =>
              asP v1 fun b14 b15 =>
              ld Try.prog h10 25 b14 b15 fun v21 =>
              asP v1 fun b16 b17 =>
              ld Try.prog h10 25 b16 b17 fun v22 =>
              len v22 fun n13 =>
              sli Try.prog h10 25 v21 none (some (.int .i64 (sub .i64 n13 1))) none fun v23 =>
              asP v1 fun b18 b19 =>
              st Try.prog h10 25 b18 b19 v23 fun h11 =>
              asI .i64 (gv ws0 0) fun n14 =>
              out .normal [(.int .i64 (add .i64 n14 1))] h11) (
              asP v4 fun _ _ =>
              asP v4 fun b22 b23 =>
              ld Try.prog h9 121 b22 b23 fun v24 =>
              ld Try.prog h9 3 (nx h1) (off 0 2) fun v25 =>
              asI .i64 v25 fun n15 =>
              nn n11 (
                callsV rec h9 v24 [(.int .i64 n11), (.int .i64 n15), (.int .i64 (or .i64 n2 (shl .i64 1 n11)))] fun _ h12 =>
                asP v1 fun b24 b25 =>
                ld Try.prog h12 25 b24 b25 fun v27 =>
                asP v1 fun b26 b27 =>
                ld Try.prog h12 25 b26 b27 fun v28 =>
                len v28 fun n16 =>
                sli Try.prog h12 25 v27 none (some (.int .i64 (sub .i64 n16 1))) none fun v29 =>
                asP v1 fun b28 b29 =>
                st Try.prog h12 25 b28 b29 v29 fun h13 =>
                asI .i64 (gv ws0 0) fun n17 =>
                out .normal [(.int .i64 (add .i64 n17 1))] h13))))))) (
    out (.exit 0) [gv ws0 0] h1)

noncomputable def f104 (rec : Rec) (k : Nat) (n0 : Int) (n1 : Int) (n2 : Int) (v0 : Value) (v1 : Value) (v2 : Value) (v3 : Value) (v4 : Value) (h0 : H) : Option (Value × H) :=
  asP v0 fun b0 b1 =>
  ld Try.prog h0 29 b0 (off b1 1) fun v5 =>
  len v5 fun n3 =>
  lp k (f104_l1 rec k n0 n1 n2 v1 v2 v3 v4 v5 n3) [(.int .i64 0)] h0 fun e0 _ h14 =>
  onE e0 0 (
    some (undef, h14)) (
    none)

theorem e104 (rec : Rec) (k : Nat) (n0 : Int) (n1 : Int) (n2 : Int) (v0 : Value) (v1 : Value) (v2 : Value) (v3 : Value) (v4 : Value) (h : H) : bodyT Try.prog E0 SC (XC Try.prog rec k) 104 (Value × H) [.int .i64 n0, .int .i64 n1, .int .i64 n2, .opq v0, .opq v1, .opq v2, .opq v3, .opq v4] h (fun v h => some (v, h)) = f104 rec k n0 n1 n2 v0 v1 v2 v3 v4 h := by kernel_rfl
theorem t104 {k : Nat} {n0 : Int} {n1 : Int} {n2 : Int} {v0 : Value} {v1 : Value} {v2 : Value} {v3 : Value} {v4 : Value} {h h1 : H} {v : Value} (hh : f104 rn k n0 n1 n2 v0 v1 v2 v3 v4 h = some (v, h1)) : rn 104 #[.int .i64 n0, .int .i64 n1, .int .i64 n2, v0, v1, v2, v3, v4] h = some (v, trunc Try.prog h h1 v) :=
  run_of_bodyT (args := [.int .i64 n0, .int .i64 n1, .int .i64 n2, .opq v0, .opq v1, .opq v2, .opq v3, .opq v4]) rfl ((e104 _ _ _ _ _ _ _ _ _ _ _).trans hh)
theorem p104 {k : Nat} {n0 : Int} {n1 : Int} {n2 : Int} {v0 : Value} {v1 : Value} {v2 : Value} {v3 : Value} {v4 : Value} {h h1 : H} {v : Value} (hh : f104 rn k n0 n1 n2 v0 v1 v2 v3 v4 h = some (v, h1)) (hp : plainO v = true) (x : Ext h h1) : rn 104 #[.int .i64 n0, .int .i64 n1, .int .i64 n2, v0, v1, v2, v3, v4] h = some (v, h) := by rw [t104 hh, trunc_pure hp x]
theorem x104 {k : Nat} {n0 : Int} {n1 : Int} {n2 : Int} {v0 : Value} {v1 : Value} {v2 : Value} {v3 : Value} {v4 : Value} {h h1 : H} {v : Value} (hh : f104 rn k n0 n1 n2 v0 v1 v2 v3 v4 h = some (v, h1)) (hp : plainO v = false) : rn 104 #[.int .i64 n0, .int .i64 n1, .int .i64 n2, v0, v1, v2, v3, v4] h = some (v, h1) := by rw [t104 hh, trunc_not hp]

noncomputable def f111_l1 (rec : Rec) (_k : Nat) (n0 : Int) (n1 : Int) (n2 : Int) (n3 : Int) (v1 : Value) (h0 : H) (v3 : Value) (n4 : Int) (ws0 : List Value) (h3 : H) : Option (Ex × List Value × H) :=
  asI .i64 (gv ws0 1) fun n5 =>
  ifB (lt n5 n4) (
    asK (gv ws0 1) fun n6 =>
    six v3 n6 3 fun b0 b1 =>
    ld Try.prog h3 59 b0 b1 fun v4 =>
    al h3 59 [(.int .i64 0), (.int .i64 0), (.int .i64 0)] fun h4 =>
    st Try.prog h4 59 (nx h3) 0 v4 fun h5 =>
    ld Try.prog h5 3 (nx h3) 0 fun v5 =>
    asI .i64 v5 fun n7 =>
    ld Try.prog h5 3 (nx h3) (off 0 1) fun v6 =>
    asI .i64 v6 fun n8 =>
    ld Try.prog h5 3 (nx h3) (off 0 2) fun v7 =>
    asI .i64 v7 fun n9 =>
    ifB (lt n3 n9) (
      ld Try.prog h5 3 (nx h3) 0 fun v8 =>
      asI .i64 v8 fun n10 =>
      ifB (eq n10 n0) (
        nn (sub .i64 (add .i64 n7 n8) n0) (
          ifB (eq (and .i64 (shr .i64 n2 (sub .i64 (add .i64 n7 n8) n0)) 1) 0) (
            ld Try.prog h5 24 (nx h0) 0 fun v9 =>
            nn (sub .i64 (add .i64 n7 n8) n0) (
              ld Try.prog h5 3 (nx h3) (off 0 2) fun v10 =>
              asI .i64 v10 fun n11 =>
              len v1 fun n12 =>
              len v1 fun n13 =>
              sli Try.prog h5 25 v1 none (some (.int .i64 n12)) (some (.int .i64 n13)) fun v11 =>
              bls Try.prog h5 25 1 [(0, gv ws0 1)] fun v12 h6 =>
              ck (fres v1 (nx h5) (same h6 h5)) (
                ck (freq (nx h3) (nx h5) (same h6 h5)) (
                  ck (freq (nx h0) (nx h5) (same h6 h5)) (
                    app Try.prog h6 25 25 v11 v12 fun v13 h7 =>
                    ck (freq (nx h3) (nx h6) (same h7 h6)) (
                      ck (freq (nx h0) (nx h6) (same h7 h6)) (
                        calls rec h7 111 [v9, (.int .i64 (sub .i64 (add .i64 n7 n8) n0)), (.int .i64 n1), (.int .i64 (or .i64 n2 (shl .i64 1 (sub .i64 (add .i64 n7 n8) n0)))), (.int .i64 n11), v13] fun v14 h8 =>
                        app Try.prog h8 58 58 (gv ws0 0) v14 fun v15 h9 =>
                        asI .i64 (gv ws0 1) fun n14 =>
                        out .normal [v15, (.int .i64 (add .i64 n14 1))] h9))))))) (
            asI .i64 (gv ws0 1) fun n15 =>
            out .normal [gv ws0 0, (.int .i64 (add .i64 n15 1))] h5))) (
        ld Try.prog h5 3 (nx h3) (off 0 1) fun v16 =>
        asI .i64 v16 fun n16 =>
        ifB (eq n16 n0) (
          nn (sub .i64 (add .i64 n7 n8) n0) (
            ifB (eq (and .i64 (shr .i64 n2 (sub .i64 (add .i64 n7 n8) n0)) 1) 0) (
              ld Try.prog h5 24 (nx h0) 0 fun v17 =>
              nn (sub .i64 (add .i64 n7 n8) n0) (
                ld Try.prog h5 3 (nx h3) (off 0 2) fun v18 =>
                asI .i64 v18 fun n17 =>
                len v1 fun n18 =>
                len v1 fun n19 =>
                sli Try.prog h5 25 v1 none (some (.int .i64 n18)) (some (.int .i64 n19)) fun v19 =>
                bls Try.prog h5 25 1 [(0, gv ws0 1)] fun v20 h10 =>
                ck (fres v1 (nx h5) (same h10 h5)) (
                  ck (freq (nx h3) (nx h5) (same h10 h5)) (
                    ck (freq (nx h0) (nx h5) (same h10 h5)) (
                      app Try.prog h10 25 25 v19 v20 fun v21 h11 =>
                      ck (freq (nx h3) (nx h10) (same h11 h10)) (
                        ck (freq (nx h0) (nx h10) (same h11 h10)) (
                          calls rec h11 111 [v17, (.int .i64 (sub .i64 (add .i64 n7 n8) n0)), (.int .i64 n1), (.int .i64 (or .i64 n2 (shl .i64 1 (sub .i64 (add .i64 n7 n8) n0)))), (.int .i64 n17), v21] fun v22 h12 =>
                          app Try.prog h12 58 58 (gv ws0 0) v22 fun v23 h13 =>
                          asI .i64 (gv ws0 1) fun n20 =>
                          out .normal [v23, (.int .i64 (add .i64 n20 1))] h13))))))) (
              asI .i64 (gv ws0 1) fun n21 =>
              out .normal [gv ws0 0, (.int .i64 (add .i64 n21 1))] h5))) (
          asI .i64 (gv ws0 1) fun n22 =>
          out .normal [gv ws0 0, (.int .i64 (add .i64 n22 1))] h5))) (
      asI .i64 (gv ws0 1) fun n23 =>
      out .normal [gv ws0 0, (.int .i64 (add .i64 n23 1))] h5)) (
    out (.exit 0) [gv ws0 0, gv ws0 1] h3)

noncomputable def f111 (rec : Rec) (k : Nat) (v0 : Value) (n0 : Int) (n1 : Int) (n2 : Int) (n3 : Int) (v1 : Value) (h0 : H) : Option (Value × H) :=
  bx h0 24 v0 fun h1 =>
  ifB (eq n0 n1) (
    bls Try.prog h1 58 1 [(0, v1)] fun v2 h2 =>
    some (v2, h2)) (
    ld Try.prog h1 22 (nx h0) (off 0 1) fun v3 =>
    len v3 fun n4 =>
    lp k (f111_l1 rec k n0 n1 n2 n3 v1 h0 v3 n4) [(.slice none 0 0), (.int .i64 0)] h1 fun e0 ws1 h14 =>
    onE e0 0 (
      some (gv ws1 0, h14)) (
      none))

theorem e111 (rec : Rec) (k : Nat) (v0 : Value) (n0 : Int) (n1 : Int) (n2 : Int) (n3 : Int) (v1 : Value) (h : H) : bodyT Try.prog E0 SC (XC Try.prog rec k) 111 (Value × H) [.opq v0, .int .i64 n0, .int .i64 n1, .int .i64 n2, .int .i64 n3, .opq v1] h (fun v h => some (v, h)) = f111 rec k v0 n0 n1 n2 n3 v1 h := by kernel_rfl
theorem t111 {k : Nat} {v0 : Value} {n0 : Int} {n1 : Int} {n2 : Int} {n3 : Int} {v1 : Value} {h h1 : H} {v : Value} (hh : f111 rn k v0 n0 n1 n2 n3 v1 h = some (v, h1)) : rn 111 #[v0, .int .i64 n0, .int .i64 n1, .int .i64 n2, .int .i64 n3, v1] h = some (v, trunc Try.prog h h1 v) :=
  run_of_bodyT (args := [.opq v0, .int .i64 n0, .int .i64 n1, .int .i64 n2, .int .i64 n3, .opq v1]) rfl ((e111 _ _ _ _ _ _ _ _ _).trans hh)
theorem p111 {k : Nat} {v0 : Value} {n0 : Int} {n1 : Int} {n2 : Int} {n3 : Int} {v1 : Value} {h h1 : H} {v : Value} (hh : f111 rn k v0 n0 n1 n2 n3 v1 h = some (v, h1)) (hp : plainO v = true) (x : Ext h h1) : rn 111 #[v0, .int .i64 n0, .int .i64 n1, .int .i64 n2, .int .i64 n3, v1] h = some (v, h) := by rw [t111 hh, trunc_pure hp x]
theorem x111 {k : Nat} {v0 : Value} {n0 : Int} {n1 : Int} {n2 : Int} {n3 : Int} {v1 : Value} {h h1 : H} {v : Value} (hh : f111 rn k v0 n0 n1 n2 n3 v1 h = some (v, h1)) (hp : plainO v = false) : rn 111 #[v0, .int .i64 n0, .int .i64 n1, .int .i64 n2, .int .i64 n3, v1] h = some (v, h1) := by rw [t111 hh, trunc_not hp]

noncomputable def f112 (rec : Rec) (_k : Nat) (v0 : Value) (v1 : Value) (h0 : H) : Option (Value × H) :=
  calls rec h0 116 [v0, v1] fun v2 h1 =>
  ext v2 0 fun v3 =>
  asI .u64 v3 fun n0 =>
  ext v2 1 fun v4 =>
  asI .u64 v4 fun n1 =>
  some ((.tuple #[(.int .u64 n0), (.int .u64 n1)]), h1)

theorem e112 (rec : Rec) (k : Nat) (v0 : Value) (v1 : Value) (h : H) : bodyT Try.prog E0 SC (XC Try.prog rec k) 112 (Value × H) [.opq v0, .opq v1] h (fun v h => some (v, h)) = f112 rec k v0 v1 h := by kernel_rfl
theorem t112 {k : Nat} {v0 : Value} {v1 : Value} {h h1 : H} {v : Value} (hh : f112 rn k v0 v1 h = some (v, h1)) : rn 112 #[v0, v1] h = some (v, trunc Try.prog h h1 v) :=
  run_of_bodyT (args := [.opq v0, .opq v1]) rfl ((e112 _ _ _ _ _).trans hh)
theorem p112 {k : Nat} {v0 : Value} {v1 : Value} {h h1 : H} {v : Value} (hh : f112 rn k v0 v1 h = some (v, h1)) (hp : plainO v = true) (x : Ext h h1) : rn 112 #[v0, v1] h = some (v, h) := by rw [t112 hh, trunc_pure hp x]
theorem x112 {k : Nat} {v0 : Value} {v1 : Value} {h h1 : H} {v : Value} (hh : f112 rn k v0 v1 h = some (v, h1)) (hp : plainO v = false) : rn 112 #[v0, v1] h = some (v, h1) := by rw [t112 hh, trunc_not hp]

noncomputable def f116 (_rec : Rec) (_k : Nat) (v0 : Value) (v1 : Value) (h0 : H) : Option (Value × H) :=
  asI .u64 v0 fun n0 =>
  asI .u64 v0 fun n1 =>
  nn 32 (
    asI .u64 v1 fun n2 =>
    asI .u64 v1 fun n3 =>
    nn 32 (
      nn 32 (
        nn 32 (
          nn 32 (
            asI .u64 v0 fun n4 =>
            asI .u64 v1 fun n5 =>
            some ((.tuple #[(.int .u64 (add .u64 (add .u64 (mul .u64 (shr .u64 n1 32) (shr .u64 n3 32)) (shr .u64 (add .u64 (mul .u64 (shr .u64 n1 32) (and .u64 n2 4294967295)) (shr .u64 (mul .u64 (and .u64 n0 4294967295) (and .u64 n2 4294967295)) 32)) 32)) (shr .u64 (add .u64 (and .u64 (add .u64 (mul .u64 (shr .u64 n1 32) (and .u64 n2 4294967295)) (shr .u64 (mul .u64 (and .u64 n0 4294967295) (and .u64 n2 4294967295)) 32)) 4294967295) (mul .u64 (and .u64 n0 4294967295) (shr .u64 n3 32))) 32))), (.int .u64 (mul .u64 n4 n5))]), h0))))))

theorem e116 (rec : Rec) (k : Nat) (v0 : Value) (v1 : Value) (h : H) : bodyT Try.prog E0 SC (XC Try.prog rec k) 116 (Value × H) [.opq v0, .opq v1] h (fun v h => some (v, h)) = f116 rec k v0 v1 h := by kernel_rfl
theorem t116 {k : Nat} {v0 : Value} {v1 : Value} {h h1 : H} {v : Value} (hh : f116 rn k v0 v1 h = some (v, h1)) : rn 116 #[v0, v1] h = some (v, trunc Try.prog h h1 v) :=
  run_of_bodyT (args := [.opq v0, .opq v1]) rfl ((e116 _ _ _ _ _).trans hh)
theorem p116 {k : Nat} {v0 : Value} {v1 : Value} {h h1 : H} {v : Value} (hh : f116 rn k v0 v1 h = some (v, h1)) (hp : plainO v = true) (x : Ext h h1) : rn 116 #[v0, v1] h = some (v, h) := by rw [t116 hh, trunc_pure hp x]
theorem x116 {k : Nat} {v0 : Value} {v1 : Value} {h h1 : H} {v : Value} (hh : f116 rn k v0 v1 h = some (v, h1)) (hp : plainO v = false) : rn 116 #[v0, v1] h = some (v, h1) := by rw [t116 hh, trunc_not hp]

end Go.AM
