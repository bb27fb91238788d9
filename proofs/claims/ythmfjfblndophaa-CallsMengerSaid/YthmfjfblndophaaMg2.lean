/- Parts of the proof, put together: what the functions of the program answer, and plain laws. -/
import Derived.Test.YthmfjfblndophaaAmSim
import Derived.Test.YthmfjfblndophaaAmMak
import Derived.Test.YthmfjfblndophaaMg1

section

/- The staged forms of functions 8, 10, 16, 44, 46, 47, 53, 54, 55, 56, 57, 58, 59, 62, 63, 64, 65, 66, 67, 68, 69, 70, 80, 81, 82, 85, 88, 90, 92, 93, 94, 97, 98, 101, 104, 111, 112, 116, and what calls of these answer. -/
namespace Go.AM
open Go.Proofs
noncomputable def f8_l1 (rec : Rec) (_k : Nat) (n0 : Int) (n1 : Int) (h0 : H) (v42 : Value) (n15 : Int) (ws0 : List Value) (h20 : H) : Option (Ex × List Value × H) :=
  asI .i64 (gv ws0 1) fun n16 =>
  ifB (lt n16 n15) (
    asK (gv ws0 1) fun n17 =>
    six v42 n17 1 fun b6 b7 =>
    ld Try.prog h20 25 b6 b7 fun v43 =>
    ld Try.prog h20 24 (nx h0) 0 fun v44 =>
    calls rec h20 18 [v44] fun v45 h21 =>
    calls rec h21 27 [v45, (.int .i64 n0), (.int .i64 n1), v43] fun v46 h22 =>
    ext v46 0 fun v47 =>
    asB v47 fun q7 =>
    ext v46 1 fun v48 =>
    asI .i64 v48 fun n18 =>
    ifB (not q7) (
      out .ret [(.bool false), gv ws0 1] h22) (
      ifB (not (eq n18 0)) (
        out .ret [(.bool false), gv ws0 1] h22) (
        asI .i64 (gv ws0 1) fun n19 =>
        out .normal [gv ws0 0, (.int .i64 (add .i64 n19 1))] h22))) (
    out (.exit 0) [gv ws0 0, gv ws0 1] h20)

noncomputable def f8 (rec : Rec) (k : Nat) (v0 : Value) (n0 : Int) (n1 : Int) (v1 : Value) (h0 : H) : Option (Value × H) :=
  bx h0 24 v0 fun h1 =>
  ld Try.prog h1 24 (nx h0) 0 fun v2 =>
  calls rec h1 18 [v2] fun v3 h2 =>
  calls rec h2 17 [v3, (.int .i64 n0), (.int .i64 n1)] fun v4 h3 =>
  ext v4 0 fun v5 =>
  ext v4 1 fun v6 =>
  asI .i64 v6 fun n2 =>
  ld Try.prog h3 24 (nx h0) 0 fun v7 =>
  calls rec h3 18 [v7] fun v8 h4 =>
  calls rec h4 19 [v8, (.int .i64 n0), (.int .i64 n1)] fun v9 h5 =>
  ext v9 0 fun v10 =>
  ext v9 1 fun v11 =>
  asI .i64 v11 fun n3 =>
  ld Try.prog h5 24 (nx h0) 0 fun v12 =>
  calls rec h5 18 [v12] fun v13 h6 =>
  calls rec h6 20 [v13, (.int .i64 n0), (.int .i64 n1)] fun v14 h7 =>
  ext v14 0 fun v15 =>
  ext v14 1 fun v16 =>
  asI .i64 v16 fun n4 =>
  ld Try.prog h7 24 (nx h0) 0 fun v17 =>
  calls rec h7 18 [v17] fun v18 h8 =>
  calls rec h8 45 [v18, (.int .i64 n0)] fun v19 h9 =>
  ext v19 0 fun v20 =>
  ext v19 1 fun v21 =>
  asI .i64 v21 fun n5 =>
  ld Try.prog h9 24 (nx h0) 0 fun v22 =>
  calls rec h9 18 [v22] fun v23 h10 =>
  calls rec h10 37 [v23] fun v24 h11 =>
  ext v24 0 fun v25 =>
  ext v24 1 fun v26 =>
  asI .i64 v26 fun n6 =>
  ld Try.prog h11 24 (nx h0) 0 fun v27 =>
  calls rec h11 18 [v27] fun v28 h12 =>
  calls rec h12 28 [v1] fun v29 h13 =>
  calls rec h13 27 [v28, (.int .i64 n0), (.int .i64 n1), v29] fun v30 h14 =>
  ext v30 0 fun v31 =>
  asB v31 fun q0 =>
  ext v30 1 fun v32 =>
  asI .i64 v32 fun n7 =>
  ifB (not (eq n7 0)) (
    ifB (eq n2 2) (
      ifB (eq n3 2) (
        ifB (eq n4 2) (
          ifB (eq n7 2) (
            calls rec h14 22 [] fun v33 h15 =>
            asB v33 fun q1 =>
            some ((.bool q1), h15)) (
            some ((.bool false), h14))) (
          some ((.bool false), h14))) (
        some ((.bool false), h14))) (
      some ((.bool false), h14))) (
    len v20 fun n8 =>
    ld Try.prog h14 3 (nx h0) 0 fun v34 =>
    asI .i64 v34 fun n9 =>
    ifB (not (eq n8 n9)) (
      ifB (eq n2 2) (
        ifB (eq n3 2) (
          ifB (eq n4 2) (
            ifB (eq n7 2) (
              calls rec h14 22 [] fun v35 h16 =>
              asB v35 fun q2 =>
              some ((.bool q2), h16)) (
              some ((.bool false), h14))) (
            some ((.bool false), h14))) (
          some ((.bool false), h14))) (
        some ((.bool false), h14))) (
      len v25 fun n10 =>
      ld Try.prog h14 3 (nx h0) 0 fun v36 =>
      asI .i64 v36 fun n11 =>
      ifB (not (eq n10 n11)) (
        ifB (eq n2 2) (
          ifB (eq n3 2) (
            ifB (eq n4 2) (
              ifB (eq n7 2) (
                calls rec h14 22 [] fun v37 h17 =>
                asB v37 fun q3 =>
                some ((.bool q3), h17)) (
                some ((.bool false), h14))) (
              some ((.bool false), h14))) (
            some ((.bool false), h14))) (
          some ((.bool false), h14))) (
        ifB (not (eq n5 0)) (
          some ((.bool false), h14)) (
          ifB (not (eq n6 0)) (
            some ((.bool false), h14)) (
            ifB (not (eq n2 n3)) (
              some ((.bool false), h14)) (
              ifB (not (eq n2 n4)) (
                some ((.bool false), h14)) (
                six v20 n1 1 fun b0 b1 =>
                ld Try.prog h14 3 b0 b1 fun v38 =>
                asI .i64 v38 fun n12 =>
                eqv Try.prog 4 (.bool (eq n2 0)) (.bool (le 0 n12)) fun q4 =>
                ifB (not q4) (
                  some ((.bool false), h14)) (
                  six v20 n1 1 fun b2 b3 =>
                  ld Try.prog h14 3 b2 b3 fun v39 =>
                  asI .i64 v39 fun n13 =>
                  six v25 n1 1 fun b4 b5 =>
                  ld Try.prog h14 3 b4 b5 fun v40 =>
                  asI .i64 v40 fun n14 =>
                  nn n0 (
                    eqv Try.prog 4 (.bool (le 0 n13)) (.bool (eq (and .i64 (shr .i64 n14 n0) 1) 1)) fun q5 =>
                    ifB (not q5) (
                      some ((.bool false), h14)) (
                      ifB (not (eq n2 0)) (
                        ifB (eq n2 4) (
                          ifB (not q0) (
                            calls rec h14 22 [] fun v41 h18 =>
                            asB v41 fun q6 =>
                            some ((.bool q6), h18)) (
                            some ((.bool false), h14))) (
                          some ((.bool false), h14))) (
                        bls Try.prog h14 58 3 [(0, v5), (1, v10), (2, v15)] fun v42 h19 =>
                        len v42 fun n15 =>
                        lp k (f8_l1 rec k n0 n1 h0 v42 n15) [(.bool false), (.int .i64 0)] h19 fun e0 ws1 h23 =>
                        onE e0 0 (
                          al h23 60 [.nilFunc] fun h24 =>
                          st Try.prog h24 60 (nx h23) 0 (.func (.func 46) #[] #[(pt (nx h0) 0)]) fun h25 =>
                          calls rec h25 47 [v5, (pt (nx h23) 0)] fun v49 h26 =>
                          asI .i64 v49 fun n20 =>
                          six v20 n1 1 fun b8 b9 =>
                          ld Try.prog h26 3 b8 b9 fun v50 =>
                          asI .i64 v50 fun n21 =>
                          ck (freq b8 (nx h25) (same h26 h25)) (
                            ifB (not (eq n20 n21)) (
                              some ((.bool false), h26)) (
                              ifB (not q0) (
                                calls rec h26 22 [] fun v51 h27 =>
                                asB v51 fun q8 =>
                                some ((.bool q8), h27)) (
                                calls rec h26 47 [v5, (pt (nx h23) 0)] fun v52 h28 =>
                                asI .i64 v52 fun n22 =>
                                calls rec h28 47 [v1, (pt (nx h23) 0)] fun v53 h29 =>
                                asI .i64 v53 fun n23 =>
                                ifB (le n22 n23) (
                                  len v10 fun n24 =>
                                  len v1 fun n25 =>
                                  ifB (le n24 n25) (
                                    calls rec h29 47 [v15, (pt (nx h23) 0)] fun v54 h30 =>
                                    asI .i64 v54 fun n26 =>
                                    ld Try.prog h30 60 (nx h23) 0 fun v55 =>
                                    ck (freq (nx h23) (nx h29) (same h30 h29)) (
                                      callsV rec h30 v55 [v15, (.int .i64 0)] fun v56 h31 =>
                                      asI .i64 v56 fun n27 =>
                                      calls rec h31 47 [v1, (pt (nx h23) 0)] fun v57 h32 =>
                                      asI .i64 v57 fun n28 =>
                                      ld Try.prog h32 60 (nx h23) 0 fun v58 =>
                                      ck (freq (nx h23) (nx h31) (same h32 h31)) (
                                        ck (freq (nx h23) (nx h30) (same h31 h30)) (
                                          ck (freq (nx h23) (nx h29) (same h30 h29)) (
                                            callsV rec h32 v58 [v1, (.int .i64 0)] fun v59 h33 =>
                                            asI .i64 v59 fun n29 =>
                                            ifB (le (sub .i64 n26 n27) (sub .i64 n28 n29)) (
                                              calls rec h33 22 [] fun v60 h34 =>
                                              asB v60 fun q9 =>
                                              some ((.bool q9), h34)) (
                                              some ((.bool false), h33))))))) (
                                    some ((.bool false), h29))) (
                                  some ((.bool false), h29)))))) (
                          onR e0 (
                            some (gv ws1 0, h23))))))))))))))

theorem e8 (rec : Rec) (k : Nat) (v0 : Value) (n0 : Int) (n1 : Int) (v1 : Value) (h : H) : bodyT Try.prog E0 SC (XC Try.prog rec k) 8 (Value × H) [.opq v0, .int .i64 n0, .int .i64 n1, .opq v1] h (fun v h => some (v, h)) = f8 rec k v0 n0 n1 v1 h := by kernel_rfl

theorem t8 {k : Nat} {v0 : Value} {n0 : Int} {n1 : Int} {v1 : Value} {h h1 : H} {v : Value} (hh : f8 rn k v0 n0 n1 v1 h = some (v, h1)) : rn 8 #[v0, .int .i64 n0, .int .i64 n1, v1] h = some (v, trunc Try.prog h h1 v) :=
  run_of_bodyT (args := [.opq v0, .int .i64 n0, .int .i64 n1, .opq v1]) rfl ((e8 _ _ _ _ _ _ _).trans hh)

theorem x8 {k : Nat} {v0 : Value} {n0 : Int} {n1 : Int} {v1 : Value} {h h1 : H} {v : Value} (hh : f8 rn k v0 n0 n1 v1 h = some (v, h1)) (hp : plainO v = false) : rn 8 #[v0, .int .i64 n0, .int .i64 n1, v1] h = some (v, h1) := by rw [t8 hh, trunc_not hp]

noncomputable def f10 (rec : Rec) (_k : Nat) (v0 : Value) (n0 : Int) (n1 : Int) (h0 : H) : Option (Value × H) :=
  bx h0 24 v0 fun h1 =>
  ld Try.prog h1 24 (nx h0) 0 fun v1 =>
  calls rec h1 18 [v1] fun v2 h2 =>
  calls rec h2 53 [v2, (.int .i64 n0), (.int .i64 n1)] fun v3 h3 =>
  ext v3 0 fun v4 =>
  asI .i64 v4 fun n2 =>
  ext v3 1 fun v5 =>
  asI .i64 v5 fun n3 =>
  ld Try.prog h3 24 (nx h0) 0 fun v6 =>
  calls rec h3 18 [v6] fun v7 h4 =>
  calls rec h4 54 [v7, (.int .i64 n0), (.int .i64 n1)] fun v8 h5 =>
  ext v8 0 fun v9 =>
  asI .i64 v9 fun n4 =>
  ext v8 1 fun v10 =>
  asI .i64 v10 fun n5 =>
  ld Try.prog h5 24 (nx h0) 0 fun v11 =>
  calls rec h5 21 [v11, (.int .i64 n0), (.int .i64 n1)] fun v12 h6 =>
  asB v12 fun q0 =>
  ifB (not q0) (
    ifB (eq n2 0) (
      ifB (eq n4 0) (
        ifB (eq n3 2) (
          ifB (eq n5 2) (
            calls rec h6 22 [] fun v13 h7 =>
            asB v13 fun q1 =>
            some ((.bool q1), h7)) (
            some ((.bool false), h6))) (
          some ((.bool false), h6))) (
        some ((.bool false), h6))) (
      some ((.bool false), h6))) (
    ld Try.prog h6 24 (nx h0) 0 fun v14 =>
    calls rec h6 55 [v14, (.int .i64 n0), (.int .i64 n1)] fun v15 h8 =>
    ext v15 0 fun v16 =>
    asI .i64 v16 fun n6 =>
    ext v15 1 fun v17 =>
    asI .i64 v17 fun n7 =>
    ld Try.prog h8 24 (nx h0) 0 fun v18 =>
    calls rec h8 56 [v18, (.int .i64 n0), (.int .i64 n1)] fun v19 h9 =>
    asI .i64 v19 fun n8 =>
    ifB (eq n2 n8) (
      ifB (eq n3 0) (
        ifB (eq n4 n6) (
          ifB (eq n5 n7) (
            calls rec h9 22 [] fun v20 h10 =>
            asB v20 fun q2 =>
            some ((.bool q2), h10)) (
            some ((.bool false), h9))) (
          some ((.bool false), h9))) (
        some ((.bool false), h9))) (
      some ((.bool false), h9)))

theorem e10 (rec : Rec) (k : Nat) (v0 : Value) (n0 : Int) (n1 : Int) (h : H) : bodyT Try.prog E0 SC (XC Try.prog rec k) 10 (Value × H) [.opq v0, .int .i64 n0, .int .i64 n1] h (fun v h => some (v, h)) = f10 rec k v0 n0 n1 h := by kernel_rfl

theorem t10 {k : Nat} {v0 : Value} {n0 : Int} {n1 : Int} {h h1 : H} {v : Value} (hh : f10 rn k v0 n0 n1 h = some (v, h1)) : rn 10 #[v0, .int .i64 n0, .int .i64 n1] h = some (v, trunc Try.prog h h1 v) :=
  run_of_bodyT (args := [.opq v0, .int .i64 n0, .int .i64 n1]) rfl ((e10 _ _ _ _ _ _).trans hh)

theorem x10 {k : Nat} {v0 : Value} {n0 : Int} {n1 : Int} {h h1 : H} {v : Value} (hh : f10 rn k v0 n0 n1 h = some (v, h1)) (hp : plainO v = false) : rn 10 #[v0, .int .i64 n0, .int .i64 n1] h = some (v, h1) := by rw [t10 hh, trunc_not hp]

noncomputable def f16_l1 (_rec : Rec) (_k : Nat) (n0 : Int) (v4 : Value) (v17 : Value) (v22 : Value) (v27 : Value) (n14 : Int) (ws0 : List Value) (h17 : H) : Option (Ex × List Value × H) :=
  asI .i64 (gv ws0 1) fun n15 =>
  ifB (lt n15 n14) (
    asK (gv ws0 1) fun n16 =>
    six v17 n16 1 fun b2 b3 =>
    ld Try.prog h17 3 b2 b3 fun v33 =>
    asI .i64 v33 fun n17 =>
    ifB (lt n17 0) (
      asK (gv ws0 1) fun n18 =>
      six v4 n18 1 fun b4 b5 =>
      ld Try.prog h17 3 b4 b5 fun v34 =>
      asI .i64 v34 fun n19 =>
      ifB (not (eq n19 (-1))) (
        out .ret [(.bool false), gv ws0 1] h17) (
        asK (gv ws0 1) fun n20 =>
        six v17 n20 1 fun b6 b7 =>
        ld Try.prog h17 3 b6 b7 fun v35 =>
        asI .i64 v35 fun n21 =>
        ifB (le 0 n21) (
          asK (gv ws0 1) fun n22 =>
          six v4 n22 1 fun b8 b9 =>
          ld Try.prog h17 3 b8 b9 fun v36 =>
          asI .i64 v36 fun n23 =>
          asK (gv ws0 1) fun n24 =>
          six v17 n24 1 fun b10 b11 =>
          ld Try.prog h17 3 b10 b11 fun v37 =>
          asI .i64 v37 fun n25 =>
          ifB (not (eq n23 (sub .i64 31 n25))) (
            out .ret [(.bool false), gv ws0 1] h17) (
            asK (gv ws0 1) fun n26 =>
            six v22 n26 1 fun b12 b13 =>
            ld Try.prog h17 3 b12 b13 fun v38 =>
            asI .i64 v38 fun n27 =>
            nn n0 (
              len v27 fun n28 =>
              six v27 (sub .i64 n28 1) 1 fun b14 b15 =>
              ld Try.prog h17 3 b14 b15 fun v39 =>
              asI .i64 v39 fun n29 =>
              asK (gv ws0 1) fun n30 =>
              nn n30 (
                ifB (not (eq (and .i64 (shr .i64 n27 n0) 1) (and .i64 (shr .i64 n29 n30) 1))) (
                  out .ret [(.bool false), gv ws0 1] h17) (
                  asI .i64 (gv ws0 1) fun n31 =>
                  out .normal [gv ws0 0, (.int .i64 (add .i64 n31 1))] h17))))) (
          asK (gv ws0 1) fun n32 =>
          six v22 n32 1 fun b16 b17 =>
          ld Try.prog h17 3 b16 b17 fun v40 =>
          asI .i64 v40 fun n33 =>
          nn n0 (
            len v27 fun n34 =>
            six v27 (sub .i64 n34 1) 1 fun b18 b19 =>
            ld Try.prog h17 3 b18 b19 fun v41 =>
            asI .i64 v41 fun n35 =>
            asK (gv ws0 1) fun n36 =>
            nn n36 (
              ifB (not (eq (and .i64 (shr .i64 n33 n0) 1) (and .i64 (shr .i64 n35 n36) 1))) (
                out .ret [(.bool false), gv ws0 1] h17) (
                asI .i64 (gv ws0 1) fun n37 =>
                out .normal [gv ws0 0, (.int .i64 (add .i64 n37 1))] h17)))))) (
      asK (gv ws0 1) fun n38 =>
      six v17 n38 1 fun b20 b21 =>
      ld Try.prog h17 3 b20 b21 fun v42 =>
      asI .i64 v42 fun n39 =>
      ifB (le 0 n39) (
        asK (gv ws0 1) fun n40 =>
        six v4 n40 1 fun b22 b23 =>
        ld Try.prog h17 3 b22 b23 fun v43 =>
        asI .i64 v43 fun n41 =>
        asK (gv ws0 1) fun n42 =>
        six v17 n42 1 fun b24 b25 =>
        ld Try.prog h17 3 b24 b25 fun v44 =>
        asI .i64 v44 fun n43 =>
        ifB (not (eq n41 (sub .i64 31 n43))) (
          out .ret [(.bool false), gv ws0 1] h17) (
          asK (gv ws0 1) fun n44 =>
          six v22 n44 1 fun b26 b27 =>
          ld Try.prog h17 3 b26 b27 fun v45 =>
          asI .i64 v45 fun n45 =>
          nn n0 (
            len v27 fun n46 =>
            six v27 (sub .i64 n46 1) 1 fun b28 b29 =>
            ld Try.prog h17 3 b28 b29 fun v46 =>
            asI .i64 v46 fun n47 =>
            asK (gv ws0 1) fun n48 =>
            nn n48 (
              ifB (not (eq (and .i64 (shr .i64 n45 n0) 1) (and .i64 (shr .i64 n47 n48) 1))) (
                out .ret [(.bool false), gv ws0 1] h17) (
                asI .i64 (gv ws0 1) fun n49 =>
                out .normal [gv ws0 0, (.int .i64 (add .i64 n49 1))] h17))))) (
        asK (gv ws0 1) fun n50 =>
        six v22 n50 1 fun b30 b31 =>
        ld Try.prog h17 3 b30 b31 fun v47 =>
        asI .i64 v47 fun n51 =>
        nn n0 (
          len v27 fun n52 =>
          six v27 (sub .i64 n52 1) 1 fun b32 b33 =>
          ld Try.prog h17 3 b32 b33 fun v48 =>
          asI .i64 v48 fun n53 =>
          asK (gv ws0 1) fun n54 =>
          nn n54 (
            ifB (not (eq (and .i64 (shr .i64 n51 n0) 1) (and .i64 (shr .i64 n53 n54) 1))) (
              out .ret [(.bool false), gv ws0 1] h17) (
              asI .i64 (gv ws0 1) fun n55 =>
              out .normal [gv ws0 0, (.int .i64 (add .i64 n55 1))] h17)))))) (
    out (.exit 0) [gv ws0 0, gv ws0 1] h17)

noncomputable def f16 (rec : Rec) (k : Nat) (v0 : Value) (n0 : Int) (h0 : H) : Option (Value × H) :=
  bx h0 24 v0 fun h1 =>
  ld Try.prog h1 24 (nx h0) 0 fun v1 =>
  calls rec h1 18 [v1] fun v2 h2 =>
  calls rec h2 62 [v2, (.int .i64 n0)] fun v3 h3 =>
  ext v3 0 fun v4 =>
  ext v3 1 fun v5 =>
  asI .i64 v5 fun n1 =>
  ld Try.prog h3 24 (nx h0) 0 fun v6 =>
  calls rec h3 18 [v6] fun v7 h4 =>
  calls rec h4 57 [v7] fun v8 h5 =>
  ext v8 0 fun v9 =>
  ext v8 1 fun v10 =>
  asI .i64 v10 fun n2 =>
  al h5 31 [(.int .i64 0), (.slice none 0 0)] fun h6 =>
  st Try.prog h6 31 (nx h5) 0 v9 fun h7 =>
  ifB (not (eq n1 0)) (
    ifB (eq n1 2) (
      ifB (eq n2 0) (
        calls rec h7 22 [] fun v11 h8 =>
        asB v11 fun q0 =>
        some ((.bool q0), h8)) (
        ifB (eq n2 2) (
          calls rec h7 22 [] fun v12 h9 =>
          asB v12 fun q1 =>
          some ((.bool q1), h9)) (
          some ((.bool false), h7)))) (
      some ((.bool false), h7))) (
    ifB (not (eq n2 0)) (
      ifB (eq n1 2) (
        ifB (eq n2 0) (
          calls rec h7 22 [] fun v13 h10 =>
          asB v13 fun q2 =>
          some ((.bool q2), h10)) (
          ifB (eq n2 2) (
            calls rec h7 22 [] fun v14 h11 =>
            asB v14 fun q3 =>
            some ((.bool q3), h11)) (
            some ((.bool false), h7)))) (
        some ((.bool false), h7))) (
      ld Try.prog h7 31 (nx h5) 0 fun v15 =>
      calls rec h7 45 [v15, (.int .i64 n0)] fun v16 h12 =>
      ext v16 0 fun v17 =>
      ext v16 1 fun v18 =>
      asI .i64 v18 fun n3 =>
      ld Try.prog h12 24 (nx h0) 0 fun v19 =>
      calls rec h12 18 [v19] fun v20 h13 =>
      calls rec h13 37 [v20] fun v21 h14 =>
      ext v21 0 fun v22 =>
      ext v21 1 fun v23 =>
      asI .i64 v23 fun n4 =>
      ld Try.prog h14 24 (nx h0) 0 fun v24 =>
      calls rec h14 18 [v24] fun v25 h15 =>
      calls rec h15 38 [v25, (.int .i64 n0)] fun v26 h16 =>
      ext v26 0 fun v27 =>
      ext v26 1 fun v28 =>
      asI .i64 v28 fun n5 =>
      ifB (not (eq n3 0)) (
        some ((.bool false), h16)) (
        ifB (not (eq n4 0)) (
          some ((.bool false), h16)) (
          ifB (not (eq n5 0)) (
            some ((.bool false), h16)) (
            len v4 fun n6 =>
            ld Try.prog h16 3 (nx h0) 0 fun v29 =>
            asI .i64 v29 fun n7 =>
            ifB (not (eq n6 n7)) (
              some ((.bool false), h16)) (
              len v17 fun n8 =>
              ld Try.prog h16 3 (nx h0) 0 fun v30 =>
              asI .i64 v30 fun n9 =>
              ifB (not (eq n8 n9)) (
                some ((.bool false), h16)) (
                len v22 fun n10 =>
                ld Try.prog h16 3 (nx h0) 0 fun v31 =>
                asI .i64 v31 fun n11 =>
                ifB (not (eq n10 n11)) (
                  some ((.bool false), h16)) (
                  len v27 fun n12 =>
                  ifB (eq n12 0) (
                    some ((.bool false), h16)) (
                    six v27 0 1 fun b0 b1 =>
                    ld Try.prog h16 3 b0 b1 fun v32 =>
                    asI .i64 v32 fun n13 =>
                    nn n0 (
                      ifB (not (eq n13 (shl .i64 1 n0))) (
                        some ((.bool false), h16)) (
                        len v4 fun n14 =>
                        lp k (f16_l1 rec k n0 v4 v17 v22 v27 n14) [(.bool false), (.int .i64 0)] h16 fun e0 ws1 h18 =>
                        onE e0 0 (
                          ld Try.prog h18 31 (nx h5) 0 fun v49 =>
                          calls rec h18 57 [v49] fun v50 h19 =>
                          ext v50 0 fun v51 =>
                          ext v50 1 fun v52 =>
                          asI .i64 v52 fun n56 =>
                          al h19 31 [(.int .i64 0), (.slice none 0 0)] fun h20 =>
                          st Try.prog h20 31 (nx h19) 0 v51 fun h21 =>
                          ifB (eq n56 0) (
                            ld Try.prog h21 29 (nx h19) (off 0 1) fun v53 =>
                            len v53 fun n57 =>
                            ld Try.prog h21 22 (nx h0) (off 0 1) fun v54 =>
                            len v54 fun n58 =>
                            ifB (eq n57 n58) (
                              calls rec h21 22 [] fun v55 h22 =>
                              asB v55 fun q4 =>
                              some ((.bool q4), h22)) (
                              some ((.bool false), h21))) (
                            some ((.bool false), h21))) (
                          onR e0 (
                            some (gv ws1 0, h18))))))))))))))

theorem e16 (rec : Rec) (k : Nat) (v0 : Value) (n0 : Int) (h : H) : bodyT Try.prog E0 SC (XC Try.prog rec k) 16 (Value × H) [.opq v0, .int .i64 n0] h (fun v h => some (v, h)) = f16 rec k v0 n0 h := by kernel_rfl

theorem t16 {k : Nat} {v0 : Value} {n0 : Int} {h h1 : H} {v : Value} (hh : f16 rn k v0 n0 h = some (v, h1)) : rn 16 #[v0, .int .i64 n0] h = some (v, trunc Try.prog h h1 v) :=
  run_of_bodyT (args := [.opq v0, .int .i64 n0]) rfl ((e16 _ _ _ _ _).trans hh)

theorem x16 {k : Nat} {v0 : Value} {n0 : Int} {h h1 : H} {v : Value} (hh : f16 rn k v0 n0 h = some (v, h1)) (hp : plainO v = false) : rn 16 #[v0, .int .i64 n0] h = some (v, h1) := by rw [t16 hh, trunc_not hp]

noncomputable def f44 (rec : Rec) (_k : Nat) (v0 : Value) (n0 : Int) (h0 : H) : Option (Value × H) :=
  calls rec h0 80 [v0, (.int .i64 n0)] fun v1 h1 =>
  asI .i64 v1 fun n1 =>
  some ((.bool (le 0 n1)), h1)

theorem e44 (rec : Rec) (k : Nat) (v0 : Value) (n0 : Int) (h : H) : bodyT Try.prog E0 SC (XC Try.prog rec k) 44 (Value × H) [.opq v0, .int .i64 n0] h (fun v h => some (v, h)) = f44 rec k v0 n0 h := by kernel_rfl

theorem t44 {k : Nat} {v0 : Value} {n0 : Int} {h h1 : H} {v : Value} (hh : f44 rn k v0 n0 h = some (v, h1)) : rn 44 #[v0, .int .i64 n0] h = some (v, trunc Try.prog h h1 v) :=
  run_of_bodyT (args := [.opq v0, .int .i64 n0]) rfl ((e44 _ _ _ _ _).trans hh)

theorem p44 {k : Nat} {v0 : Value} {n0 : Int} {h h1 : H} {v : Value} (hh : f44 rn k v0 n0 h = some (v, h1)) (hp : plainO v = true) (x : Ext h h1) : rn 44 #[v0, .int .i64 n0] h = some (v, h) := by rw [t44 hh, trunc_pure hp x]

noncomputable def f58_l2 (_rec : Rec) (_k : Nat) (h2 : H) (ws0 : List Value) (v3 : Value) (n2 : Int) (ws1 : List Value) (h6 : H) : Option (Ex × List Value × H) :=
  asI .i64 (gv ws1 0) fun n3 =>
  ifB (lt n3 n2) (
    asK (gv ws1 0) fun n4 =>
    six v3 n4 3 fun b0 b1 =>
    ld Try.prog h6 59 b0 b1 fun v4 =>
    al h6 59 [(.int .i64 0), (.int .i64 0), (.int .i64 0)] fun h7 =>
    st Try.prog h7 59 (nx h6) 0 v4 fun h8 =>
    ld Try.prog h8 3 (nx h6) (off 0 2) fun v5 =>
    asI .i64 v5 fun n5 =>
    asI .i64 (gv ws0 0) fun n6 =>
    ifB (eq (sub .i64 31 n5) n6) (
      ld Try.prog h8 22 (nx h2) (off 0 1) fun v6 =>
      ld Try.prog h8 3 (nx h6) 0 fun v7 =>
      asI .i64 v7 fun n7 =>
      ld Try.prog h8 3 (nx h6) (off 0 1) fun v8 =>
      asI .i64 v8 fun n8 =>
      bld Try.prog 59 [(0, (.int .i64 n7)), (1, (.int .i64 n8)), (2, gv ws0 0)] fun v9 =>
      bls Try.prog h8 22 1 [(0, v9)] fun v10 h9 =>
      app Try.prog h9 22 22 v6 v10 fun v11 h10 =>
      st Try.prog h10 22 (nx h2) (off 0 1) v11 fun h11 =>
      asI .i64 (gv ws1 0) fun n9 =>
      out .normal [(.int .i64 (add .i64 n9 1))] h11) (
      asI .i64 (gv ws1 0) fun n10 =>
      out .normal [(.int .i64 (add .i64 n10 1))] h8)) (
    out (.exit 2) [gv ws1 0] h6)

noncomputable def f58_l1 (rec : Rec) (k : Nat) (h0 : H) (h2 : H) (ws0 : List Value) (h5 : H) : Option (Ex × List Value × H) :=
  asI .i64 (gv ws0 0) fun n1 =>
  ifB (le n1 30) (
    ld Try.prog h5 22 (nx h0) (off 0 1) fun v3 =>
    len v3 fun n2 =>
    lp k (f58_l2 rec k h2 ws0 v3 n2) [(.int .i64 0)] h5 fun e0 _ h12 =>
    onE e0 2 (
      asI .i64 (gv ws0 0) fun n11 =>
      out .normal [(.int .i64 (add .i64 n11 1))] h12) (
      none)) (
    out (.exit 0) [gv ws0 0] h5)

noncomputable def f58 (rec : Rec) (k : Nat) (v0 : Value) (h0 : H) : Option (Value × H) :=
  bx h0 24 v0 fun h1 =>
  al h1 24 [(.int .i64 0), (.slice none 0 0)] fun h2 =>
  ld Try.prog h2 3 (nx h0) 0 fun v1 =>
  asI .i64 v1 fun n0 =>
  bld Try.prog 24 [(0, (.int .i64 n0))] fun v2 =>
  al h2 24 [(.int .i64 0), (.slice none 0 0)] fun h3 =>
  st Try.prog h3 24 (nx h2) 0 v2 fun h4 =>
  lp k (f58_l1 rec k h0 h2) [(.int .i64 1)] h4 fun e1 _ h13 =>
  onE e1 0 (
    ld Try.prog h13 24 (nx h2) 0 fun v12 =>
    st Try.prog h13 24 (nx h1) 0 v12 fun h14 =>
    ld Try.prog h14 24 (nx h1) 0 fun v13 =>
    some (v13, h14)) (
    none)

theorem e58 (rec : Rec) (k : Nat) (v0 : Value) (h : H) : bodyT Try.prog E0 SC (XC Try.prog rec k) 58 (Value × H) [.opq v0] h (fun v h => some (v, h)) = f58 rec k v0 h := by kernel_rfl

theorem t58 {k : Nat} {v0 : Value} {h h1 : H} {v : Value} (hh : f58 rn k v0 h = some (v, h1)) : rn 58 #[v0] h = some (v, trunc Try.prog h h1 v) :=
  run_of_bodyT (args := [.opq v0]) rfl ((e58 _ _ _ _).trans hh)

theorem x58 {k : Nat} {v0 : Value} {h h1 : H} {v : Value} (hh : f58 rn k v0 h = some (v, h1)) (hp : plainO v = false) : rn 58 #[v0] h = some (v, h1) := by rw [t58 hh, trunc_not hp]

noncomputable def f59_l1 (_rec : Rec) (_k : Nat) (v0 : Value) (v1 : Value) (n2 : Int) (ws0 : List Value) (h1 : H) : Option (Ex × List Value × H) :=
  asI .i64 (gv ws0 1) fun n3 =>
  ifB (lt n3 n2) (
    asK (gv ws0 1) fun n4 =>
    six v0 n4 3 fun b0 b1 =>
    ld Try.prog h1 59 b0 b1 fun v2 =>
    asK (gv ws0 1) fun n5 =>
    six v1 n5 3 fun b2 b3 =>
    ld Try.prog h1 59 b2 b3 fun v3 =>
    eqv Try.prog 59 v2 v3 fun q0 =>
    ifB (not q0) (
      out .ret [(.bool false), gv ws0 1] h1) (
      asI .i64 (gv ws0 1) fun n6 =>
      out .normal [gv ws0 0, (.int .i64 (add .i64 n6 1))] h1)) (
    out (.exit 0) [gv ws0 0, gv ws0 1] h1)

noncomputable def f59 (rec : Rec) (k : Nat) (v0 : Value) (v1 : Value) (h0 : H) : Option (Value × H) :=
  len v0 fun n0 =>
  len v1 fun n1 =>
  ifB (not (eq n0 n1)) (
    some ((.bool false), h0)) (
    len v0 fun n2 =>
    lp k (f59_l1 rec k v0 v1 n2) [(.bool false), (.int .i64 0)] h0 fun e0 ws1 h2 =>
    onE e0 0 (
      some ((.bool true), h2)) (
      onR e0 (
        some (gv ws1 0, h2))))

theorem e59 (rec : Rec) (k : Nat) (v0 : Value) (v1 : Value) (h : H) : bodyT Try.prog E0 SC (XC Try.prog rec k) 59 (Value × H) [.opq v0, .opq v1] h (fun v h => some (v, h)) = f59 rec k v0 v1 h := by kernel_rfl

theorem t59 {k : Nat} {v0 : Value} {v1 : Value} {h h1 : H} {v : Value} (hh : f59 rn k v0 v1 h = some (v, h1)) : rn 59 #[v0, v1] h = some (v, trunc Try.prog h h1 v) :=
  run_of_bodyT (args := [.opq v0, .opq v1]) rfl ((e59 _ _ _ _ _).trans hh)

theorem x59 {k : Nat} {v0 : Value} {v1 : Value} {h h1 : H} {v : Value} (hh : f59 rn k v0 v1 h = some (v, h1)) (hp : plainO v = false) : rn 59 #[v0, v1] h = some (v, h1) := by rw [t59 hh, trunc_not hp]

noncomputable def f65 (rec : Rec) (_k : Nat) (v0 : Value) (n0 : Int) (n1 : Int) (v1 : Value) (h0 : H) : Option (Value × H) :=
  bx h0 31 v0 fun h1 =>
  bx h1 61 v1 fun h2 =>
  ld Try.prog h2 31 (nx h0) 0 fun v2 =>
  calls rec h2 71 [v2] fun v3 h3 =>
  asB v3 fun q0 =>
  ifB (not q0) (
    some ((.tuple #[(.slice none 0 0), (.int .i64 2)]), h3)) (
    ld Try.prog h3 31 (nx h0) 0 fun v4 =>
    calls rec h3 72 [v4, (.int .i64 n0)] fun v5 h4 =>
    asB v5 fun q1 =>
    ifB (not q1) (
      some ((.tuple #[(.slice none 0 0), (.int .i64 2)]), h4)) (
      ld Try.prog h4 31 (nx h0) 0 fun v6 =>
      calls rec h4 72 [v6, (.int .i64 n1)] fun v7 h5 =>
      asB v7 fun q2 =>
      ifB (not q2) (
        some ((.tuple #[(.slice none 0 0), (.int .i64 2)]), h5)) (
        ifB (eq n0 n1) (
          some ((.tuple #[(.slice none 0 0), (.int .i64 2)]), h5)) (
          al h5 25 [(.slice none 0 0)] fun h6 =>
          ld Try.prog h6 31 (nx h0) 0 fun v8 =>
          calls rec h6 85 [v8, (.int .i64 n0), (.int .i64 n1), (.func (.func 97) #[] #[(pt (nx h5) 0), (pt (nx h1) 0)])] fun _ h7 =>
          ld Try.prog h7 25 (nx h5) 0 fun v10 =>
          eqv Try.prog 25 v10 (.slice none 0 0) fun q3 =>
          ifB q3 (
            some ((.tuple #[(.slice none 0 0), (.int .i64 4)]), h7)) (
            ld Try.prog h7 25 (nx h5) 0 fun v11 =>
            some ((.tuple #[v11, (.int .i64 0)]), h7))))))

theorem e65 (rec : Rec) (k : Nat) (v0 : Value) (n0 : Int) (n1 : Int) (v1 : Value) (h : H) : bodyT Try.prog E0 SC (XC Try.prog rec k) 65 (Value × H) [.opq v0, .int .i64 n0, .int .i64 n1, .opq v1] h (fun v h => some (v, h)) = f65 rec k v0 n0 n1 v1 h := by kernel_rfl

theorem t65 {k : Nat} {v0 : Value} {n0 : Int} {n1 : Int} {v1 : Value} {h h1 : H} {v : Value} (hh : f65 rn k v0 n0 n1 v1 h = some (v, h1)) : rn 65 #[v0, .int .i64 n0, .int .i64 n1, v1] h = some (v, trunc Try.prog h h1 v) :=
  run_of_bodyT (args := [.opq v0, .int .i64 n0, .int .i64 n1, .opq v1]) rfl ((e65 _ _ _ _ _ _ _).trans hh)

theorem x65 {k : Nat} {v0 : Value} {n0 : Int} {n1 : Int} {v1 : Value} {h h1 : H} {v : Value} (hh : f65 rn k v0 n0 n1 v1 h = some (v, h1)) (hp : plainO v = false) : rn 65 #[v0, .int .i64 n0, .int .i64 n1, v1] h = some (v, h1) := by rw [t65 hh, trunc_not hp]

noncomputable def f66 (_rec : Rec) (_k : Nat) (v0 : Value) (v1 : Value) (h0 : H) : Option (Value × H) :=
  bx h0 31 v0 fun h1 =>
  ld Try.prog h1 29 (nx h0) (off 0 1) fun v2 =>
  len v1 fun n0 =>
  six v1 (sub .i64 n0 1) 1 fun b0 b1 =>
  ld Try.prog h1 3 b0 b1 fun v3 =>
  asI .i64 v3 fun n1 =>
  six v2 n1 3 fun b2 b3 =>
  ld Try.prog h1 3 b2 (off b3 2) fun v4 =>
  asI .i64 v4 fun n2 =>
  some ((.int .i64 n2), h1)

theorem e66 (rec : Rec) (k : Nat) (v0 : Value) (v1 : Value) (h : H) : bodyT Try.prog E0 SC (XC Try.prog rec k) 66 (Value × H) [.opq v0, .opq v1] h (fun v h => some (v, h)) = f66 rec k v0 v1 h := by kernel_rfl

theorem t66 {k : Nat} {v0 : Value} {v1 : Value} {h h1 : H} {v : Value} (hh : f66 rn k v0 v1 h = some (v, h1)) : rn 66 #[v0, v1] h = some (v, trunc Try.prog h h1 v) :=
  run_of_bodyT (args := [.opq v0, .opq v1]) rfl ((e66 _ _ _ _ _).trans hh)

theorem p66 {k : Nat} {v0 : Value} {v1 : Value} {h h1 : H} {v : Value} (hh : f66 rn k v0 v1 h = some (v, h1)) (hp : plainO v = true) (x : Ext h h1) : rn 66 #[v0, v1] h = some (v, h) := by rw [t66 hh, trunc_pure hp x]

noncomputable def f67 (_rec : Rec) (_k : Nat) (v0 : Value) (h0 : H) : Option (Value × H) :=
  len v0 fun n0 =>
  some ((.int .i64 n0), h0)

theorem e67 (rec : Rec) (k : Nat) (v0 : Value) (h : H) : bodyT Try.prog E0 SC (XC Try.prog rec k) 67 (Value × H) [.opq v0] h (fun v h => some (v, h)) = f67 rec k v0 h := by kernel_rfl

theorem t67 {k : Nat} {v0 : Value} {h h1 : H} {v : Value} (hh : f67 rn k v0 h = some (v, h1)) : rn 67 #[v0] h = some (v, trunc Try.prog h h1 v) :=
  run_of_bodyT (args := [.opq v0]) rfl ((e67 _ _ _ _).trans hh)

theorem p67 {k : Nat} {v0 : Value} {h h1 : H} {v : Value} (hh : f67 rn k v0 h = some (v, h1)) (hp : plainO v = true) (x : Ext h h1) : rn 67 #[v0] h = some (v, h) := by rw [t67 hh, trunc_pure hp x]

noncomputable def f68 (rec : Rec) (_k : Nat) (v0 : Value) (v1 : Value) (h0 : H) : Option (Value × H) :=
  asP v1 fun _ _ =>
  asP v1 fun b2 b3 =>
  ld Try.prog h0 31 b2 b3 fun v2 =>
  calls rec h0 66 [v2, v0] fun v3 h1 =>
  asI .i64 v3 fun n0 =>
  asP v1 fun b4 _ =>
  asP v1 fun b6 b7 =>
  ld Try.prog h1 31 b6 b7 fun v4 =>
  ck (freq b4 (nx h0) (same h1 h0)) (
    calls rec h1 69 [v4, v0] fun v5 h2 =>
    asI .i64 v5 fun n1 =>
    some ((.int .i64 (sub .i64 n0 n1)), h2))

theorem e68 (rec : Rec) (k : Nat) (v0 : Value) (v1 : Value) (h : H) : bodyT Try.prog E0 SC (XC Try.prog rec k) 68 (Value × H) [.opq v0, .opq v1] h (fun v h => some (v, h)) = f68 rec k v0 v1 h := by kernel_rfl

theorem t68 {k : Nat} {v0 : Value} {v1 : Value} {h h1 : H} {v : Value} (hh : f68 rn k v0 v1 h = some (v, h1)) : rn 68 #[v0, v1] h = some (v, trunc Try.prog h h1 v) :=
  run_of_bodyT (args := [.opq v0, .opq v1]) rfl ((e68 _ _ _ _ _).trans hh)

theorem p68 {k : Nat} {v0 : Value} {v1 : Value} {h h1 : H} {v : Value} (hh : f68 rn k v0 v1 h = some (v, h1)) (hp : plainO v = true) (x : Ext h h1) : rn 68 #[v0, v1] h = some (v, h) := by rw [t68 hh, trunc_pure hp x]

noncomputable def f69 (_rec : Rec) (_k : Nat) (v0 : Value) (v1 : Value) (h0 : H) : Option (Value × H) :=
  bx h0 31 v0 fun h1 =>
  ld Try.prog h1 29 (nx h0) (off 0 1) fun v2 =>
  six v1 0 1 fun b0 b1 =>
  ld Try.prog h1 3 b0 b1 fun v3 =>
  asI .i64 v3 fun n0 =>
  six v2 n0 3 fun b2 b3 =>
  ld Try.prog h1 3 b2 (off b3 2) fun v4 =>
  asI .i64 v4 fun n1 =>
  some ((.int .i64 n1), h1)

theorem e69 (rec : Rec) (k : Nat) (v0 : Value) (v1 : Value) (h : H) : bodyT Try.prog E0 SC (XC Try.prog rec k) 69 (Value × H) [.opq v0, .opq v1] h (fun v h => some (v, h)) = f69 rec k v0 v1 h := by kernel_rfl

theorem t69 {k : Nat} {v0 : Value} {v1 : Value} {h h1 : H} {v : Value} (hh : f69 rn k v0 v1 h = some (v, h1)) : rn 69 #[v0, v1] h = some (v, trunc Try.prog h h1 v) :=
  run_of_bodyT (args := [.opq v0, .opq v1]) rfl ((e69 _ _ _ _ _).trans hh)

theorem p69 {k : Nat} {v0 : Value} {v1 : Value} {h h1 : H} {v : Value} (hh : f69 rn k v0 v1 h = some (v, h1)) (hp : plainO v = true) (x : Ext h h1) : rn 69 #[v0, v1] h = some (v, h) := by rw [t69 hh, trunc_pure hp x]

noncomputable def f70_l1 (_rec : Rec) (_k : Nat) (n2 : Int) (h0 : H) (v2 : Value) (n3 : Int) (ws0 : List Value) (h3 : H) : Option (Ex × List Value × H) :=
  asI .i64 (gv ws0 2) fun n4 =>
  ifB (lt n4 n3) (
    asK (gv ws0 2) fun n5 =>
    six v2 n5 1 fun b0 b1 =>
    ld Try.prog h3 25 b0 b1 fun v3 =>
    ld Try.prog h3 22 (nx h0) (off 0 1) fun v4 =>
    six v3 0 1 fun b2 b3 =>
    ld Try.prog h3 3 b2 b3 fun v5 =>
    asI .i64 v5 fun n6 =>
    six v4 n6 3 fun b4 b5 =>
    ld Try.prog h3 3 b4 (off b5 2) fun v6 =>
    asI .i64 v6 fun n7 =>
    ld Try.prog h3 22 (nx h0) (off 0 1) fun v7 =>
    len v3 fun n8 =>
    six v3 (sub .i64 n8 1) 1 fun b6 b7 =>
    ld Try.prog h3 3 b6 b7 fun v8 =>
    asI .i64 v8 fun n9 =>
    six v7 n9 3 fun b8 b9 =>
    ld Try.prog h3 3 b8 (off b9 2) fun v9 =>
    asI .i64 v9 fun n10 =>
    len v3 fun n11 =>
    bld Try.prog 108 [(0, (.int .i64 n10)), (1, (.int .i64 n11)), (2, (.int .i64 (sub .i64 n10 n7)))] fun v10 =>
    inx Try.prog 108 v10 n2 fun v11 =>
    asI .i64 v11 fun n12 =>
    asI .i64 (gv ws0 1) fun n13 =>
    ifB (lt n12 n13) (
      asI .i64 (gv ws0 2) fun n14 =>
      out .normal [v3, (.int .i64 n12), (.int .i64 (add .i64 n14 1))] h3) (
      asI .i64 (gv ws0 2) fun n15 =>
      out .normal [gv ws0 0, gv ws0 1, (.int .i64 (add .i64 n15 1))] h3)) (
    out (.exit 0) [gv ws0 0, gv ws0 1, gv ws0 2] h3)

noncomputable def f70 (rec : Rec) (k : Nat) (v0 : Value) (n0 : Int) (n1 : Int) (n2 : Int) (h0 : H) : Option (Value × H) :=
  bx h0 24 v0 fun h1 =>
  ld Try.prog h1 24 (nx h0) 0 fun v1 =>
  calls rec h1 98 [v1, (.int .i64 n0), (.int .i64 n1)] fun v2 h2 =>
  len v2 fun n3 =>
  lp k (f70_l1 rec k n2 h0 v2 n3) [(.slice none 0 0), (.int .i64 99), (.int .i64 0)] h2 fun e0 ws1 h4 =>
  onE e0 0 (
    eqv Try.prog 25 (gv ws1 0) (.slice none 0 0) fun q0 =>
    ifB q0 (
      some ((.tuple #[(.slice none 0 0), (.int .i64 4)]), h4)) (
      some ((.tuple #[gv ws1 0, (.int .i64 0)]), h4))) (
    none)

theorem e70 (rec : Rec) (k : Nat) (v0 : Value) (n0 : Int) (n1 : Int) (n2 : Int) (h : H) : bodyT Try.prog E0 SC (XC Try.prog rec k) 70 (Value × H) [.opq v0, .int .i64 n0, .int .i64 n1, .int .i64 n2] h (fun v h => some (v, h)) = f70 rec k v0 n0 n1 n2 h := by kernel_rfl

theorem t70 {k : Nat} {v0 : Value} {n0 : Int} {n1 : Int} {n2 : Int} {h h1 : H} {v : Value} (hh : f70 rn k v0 n0 n1 n2 h = some (v, h1)) : rn 70 #[v0, .int .i64 n0, .int .i64 n1, .int .i64 n2] h = some (v, trunc Try.prog h h1 v) :=
  run_of_bodyT (args := [.opq v0, .int .i64 n0, .int .i64 n1, .int .i64 n2]) rfl ((e70 _ _ _ _ _ _ _).trans hh)

theorem x70 {k : Nat} {v0 : Value} {n0 : Int} {n1 : Int} {n2 : Int} {h h1 : H} {v : Value} (hh : f70 rn k v0 n0 n1 n2 h = some (v, h1)) (hp : plainO v = false) : rn 70 #[v0, .int .i64 n0, .int .i64 n1, .int .i64 n2] h = some (v, h1) := by rw [t70 hh, trunc_not hp]

noncomputable def f80_l1 (_rec : Rec) (_k : Nat) (v0 : Value) (n0 : Int) (n1 : Int) (ws0 : List Value) (h1 : H) : Option (Ex × List Value × H) :=
  asI .i64 (gv ws0 1) fun n2 =>
  ifB (lt n2 n1) (
    asK (gv ws0 1) fun n3 =>
    six v0 n3 1 fun b0 b1 =>
    ld Try.prog h1 3 b0 b1 fun v1 =>
    asI .i64 v1 fun n4 =>
    ifB (eq n0 n4) (
      out .ret [gv ws0 1, gv ws0 1] h1) (
      asI .i64 (gv ws0 1) fun n5 =>
      out .normal [gv ws0 0, (.int .i64 (add .i64 n5 1))] h1)) (
    out (.exit 0) [gv ws0 0, gv ws0 1] h1)

noncomputable def f80 (rec : Rec) (k : Nat) (v0 : Value) (n0 : Int) (h0 : H) : Option (Value × H) :=
  len v0 fun n1 =>
  lp k (f80_l1 rec k v0 n0 n1) [(.int .i64 0), (.int .i64 0)] h0 fun e0 ws1 h2 =>
  onE e0 0 (
    some ((.int .i64 (-1)), h2)) (
    onR e0 (
      some (gv ws1 0, h2)))

theorem e80 (rec : Rec) (k : Nat) (v0 : Value) (n0 : Int) (h : H) : bodyT Try.prog E0 SC (XC Try.prog rec k) 80 (Value × H) [.opq v0, .int .i64 n0] h (fun v h => some (v, h)) = f80 rec k v0 n0 h := by kernel_rfl

theorem t80 {k : Nat} {v0 : Value} {n0 : Int} {h h1 : H} {v : Value} (hh : f80 rn k v0 n0 h = some (v, h1)) : rn 80 #[v0, .int .i64 n0] h = some (v, trunc Try.prog h h1 v) :=
  run_of_bodyT (args := [.opq v0, .int .i64 n0]) rfl ((e80 _ _ _ _ _).trans hh)

theorem p80 {k : Nat} {v0 : Value} {n0 : Int} {h h1 : H} {v : Value} (hh : f80 rn k v0 n0 h = some (v, h1)) (hp : plainO v = true) (x : Ext h h1) : rn 80 #[v0, .int .i64 n0] h = some (v, h) := by rw [t80 hh, trunc_pure hp x]

noncomputable def f82 (rec : Rec) (_k : Nat) (v0 : Value) (n0 : Int) (n1 : Int) (h0 : H) : Option (Value × H) :=
  bx h0 31 v0 fun h1 =>
  ld Try.prog h1 31 (nx h0) 0 fun v1 =>
  calls rec h1 71 [v1] fun v2 h2 =>
  asB v2 fun q0 =>
  ifB q0 (
    ld Try.prog h2 31 (nx h0) 0 fun v3 =>
    calls rec h2 72 [v3, (.int .i64 n0)] fun v4 h3 =>
    asB v4 fun q1 =>
    ifB q1 (
      ld Try.prog h3 31 (nx h0) 0 fun v5 =>
      calls rec h3 72 [v5, (.int .i64 n1)] fun v6 h4 =>
      asB v6 fun q2 =>
      ifB q2 (
        some ((.bool (not (eq n0 n1))), h4)) (
        some ((.bool false), h4))) (
      some ((.bool false), h3))) (
    some ((.bool false), h2))

theorem e82 (rec : Rec) (k : Nat) (v0 : Value) (n0 : Int) (n1 : Int) (h : H) : bodyT Try.prog E0 SC (XC Try.prog rec k) 82 (Value × H) [.opq v0, .int .i64 n0, .int .i64 n1] h (fun v h => some (v, h)) = f82 rec k v0 n0 n1 h := by kernel_rfl

theorem t82 {k : Nat} {v0 : Value} {n0 : Int} {n1 : Int} {h h1 : H} {v : Value} (hh : f82 rn k v0 n0 n1 h = some (v, h1)) : rn 82 #[v0, .int .i64 n0, .int .i64 n1] h = some (v, trunc Try.prog h h1 v) :=
  run_of_bodyT (args := [.opq v0, .int .i64 n0, .int .i64 n1]) rfl ((e82 _ _ _ _ _ _).trans hh)

theorem p82 {k : Nat} {v0 : Value} {n0 : Int} {n1 : Int} {h h1 : H} {v : Value} (hh : f82 rn k v0 n0 n1 h = some (v, h1)) (hp : plainO v = true) (x : Ext h h1) : rn 82 #[v0, .int .i64 n0, .int .i64 n1] h = some (v, h) := by rw [t82 hh, trunc_pure hp x]

noncomputable def f85 (rec : Rec) (_k : Nat) (v0 : Value) (n0 : Int) (n1 : Int) (v1 : Value) (h0 : H) : Option (Value × H) :=
  bx h0 31 v0 fun h1 =>
  bx h1 3 (.int .i64 n1) fun h2 =>
  bx h2 89 v1 fun h3 =>
  al h3 25 [(.slice none 0 0)] fun h4 =>
  al h4 121 [.nilFunc] fun h5 =>
  st Try.prog h5 121 (nx h4) 0 (.func (.func 104) #[] #[(pt (nx h0) 0), (pt (nx h3) 0), (pt (nx h1) 0), (pt (nx h2) 0), (pt (nx h4) 0)]) fun h6 =>
  ld Try.prog h6 121 (nx h4) 0 fun v2 =>
  nn n0 (
    callsV rec h6 v2 [(.int .i64 n0), (.int .i64 0), (.int .i64 (shl .i64 1 n0))] fun _ h7 =>
    some (undef, h7))

theorem e85 (rec : Rec) (k : Nat) (v0 : Value) (n0 : Int) (n1 : Int) (v1 : Value) (h : H) : bodyT Try.prog E0 SC (XC Try.prog rec k) 85 (Value × H) [.opq v0, .int .i64 n0, .int .i64 n1, .opq v1] h (fun v h => some (v, h)) = f85 rec k v0 n0 n1 v1 h := by kernel_rfl

theorem t85 {k : Nat} {v0 : Value} {n0 : Int} {n1 : Int} {v1 : Value} {h h1 : H} {v : Value} (hh : f85 rn k v0 n0 n1 v1 h = some (v, h1)) : rn 85 #[v0, .int .i64 n0, .int .i64 n1, v1] h = some (v, trunc Try.prog h h1 v) :=
  run_of_bodyT (args := [.opq v0, .int .i64 n0, .int .i64 n1, .opq v1]) rfl ((e85 _ _ _ _ _ _ _).trans hh)

theorem x85 {k : Nat} {v0 : Value} {n0 : Int} {n1 : Int} {v1 : Value} {h h1 : H} {v : Value} (hh : f85 rn k v0 n0 n1 v1 h = some (v, h1)) (hp : plainO v = false) : rn 85 #[v0, .int .i64 n0, .int .i64 n1, v1] h = some (v, h1) := by rw [t85 hh, trunc_not hp]

noncomputable def f97 (rec : Rec) (_k : Nat) (v0 : Value) (v1 : Value) (v2 : Value) (h0 : H) : Option (Value × H) :=
  asP v1 fun _ _ =>
  asP v1 fun b2 b3 =>
  ld Try.prog h0 25 b2 b3 fun v3 =>
  eqv Try.prog 25 v3 (.slice none 0 0) fun q0 =>
  ifB q0 (
    calls rec h0 75 [v0] fun v4 h1 =>
    asP v1 fun b4 b5 =>
    st Try.prog h1 25 b4 b5 v4 fun h2 =>
    some (undef, h2)) (
    asP v2 fun _ _ =>
    asP v2 fun b8 b9 =>
    ld Try.prog h0 61 b8 b9 fun v5 =>
    callsV rec h0 v5 [v0] fun v6 h3 =>
    asI .i64 v6 fun n0 =>
    asP v2 fun b10 _ =>
    asP v2 fun b12 b13 =>
    ld Try.prog h3 61 b12 b13 fun v7 =>
    ck (freq b10 (nx h0) (same h3 h0)) (
      asP v1 fun b14 _ =>
      asP v1 fun b16 b17 =>
      ld Try.prog h3 25 b16 b17 fun v8 =>
      ck (freq b14 (nx h0) (same h3 h0)) (
        callsV rec h3 v7 [v8] fun v9 h4 =>
        asI .i64 v9 fun n1 =>
        ifB (lt n0 n1) (
          calls rec h4 75 [v0] fun v10 h5 =>
          asP v1 fun b18 b19 =>
          st Try.prog h5 25 b18 b19 v10 fun h6 =>
          some (undef, h6)) (
          some (undef, h4)))))

theorem e97 (rec : Rec) (k : Nat) (v0 : Value) (v1 : Value) (v2 : Value) (h : H) : bodyT Try.prog E0 SC (XC Try.prog rec k) 97 (Value × H) [.opq v0, .opq v1, .opq v2] h (fun v h => some (v, h)) = f97 rec k v0 v1 v2 h := by kernel_rfl

theorem t97 {k : Nat} {v0 : Value} {v1 : Value} {v2 : Value} {h h1 : H} {v : Value} (hh : f97 rn k v0 v1 v2 h = some (v, h1)) : rn 97 #[v0, v1, v2] h = some (v, trunc Try.prog h h1 v) :=
  run_of_bodyT (args := [.opq v0, .opq v1, .opq v2]) rfl ((e97 _ _ _ _ _ _).trans hh)

theorem x97 {k : Nat} {v0 : Value} {v1 : Value} {v2 : Value} {h h1 : H} {v : Value} (hh : f97 rn k v0 v1 v2 h = some (v, h1)) (hp : plainO v = false) : rn 97 #[v0, v1, v2] h = some (v, h1) := by rw [t97 hh, trunc_not hp]

noncomputable def f98 (rec : Rec) (_k : Nat) (v0 : Value) (n0 : Int) (n1 : Int) (h0 : H) : Option (Value × H) :=
  bx h0 24 v0 fun h1 =>
  ld Try.prog h1 24 (nx h0) 0 fun v1 =>
  nn n0 (
    calls rec h1 111 [v1, (.int .i64 n0), (.int .i64 n1), (.int .i64 (shl .i64 1 n0)), (.int .i64 0), (.slice none 0 0)] fun v2 h2 =>
    some (v2, h2))

theorem e98 (rec : Rec) (k : Nat) (v0 : Value) (n0 : Int) (n1 : Int) (h : H) : bodyT Try.prog E0 SC (XC Try.prog rec k) 98 (Value × H) [.opq v0, .int .i64 n0, .int .i64 n1] h (fun v h => some (v, h)) = f98 rec k v0 n0 n1 h := by kernel_rfl

theorem t98 {k : Nat} {v0 : Value} {n0 : Int} {n1 : Int} {h h1 : H} {v : Value} (hh : f98 rn k v0 n0 n1 h = some (v, h1)) : rn 98 #[v0, .int .i64 n0, .int .i64 n1] h = some (v, trunc Try.prog h h1 v) :=
  run_of_bodyT (args := [.opq v0, .int .i64 n0, .int .i64 n1]) rfl ((e98 _ _ _ _ _ _).trans hh)

theorem x98 {k : Nat} {v0 : Value} {n0 : Int} {n1 : Int} {h h1 : H} {v : Value} (hh : f98 rn k v0 n0 n1 h = some (v, h1)) (hp : plainO v = false) : rn 98 #[v0, .int .i64 n0, .int .i64 n1] h = some (v, h1) := by rw [t98 hh, trunc_not hp]

noncomputable def f104_l1 (rec : Rec) (_k : Nat) (n0 : Int) (n1 : Int) (n2 : Int) (v1 : Value) (v2 : Value) (v3 : Value) (v4 : Value) (v5 : Value) (n3 : Int) (ws0 : List Value) (h1 : H) : Option (Ex × List Value × H) :=
  asI .i64 (gv ws0 0) fun n4 =>
  ifB (lt n4 n3) (
    asK (gv ws0 0) fun n5 =>
    six v5 n5 3 fun b2 b3 =>
    ld Try.prog h1 56 b2 b3 fun v6 =>
    al h1 56 [(.int .i64 0), (.int .i64 0), (.int .i64 0)] fun h2 =>
    st Try.prog h2 56 (nx h1) 0 v6 fun h3 =>
    ld Try.prog h3 3 (nx h1) (off 0 2) fun v7 =>
    asI .i64 v7 fun n6 =>
    ifB (le n6 n1) (
      asI .i64 (gv ws0 0) fun n7 =>
      out .normal [(.int .i64 (add .i64 n7 1))] h3) (
      ld Try.prog h3 56 (nx h1) 0 fun v8 =>
      calls rec h3 73 [v8, (.int .i64 n0)] fun v9 h4 =>
      asB v9 fun q0 =>
      ifB (not q0) (
        asI .i64 (gv ws0 0) fun n8 =>
        out .normal [(.int .i64 (add .i64 n8 1))] h4) (
        ld Try.prog h4 56 (nx h1) 0 fun v10 =>
        calls rec h4 74 [v10, (.int .i64 n0)] fun v11 h5 =>
        asI .i64 v11 fun n9 =>
        nn n9 (
          ifB (eq (and .i64 (shr .i64 n2 n9) 1) 1) (
            asI .i64 (gv ws0 0) fun n10 =>
            out .normal [(.int .i64 (add .i64 n10 1))] h5) (
            ld Try.prog h5 56 (nx h1) 0 fun v12 =>
            calls rec h5 74 [v12, (.int .i64 n0)] fun v13 h6 =>
            asI .i64 v13 fun n11 =>
            asP v1 fun b4 b5 =>
            ld Try.prog h6 25 b4 b5 fun v14 =>
            bls Try.prog h6 25 1 [(0, gv ws0 0)] fun v15 h7 =>
            app Try.prog h7 25 25 v14 v15 fun v16 h8 =>
            asP v1 fun b6 b7 =>
            st Try.prog h8 25 b6 b7 v16 fun h9 =>
            asP v2 fun b8 b9 =>
            ld Try.prog h9 3 b8 b9 fun v17 =>
            asI .i64 v17 fun n12 =>
            ifB (eq n11 n12) (
              asP v3 fun b10 b11 =>
              ld Try.prog h9 89 b10 b11 fun v18 =>
              asP v1 fun b12 b13 =>
              ld Try.prog h9 25 b12 b13 fun v19 =>
              callsV rec h9 v18 [v19] fun _ h10 =>
              asP v1 fun b14 b15 =>
              ld Try.prog h10 25 b14 b15 fun v21 =>
              asP v1 fun b16 b17 =>
              ld Try.prog h10 25 b16 b17 fun v22 =>
              len v22 fun n13 =>
              sli Try.prog h10 25 v21 none (some (.int .i64 (sub .i64 n13 1))) none fun v23 =>
              asP v1 fun b18 b19 =>
              st Try.prog h10 25 b18 b19 v23 fun h11 =>
              asI .i64 (gv ws0 0) fun n14 =>
              out .normal [(.int .i64 (add .i64 n14 1))] h11) (
              asP v4 fun _ _ =>
              asP v4 fun b22 b23 =>
              ld Try.prog h9 121 b22 b23 fun v24 =>
              ld Try.prog h9 3 (nx h1) (off 0 2) fun v25 =>
              asI .i64 v25 fun n15 =>
              nn n11 (
                callsV rec h9 v24 [(.int .i64 n11), (.int .i64 n15), (.int .i64 (or .i64 n2 (shl .i64 1 n11)))] fun _ h12 =>
                asP v1 fun b24 b25 =>
                ld Try.prog h12 25 b24 b25 fun v27 =>
                asP v1 fun b26 b27 =>
                ld Try.prog h12 25 b26 b27 fun v28 =>
                len v28 fun n16 =>
                sli Try.prog h12 25 v27 none (some (.int .i64 (sub .i64 n16 1))) none fun v29 =>
                asP v1 fun b28 b29 =>
                st Try.prog h12 25 b28 b29 v29 fun h13 =>
                asI .i64 (gv ws0 0) fun n17 =>
                out .normal [(.int .i64 (add .i64 n17 1))] h13))))))) (
    out (.exit 0) [gv ws0 0] h1)

noncomputable def f104 (rec : Rec) (k : Nat) (n0 : Int) (n1 : Int) (n2 : Int) (v0 : Value) (v1 : Value) (v2 : Value) (v3 : Value) (v4 : Value) (h0 : H) : Option (Value × H) :=
  asP v0 fun b0 b1 =>
  ld Try.prog h0 29 b0 (off b1 1) fun v5 =>
  len v5 fun n3 =>
  lp k (f104_l1 rec k n0 n1 n2 v1 v2 v3 v4 v5 n3) [(.int .i64 0)] h0 fun e0 _ h14 =>
  onE e0 0 (
    some (undef, h14)) (
    none)

theorem e104 (rec : Rec) (k : Nat) (n0 : Int) (n1 : Int) (n2 : Int) (v0 : Value) (v1 : Value) (v2 : Value) (v3 : Value) (v4 : Value) (h : H) : bodyT Try.prog E0 SC (XC Try.prog rec k) 104 (Value × H) [.int .i64 n0, .int .i64 n1, .int .i64 n2, .opq v0, .opq v1, .opq v2, .opq v3, .opq v4] h (fun v h => some (v, h)) = f104 rec k n0 n1 n2 v0 v1 v2 v3 v4 h := by kernel_rfl

theorem t104 {k : Nat} {n0 : Int} {n1 : Int} {n2 : Int} {v0 : Value} {v1 : Value} {v2 : Value} {v3 : Value} {v4 : Value} {h h1 : H} {v : Value} (hh : f104 rn k n0 n1 n2 v0 v1 v2 v3 v4 h = some (v, h1)) : rn 104 #[.int .i64 n0, .int .i64 n1, .int .i64 n2, v0, v1, v2, v3, v4] h = some (v, trunc Try.prog h h1 v) :=
  run_of_bodyT (args := [.int .i64 n0, .int .i64 n1, .int .i64 n2, .opq v0, .opq v1, .opq v2, .opq v3, .opq v4]) rfl ((e104 _ _ _ _ _ _ _ _ _ _ _).trans hh)

theorem x104 {k : Nat} {n0 : Int} {n1 : Int} {n2 : Int} {v0 : Value} {v1 : Value} {v2 : Value} {v3 : Value} {v4 : Value} {h h1 : H} {v : Value} (hh : f104 rn k n0 n1 n2 v0 v1 v2 v3 v4 h = some (v, h1)) (hp : plainO v = false) : rn 104 #[.int .i64 n0, .int .i64 n1, .int .i64 n2, v0, v1, v2, v3, v4] h = some (v, h1) := by rw [t104 hh, trunc_not hp]

noncomputable def f111_l1 (rec : Rec) (_k : Nat) (n0 : Int) (n1 : Int) (n2 : Int) (n3 : Int) (v1 : Value) (h0 : H) (v3 : Value) (n4 : Int) (ws0 : List Value) (h3 : H) : Option (Ex × List Value × H) :=
  asI .i64 (gv ws0 1) fun n5 =>
  ifB (lt n5 n4) (
    asK (gv ws0 1) fun n6 =>
    six v3 n6 3 fun b0 b1 =>
    ld Try.prog h3 59 b0 b1 fun v4 =>
    al h3 59 [(.int .i64 0), (.int .i64 0), (.int .i64 0)] fun h4 =>
    st Try.prog h4 59 (nx h3) 0 v4 fun h5 =>
    ld Try.prog h5 3 (nx h3) 0 fun v5 =>
    asI .i64 v5 fun n7 =>
    ld Try.prog h5 3 (nx h3) (off 0 1) fun v6 =>
    asI .i64 v6 fun n8 =>
    ld Try.prog h5 3 (nx h3) (off 0 2) fun v7 =>
    asI .i64 v7 fun n9 =>
    ifB (lt n3 n9) (
      ld Try.prog h5 3 (nx h3) 0 fun v8 =>
      asI .i64 v8 fun n10 =>
      ifB (eq n10 n0) (
        nn (sub .i64 (add .i64 n7 n8) n0) (
          ifB (eq (and .i64 (shr .i64 n2 (sub .i64 (add .i64 n7 n8) n0)) 1) 0) (
            ld Try.prog h5 24 (nx h0) 0 fun v9 =>
            nn (sub .i64 (add .i64 n7 n8) n0) (
              ld Try.prog h5 3 (nx h3) (off 0 2) fun v10 =>
              asI .i64 v10 fun n11 =>
              len v1 fun n12 =>
              len v1 fun n13 =>
              sli Try.prog h5 25 v1 none (some (.int .i64 n12)) (some (.int .i64 n13)) fun v11 =>
              bls Try.prog h5 25 1 [(0, gv ws0 1)] fun v12 h6 =>
              ck (fres v1 (nx h5) (same h6 h5)) (
                ck (freq (nx h3) (nx h5) (same h6 h5)) (
                  ck (freq (nx h0) (nx h5) (same h6 h5)) (
                    app Try.prog h6 25 25 v11 v12 fun v13 h7 =>
                    ck (freq (nx h3) (nx h6) (same h7 h6)) (
                      ck (freq (nx h0) (nx h6) (same h7 h6)) (
                        calls rec h7 111 [v9, (.int .i64 (sub .i64 (add .i64 n7 n8) n0)), (.int .i64 n1), (.int .i64 (or .i64 n2 (shl .i64 1 (sub .i64 (add .i64 n7 n8) n0)))), (.int .i64 n11), v13] fun v14 h8 =>
                        app Try.prog h8 58 58 (gv ws0 0) v14 fun v15 h9 =>
                        asI .i64 (gv ws0 1) fun n14 =>
                        out .normal [v15, (.int .i64 (add .i64 n14 1))] h9))))))) (
            asI .i64 (gv ws0 1) fun n15 =>
            out .normal [gv ws0 0, (.int .i64 (add .i64 n15 1))] h5))) (
        ld Try.prog h5 3 (nx h3) (off 0 1) fun v16 =>
        asI .i64 v16 fun n16 =>
        ifB (eq n16 n0) (
          nn (sub .i64 (add .i64 n7 n8) n0) (
            ifB (eq (and .i64 (shr .i64 n2 (sub .i64 (add .i64 n7 n8) n0)) 1) 0) (
              ld Try.prog h5 24 (nx h0) 0 fun v17 =>
              nn (sub .i64 (add .i64 n7 n8) n0) (
                ld Try.prog h5 3 (nx h3) (off 0 2) fun v18 =>
                asI .i64 v18 fun n17 =>
                len v1 fun n18 =>
                len v1 fun n19 =>
                sli Try.prog h5 25 v1 none (some (.int .i64 n18)) (some (.int .i64 n19)) fun v19 =>
                bls Try.prog h5 25 1 [(0, gv ws0 1)] fun v20 h10 =>
                ck (fres v1 (nx h5) (same h10 h5)) (
                  ck (freq (nx h3) (nx h5) (same h10 h5)) (
                    ck (freq (nx h0) (nx h5) (same h10 h5)) (
                      app Try.prog h10 25 25 v19 v20 fun v21 h11 =>
                      ck (freq (nx h3) (nx h10) (same h11 h10)) (
                        ck (freq (nx h0) (nx h10) (same h11 h10)) (
                          calls rec h11 111 [v17, (.int .i64 (sub .i64 (add .i64 n7 n8) n0)), (.int .i64 n1), (.int .i64 (or .i64 n2 (shl .i64 1 (sub .i64 (add .i64 n7 n8) n0)))), (.int .i64 n17), v21] fun v22 h12 =>
                          app Try.prog h12 58 58 (gv ws0 0) v22 fun v23 h13 =>
                          asI .i64 (gv ws0 1) fun n20 =>
                          out .normal [v23, (.int .i64 (add .i64 n20 1))] h13))))))) (
              asI .i64 (gv ws0 1) fun n21 =>
              out .normal [gv ws0 0, (.int .i64 (add .i64 n21 1))] h5))) (
          asI .i64 (gv ws0 1) fun n22 =>
          out .normal [gv ws0 0, (.int .i64 (add .i64 n22 1))] h5))) (
      asI .i64 (gv ws0 1) fun n23 =>
      out .normal [gv ws0 0, (.int .i64 (add .i64 n23 1))] h5)) (
    out (.exit 0) [gv ws0 0, gv ws0 1] h3)

noncomputable def f111 (rec : Rec) (k : Nat) (v0 : Value) (n0 : Int) (n1 : Int) (n2 : Int) (n3 : Int) (v1 : Value) (h0 : H) : Option (Value × H) :=
  bx h0 24 v0 fun h1 =>
  ifB (eq n0 n1) (
    bls Try.prog h1 58 1 [(0, v1)] fun v2 h2 =>
    some (v2, h2)) (
    ld Try.prog h1 22 (nx h0) (off 0 1) fun v3 =>
    len v3 fun n4 =>
    lp k (f111_l1 rec k n0 n1 n2 n3 v1 h0 v3 n4) [(.slice none 0 0), (.int .i64 0)] h1 fun e0 ws1 h14 =>
    onE e0 0 (
      some (gv ws1 0, h14)) (
      none))

theorem e111 (rec : Rec) (k : Nat) (v0 : Value) (n0 : Int) (n1 : Int) (n2 : Int) (n3 : Int) (v1 : Value) (h : H) : bodyT Try.prog E0 SC (XC Try.prog rec k) 111 (Value × H) [.opq v0, .int .i64 n0, .int .i64 n1, .int .i64 n2, .int .i64 n3, .opq v1] h (fun v h => some (v, h)) = f111 rec k v0 n0 n1 n2 n3 v1 h := by kernel_rfl

theorem t111 {k : Nat} {v0 : Value} {n0 : Int} {n1 : Int} {n2 : Int} {n3 : Int} {v1 : Value} {h h1 : H} {v : Value} (hh : f111 rn k v0 n0 n1 n2 n3 v1 h = some (v, h1)) : rn 111 #[v0, .int .i64 n0, .int .i64 n1, .int .i64 n2, .int .i64 n3, v1] h = some (v, trunc Try.prog h h1 v) :=
  run_of_bodyT (args := [.opq v0, .int .i64 n0, .int .i64 n1, .int .i64 n2, .int .i64 n3, .opq v1]) rfl ((e111 _ _ _ _ _ _ _ _ _).trans hh)

theorem x111 {k : Nat} {v0 : Value} {n0 : Int} {n1 : Int} {n2 : Int} {n3 : Int} {v1 : Value} {h h1 : H} {v : Value} (hh : f111 rn k v0 n0 n1 n2 n3 v1 h = some (v, h1)) (hp : plainO v = false) : rn 111 #[v0, .int .i64 n0, .int .i64 n1, .int .i64 n2, .int .i64 n3, v1] h = some (v, h1) := by rw [t111 hh, trunc_not hp]

end Go.AM

end

section

/- All ways in time, one after the other. -/
namespace Go.AM
open Go.Proofs
variable {R : Type}
attribute [local simp] nx_eq nx_new nx_set blk_new blk_set asI_int asK_int asB_bool asP_ptr al_eq bx_eq len_slice onE_exit onE_ret onR_ret Value.cells d3 d29 d31 d56 d24 d59 d22 d25 d121 d89 w3 w25 cell_new cell_set rd_new rd_set off eq lt le ifB gv out eqF1 eqF2 eqF3 eqF4 eqF5 eqF6 eqF7 eqF8 ext20 ext21 k42 k72 k73 k74
/-- Can a way go on with a call? -/
def goes (c : Kl) (at_ tm seen : Int) : Bool := !decide (c.t ≤ tm) && c.has at_ && !inP seen (c.oth at_)

/-- The set with one person more. -/
def withP (seen p : Int) : Int := AM.or .i64 seen (shl .i64 1 p)

/-- What comes of one call. -/
def wayStep (rec : Int → Int → Int → List (List Int)) (t at_ tm seen : Int) (i : Nat) (c : Kl) : List (List Int) :=
  if goes c at_ tm seen = true then (if c.oth at_ = t then [[(i : Int)]] else (rec (c.oth at_) c.t (withP seen (c.oth at_))).map ((i : Int) :: ·)) else []

/-- All ways on from a person, in order. -/
def waysF (l : List Kl) (t : Int) : Nat → Int → Int → Int → List (List Int)
  | 0, _, _, _ => []
  | f + 1, at_, tm, seen => foldI (fun i c acc => acc ++ wayStep (waysF l t f) t at_ tm seen i c) l 0 []

/-- A function that is called with a slice of numbers: what it makes of a state; D: what it holds above 'lo'; O: what it may turn below. -/
structure Cb {σ : Type} (fv : Value) (lo : Nat) (O : Nat → Prop) (okw : List Int → Prop) (Inv : σ → List Nat → H → Prop) (stp : σ → List Int → σ) : Prop where
  keep : ∀ σ D g g', Inv σ D g → g.nx ≤ g'.nx → (∀ b, b < lo → g'.blk b = g.blk b) → (∀ b ∈ D, g'.blk b = g.blk b) → Inv σ D g'
  bel : ∀ σ D g, Inv σ D g → ∀ b ∈ D, lo ≤ b ∧ b < g.nx
  call : ∀ σ D g wv w, Inv σ D g → lo ≤ g.nx → SlR g 3 1 wv (cellsI w) → okw w → (∀ b ∈ D, blkOf wv ≠ some b) → (∀ b, blkOf wv = some b → lo ≤ b) →
    ∃ g' D', callV rn fv #[wv] g = some (undef, g') ∧ Inv (stp σ w) D' g' ∧ g.nx ≤ g'.nx ∧ (∀ b, b < g.nx → ¬ O b → b ∉ D → g'.blk b = g.blk b) ∧ (∀ b ∈ D', b ∈ D ∨ g.nx ≤ b)

/-- What the search holds. -/
structure WS {σ : Type} (lo : Nat) (O : Nat → Prop) (Inv : σ → List Nat → H → Prop) (n : Int) (sl fv : Value) (l : List Kl) (t : Int) (lb wb tb fb gb : Nat) (w : List Int) (wv : Value) (D : List Nat) (σ0 : σ) (g : H) : Prop where
  lo_ : lo ≤ g.nx
  hsl : SlR g 56 3 sl (l.map Kl.cells)
  slo : ∀ b, blkOf sl = some b → b < lo ∧ ¬ O b
  hlb : lo ≤ lb ∧ lb < g.nx ∧ g.blk lb = some (.row [iv n, sl] 31 true)
  htb : lo ≤ tb ∧ tb < g.nx ∧ g.blk tb = some (.row [iv t] 3 true)
  hfb : lo ≤ fb ∧ fb < g.nx ∧ g.blk fb = some (.row [fv] 89 true)
  hgb : lo ≤ gb ∧ gb < g.nx ∧ g.blk gb = some (.row [.func (.func 104) #[] #[pt lb 0, pt wb 0, pt tb 0, pt fb 0, pt gb 0]] 121 true)
  hwb : lo ≤ wb ∧ wb < g.nx ∧ g.blk wb = some (.row [wv] 25 true)
  ne : wb ≠ lb ∧ wb ≠ tb ∧ wb ≠ fb ∧ wb ≠ gb
  way : WqR lo g 3 1 wv (cellsI w)
  inv : Inv σ0 D g
  wt : blkOf wv ≠ some tb
  dis : ∀ b ∈ D, blkOf wv ≠ some b ∧ b ≠ wb ∧ b ≠ lb ∧ b ≠ tb ∧ b ≠ fb ∧ b ≠ gb

theorem slR_keep {h h' : H} {e : TypeId} {s : Nat} {v : Value} {l : List (List Value)} (a : SlR h e s v l) (hn : h.nx ≤ h'.nx) (hb : ∀ b, blkOf v = some b → h'.blk b = h.blk b) : SlR h' e s v l :=
  a.keep hn fun b o n c e => hb b (by rw [e]; rfl)

section
variable {σ : Type} {fv sl wv : Value} {lo : Nat} {O : Nat → Prop} {okw : List Int → Prop} {Inv : σ → List Nat → H → Prop} {stp : σ → List Int → σ} {n t : Int} {l : List Kl} {lb wb tb fb gb : Nat} {w : List Int} {D : List Nat} {σ0 : σ} {g : H}
theorem WS.turn (cb : Cb fv lo O okw Inv stp) (ws : WS lo O Inv n sl fv l t lb wb tb fb gb w wv D σ0 g) {g' : H} {w' : List Int} {wv' : Value} (hn : g.nx ≤ g'.nx) (hf : ∀ b, b < g.nx → b ≠ wb → blkOf wv ≠ some b → g'.blk b = g.blk b)
    (hw : g'.blk wb = some (.row [wv'] 25 true)) (ha : WqR lo g' 3 1 wv' (cellsI w')) (hb : ∀ b, blkOf wv' = some b → g.nx ≤ b ∨ blkOf wv = some b) : WS lo O Inv n sl fv l t lb wb tb fb gb w' wv' D σ0 g' := by
  have hwv : ∀ b, blkOf wv = some b → lo ≤ b ∧ ∃ c, g.blk b = some (.row c 3 true) := fun b hb => ⟨(ws.way.blkOf hb).1, (ws.way.blkOf hb).2.2⟩
  have other : ∀ b c e, b < g.nx → b ≠ wb → g.blk b = some (.row c e true) → e ≠ 3 → g'.blk b = some (.row c e true) := fun b c e h1 h2 h3 h4 => (hf b h1 h2 (fun h => by
    obtain ⟨_, c', h5⟩ := hwv b h
    rw [h3] at h5
    simp at h5
    exact h4 h5.2)).trans h3
  have hbel := cb.bel _ _ _ ws.inv
  have htb : g'.blk tb = some (.row [iv t] 3 true) := by
    exact (hf tb ws.htb.2.1 (Ne.symm ws.ne.2.1) ws.wt).trans ws.htb.2.2
  refine ⟨Nat.le_trans ws.lo_ hn, slR_keep ws.hsl hn fun b hb' => ?_, ws.slo, ⟨ws.hlb.1, Nat.lt_of_lt_of_le ws.hlb.2.1 hn, other _ _ _ ws.hlb.2.1 (Ne.symm ws.ne.1) ws.hlb.2.2 (by decide)⟩, ⟨ws.htb.1, Nat.lt_of_lt_of_le ws.htb.2.1 hn, htb⟩,
    ⟨ws.hfb.1, Nat.lt_of_lt_of_le ws.hfb.2.1 hn, other _ _ _ ws.hfb.2.1 (Ne.symm ws.ne.2.2.1) ws.hfb.2.2 (by decide)⟩, ⟨ws.hgb.1, Nat.lt_of_lt_of_le ws.hgb.2.1 hn, other _ _ _ ws.hgb.2.1 (Ne.symm ws.ne.2.2.2) ws.hgb.2.2 (by decide)⟩,
    ⟨ws.hwb.1, Nat.lt_of_lt_of_le ws.hwb.2.1 hn, hw⟩, ws.ne, ha, ?_, fun h => ?_, fun b hb' => ⟨fun h => ?_, (ws.dis b hb').2⟩⟩
  · have := (ws.slo b hb').1
    exact hf b (by have := ws.lo_; omega) (by have := ws.hwb.1; omega) (fun h => by have := (hwv b h).1; omega)
  · exact cb.keep _ _ _ _ ws.inv hn (fun b hb' => hf b (by have := ws.lo_; omega) (by have := ws.hwb.1; omega) (fun h => by have := (hwv b h).1; omega)) (fun b hb' => hf b (hbel b hb').2 (ws.dis b hb').2.1 (ws.dis b hb').1)
  · rcases hb tb h with h1 | h1
    · have := ws.htb.2.1; omega
    · exact ws.wt h1
  · rcases hb b h with h1 | h1
    · have := (hbel b hb').2; omega
    · exact (ws.dis b hb').1 h1

theorem WS.ext (cb : Cb fv lo O okw Inv stp) (ws : WS lo O Inv n sl fv l t lb wb tb fb gb w wv D σ0 g) {g' : H} (x : Ext g g') : WS lo O Inv n sl fv l t lb wb tb fb gb w wv D σ0 g' :=
  ws.turn cb x.nx (fun b hb _ _ => x.blk b hb) ((x.blk _ ws.hwb.2.1).trans ws.hwb.2.2) (ws.way.keep x.nx fun b hb => x.blk b (ws.way.blkOf hb).2.1) (fun _ h => .inr h)

theorem WS.called (cb : Cb fv lo O okw Inv stp) (hO : ∀ b, O b → b < lo) (ws : WS lo O Inv n sl fv l t lb wb tb fb gb w wv D σ0 g) (hok : okw w) :
    ∃ g' D', callV rn fv #[wv] g = some (undef, g') ∧ WS lo O Inv n sl fv l t lb wb tb fb gb w wv D' (stp σ0 w) g' ∧ g.nx ≤ g'.nx ∧ (∀ b, b < lo → ¬ O b → g'.blk b = g.blk b) := by
  have hbel := cb.bel _ _ _ ws.inv
  obtain ⟨g', D', e, i', n', f', d'⟩ := cb.call _ _ _ _ _ ws.inv ws.lo_ ws.way.slR hok (fun b hb => (ws.dis b hb).1) (fun b hb => (ws.way.blkOf hb).1)
  have up : ∀ b, lo ≤ b → b < g.nx → b ∉ D → g'.blk b = g.blk b := fun b h1 h2 h3 => f' b h2 (fun h => by have := hO b h; omega) h3
  refine ⟨g', D', e, ⟨Nat.le_trans ws.lo_ n', slR_keep ws.hsl n' fun b hb => ?_, ws.slo, ⟨ws.hlb.1, Nat.lt_of_lt_of_le ws.hlb.2.1 n', ?_⟩, ⟨ws.htb.1, Nat.lt_of_lt_of_le ws.htb.2.1 n', ?_⟩, ⟨ws.hfb.1, Nat.lt_of_lt_of_le ws.hfb.2.1 n', ?_⟩, ⟨ws.hgb.1, Nat.lt_of_lt_of_le ws.hgb.2.1 n', ?_⟩,
    ⟨ws.hwb.1, Nat.lt_of_lt_of_le ws.hwb.2.1 n', ?_⟩, ws.ne, ws.way.keep n' fun b hb => ?_, i', ws.wt, fun b hb => ?_⟩, n', fun b h1 h2 => f' b (by have := ws.lo_; omega) h2 (fun h => by have := (hbel b h).1; omega)⟩
  · have := ws.slo b hb
    exact f' b (by have := ws.lo_; omega) this.2 (fun h => by have := (hbel b h).1; omega)
  · exact (up lb ws.hlb.1 ws.hlb.2.1 (fun h => (ws.dis _ h).2.2.1 rfl)).trans ws.hlb.2.2
  · exact (up tb ws.htb.1 ws.htb.2.1 (fun h => (ws.dis _ h).2.2.2.1 rfl)).trans ws.htb.2.2
  · exact (up fb ws.hfb.1 ws.hfb.2.1 (fun h => (ws.dis _ h).2.2.2.2.1 rfl)).trans ws.hfb.2.2
  · exact (up gb ws.hgb.1 ws.hgb.2.1 (fun h => (ws.dis _ h).2.2.2.2.2 rfl)).trans ws.hgb.2.2
  · exact (up wb ws.hwb.1 ws.hwb.2.1 (fun h => (ws.dis _ h).2.1 rfl)).trans ws.hwb.2.2
  · exact up b (ws.way.blkOf hb).1 (ws.way.blkOf hb).2.1 (fun h => (ws.dis _ h).1 hb)
  · rcases d' b hb with h | h
    · exact ws.dis b h
    · have h1 := ws.hlb.2.1
      have h2 := ws.htb.2.1
      have h3 := ws.hfb.2.1
      have h4 := ws.hgb.2.1
      have h5 := ws.hwb.2.1
      exact ⟨fun h6 => by have := (ws.way.blkOf h6).2.1; omega, by omega, by omega, by omega, by omega, by omega⟩

theorem mem_app {α β : Type} {st : Nat → α → List β} {x : β} : ∀ (l : List α) (i : Nat) (acc : List β), x ∈ foldI (fun i c acc => acc ++ st i c) l i acc ↔ x ∈ acc ∨ ∃ j c, l[j]? = some c ∧ x ∈ st (i + j) c := by
  intro l
  induction l with
  | nil => intro i acc; simp [foldI]
  | cons c l ih =>
    intro i acc
    simp only [foldI]
    rw [ih, List.mem_append]
    constructor
    · rintro ((h | h) | ⟨j, d, h1, h2⟩)
      · exact .inl h
      · exact .inr ⟨0, c, rfl, h⟩
      · exact .inr ⟨j + 1, d, by simpa using h1, by rw [show i + (j + 1) = i + 1 + j by omega]; exact h2⟩
    · rintro (h | ⟨j, d, h1, h2⟩)
      · exact .inl (.inl h)
      · cases j with
        | zero => simp at h1; subst h1; exact .inl (.inr h2)
        | succ j => exact .inr ⟨j, d, by simpa using h1, by rw [show i + 1 + j = i + (j + 1) by omega]; exact h2⟩

/-- What the search does from a time on. -/
def GrowOk {σ : Type} (fv sl : Value) (lo : Nat) (O : Nat → Prop) (okw : List Int → Prop) (Inv : σ → List Nat → H → Prop) (stp : σ → List Int → σ) (n t : Int) (l : List Kl) (lb wb tb fb gb : Nat) (F : Nat) (tm : Int) : Prop :=
  ∀ (p seen : Int) (w : List Int) (wv : Value) (D : List Nat) (σ0 : σ) (g : H), 0 ≤ p ∧ p < n → w.length + F < 100 → WS lo O Inv n sl fv l t lb wb tb fb gb w wv D σ0 g → (∀ w' ∈ waysF l t F p tm seen, okw (w ++ w')) →
    ∃ g' wv' D', rn 104 #[iv p, iv tm, iv seen, pt lb 0, pt wb 0, pt tb 0, pt fb 0, pt gb 0] g = some (undef, g') ∧ WS lo O Inv n sl fv l t lb wb tb fb gb w wv' D' (((waysF l t F p tm seen).map (w ++ ·)).foldl stp σ0) g' ∧ g.nx ≤ g'.nx ∧
      (∀ b, b < lo → ¬ O b → g'.blk b = g.blk b)

theorem grow_body (cb : Cb fv lo O okw Inv stp) (hO : ∀ b, O b → b < lo) (hv : validP n l = true) (F : Nat) (tm : Int) (hrec : ∀ tm', tm < tm' → tm' ≤ 30 → GrowOk fv sl lo O okw Inv stp n t l lb wb tb fb gb F tm') :
    GrowOk fv sl lo O okw Inv stp n t l lb wb tb fb gb (F + 1) tm := by
  obtain ⟨hn1, hn7, hl24, hok⟩ := validP_ok hv
  intro p seen w wv D σ0 g hp hlen ws hokw
  obtain ⟨ws', g', hl, ⟨wv', D', wsN, n', f'⟩, _⟩ := lp_for (F := f104_l1 rn 30 p tm seen (pt wb 0) (pt tb 0) (pt fb 0) (pt gb 0) sl l.length) (k := 30) (l := l) (fun i c acc => acc ++ wayStep (waysF l t F) t p tm seen i c)
    (fun i acc ws g' => (∃ wv D, WS lo O Inv n sl fv l t lb wb tb fb gb w wv D ((acc.map (w ++ ·)).foldl stp σ0) g' ∧ g.nx ≤ g'.nx ∧ (∀ b, b < lo → ¬ O b → g'.blk b = g.blk b)) ∧ ws = [iv i]) 0 (ws := [iv 0]) (h := g) (s0 := [])
    ⟨⟨wv, D, ws, Nat.le_refl _, fun _ _ _ => rfl⟩, rfl⟩ (by omega)
    (by
      rintro acc ws' g' ⟨_, rfl⟩
      simp [f104_l1])
    (by
      rintro i c acc ws' g1 hc ⟨⟨wv, D, ws, n1, f1⟩, rfl⟩
      have hil := (List.getElem?_eq_some_iff.1 hc).1
      have hcok := hok _ _ hc
      have hadd : add .i64 (i : Int) 1 = (i : Int) + 1 := add64 (by omega) (by omega)
      have x3 := (Ext.refl g1).fresh 56 [iv 0, iv 0, iv 0] c.cells
      have hcb := blk_fresh g1 56 [iv 0, iv 0, iv 0] c.cells
      have hn3 : (g1.fresh 56 [iv 0, iv 0, iv 0] c.cells).nx = g1.nx + 1 := rfl
      have ws3 := ws.ext cb x3
      unfold f104_l1
      rw [show gv [iv i] 0 = iv i from rfl, asI_int, lt_t (by omega), ifB_true, asK_int, ws.hsl.ldA ag56 sz56 (by omega) (x := c.cells) (by simp [hc])]
      rw [al_st (zs := [iv 0, iv 0, iv 0]) (xs := c.cells) sz56 rfl rfl]
      generalize g1.fresh 56 [iv 0, iv 0, iv 0] c.cells = h3 at *
      simp only [Kl.cells] at hcb
      by_cases hg : goes c p tm seen = true
      · have hg' := hg
        simp only [goes, Bool.and_eq_true, Bool.not_eq_true', decide_eq_false_iff_not] at hg
        obtain ⟨⟨g_t, g_h⟩, g_s⟩ := hg
        have hoth := oth_ok hcok g_h
        have hcalc := oth_calc (by omega) hcok g_h
        have hin : AM.and .i64 (shr .i64 seen (c.oth p)) 1 ≠ 1 := by simpa [inP] using g_s
        -- one call more
        obtain ⟨v16, h8, e8, a8, n8, k8, b8, hb8, hb8'⟩ := ws3.way.push app25 app25 (bls25 (i : Int)) rfl rfl (by simp; omega) ws3.lo_
        have hwb3 : h3.blk wb = some (.row [wv] 25 true) := ws3.hwb.2.2
        have hwb8 : h8.blk wb = some (.row [wv] 25 true) := (k8 wb ws3.hwb.2.1 (fun h => by obtain ⟨_, _, c', h5⟩ := ws3.way.blkOf h; rw [hwb3] at h5; simp at h5)).trans hwb3
        have hw8 : wrc 1 h8 wb 0 v16 = some (h8.set wb (.row [v16] 25 true)) := by rw [wrc_one hwb8 a8.cells.1 a8.cells.2 (by simp)]; rfl
        have ws9 : WS lo O Inv n sl fv l t lb wb tb fb gb (w ++ [(i : Int)]) v16 D ((acc.map (w ++ ·)).foldl stp σ0) (h8.set wb (.row [v16] 25 true)) := by
          refine ws3.turn cb n8 (fun b h1 h2 h3 => by rw [blk_set_ne _ _ _ h2]; exact k8 b h1 h3) (blk_set_self _ _ _) ?_ (fun b hb => ?_)
          · have := a8.keep (h' := h8.set wb (.row [v16] 25 true)) (Nat.le_refl _) fun b hb => blk_set_ne _ _ _ (fun e => by
              subst e
              obtain ⟨_, _, c', h5⟩ := a8.blkOf hb
              rw [hwb8] at h5
              simp at h5)
            simpa using this
          · rw [hb8] at hb
            cases hb
            exact hb8'
        have hcb9 : (h8.set wb (.row [v16] 25 true)).blk g1.nx = some (.row [iv c.a, iv c.b, iv c.t] 56 true) := by
          have h1 := ws.hwb.2.1
          rw [blk_set_ne _ _ _ (by omega), k8 g1.nx (by omega) (fun h => by obtain ⟨_, h5, _⟩ := ws.way.blkOf h; omega)]
          exact hcb
        have n9 : g1.nx ≤ (h8.set wb (.row [v16] 25 true)).nx := by rw [nx_set]; omega
        have f9 : ∀ b, b < lo → (h8.set wb (.row [v16] 25 true)).blk b = g1.blk b := fun b hb => by
          have h1 := ws.hwb.1
          have h2 := ws.lo_
          rw [blk_set_ne _ _ _ (by omega), k8 b (by omega) (fun h => by obtain ⟨h5, _⟩ := ws.way.blkOf h; omega)]
          exact x3.blk b (by omega)
        generalize h8.set wb (.row [v16] 25 true) = h9 at *
        -- and without it again
        have back : ∀ (v17 : Value) (D' : List Nat) (σ1 : σ) (h10 : H), WS lo O Inv n sl fv l t lb wb tb fb gb (w ++ [(i : Int)]) v17 D' σ1 h10 → ∃ v23 h11, (∀ (K : Int → Option (Ex × List Value × H)), len v17 K = K ((w.length : Int) + 1)) ∧
            (∀ (K : Value → Option (Ex × List Value × H)), sli Try.prog h10 25 v17 none (some (.int .i64 (sub .i64 ((w.length : Int) + 1) 1))) none K = K v23) ∧ wrc 1 h10 wb 0 v23 = some h11 ∧ WS lo O Inv n sl fv l t lb wb tb fb gb w v23 D' σ1 h11 ∧ h10.nx ≤ h11.nx ∧ (∀ b, b < lo → h11.blk b = h10.blk b) := by
          intro v17 D' σ1 h10 w10
          have hway : WqR lo h10 3 1 v17 (cellsI w ++ [[iv (i : Int)]]) := by simpa using w10.way
          obtain ⟨v23, e23, a23, b23⟩ := hway.pop under25 sz3
          refine ⟨v23, h10.set wb (.row [v23] 25 true), fun K => by rw [hway.slR.len]; simp, fun K => ?_, by rw [wrc_one w10.hwb.2.2 a23.cells.1 a23.cells.2 (by simp)]; rfl, ?_, Nat.le_refl _, fun b hb => blk_set_ne _ _ _ (by have := w10.hwb.1; omega)⟩
          · rw [sub64 (by omega) (by omega), show (w.length : Int) + 1 - 1 = ((cellsI w).length : Int) by simp]
            exact e23 K
          · exact w10.turn cb (Nat.le_refl _) (fun b h1 h2 _ => blk_set_ne _ _ _ h2) (blk_set_self _ _ _) (a23.keep (Nat.le_refl _) fun b hb => blk_set_ne _ _ _ (fun e => by
              subst e
              obtain ⟨_, _, c', h5⟩ := a23.blkOf hb
              rw [w10.hwb.2.2] at h5
              simp at h5)) (fun b hb => .inr (b23 ▸ hb))
        by_cases hto : c.oth p = t
        · have hst : wayStep (waysF l t F) t p tm seen i c = [[(i : Int)]] := by simp [wayStep, hg', hto]
          obtain ⟨h10, D', e10, ws10, n10, f10⟩ := ws9.called cb hO (hokw [(i : Int)] (by
            simp only [waysF]
            rw [mem_app]
            exact .inr ⟨i, c, hc, by rw [Nat.zero_add, hst]; simp⟩))
          obtain ⟨v23, h11, l23, s23, w23, ws11, n11, f11⟩ := back _ _ _ _ ws10
          have hcv : ∀ (K : Value → H → Option (Ex × List Value × H)), callsV rn h9 fv [v16] K = K undef h10 := fun K => callsV_some (xs := [v16]) e10
          refine ⟨[iv ((i : Int) + 1)], h11, ?_, ⟨v23, D', ?_, by omega, fun b hb h => by rw [f11 b hb, f10 b hb h, f9 b hb, f1 b hb h]⟩, rfl⟩
          · have h1 : c.oth p = t := hto
            have ht0 : 0 ≤ t := hto ▸ hoth.1
            have hin' : AM.and .i64 (shr .i64 seen t) 1 ≠ 1 := hto ▸ hin
            simp [nn_ge ht0, hin', cell_of hcb, rd_of hcb, hcalc, nn_ge hoth.1, hin, g_h, show ¬ c.t ≤ tm from Int.not_le.2 (by omega), cell_of ws3.hwb.2.2, e8, hw8, cell_of ws9.htb.2.2, cell_of ws9.hfb.2.2, cell_of ws9.hwb.2.2, h1, hcv, cell_of ws10.hwb.2.2, l23, s23, w23, hadd]
          · rw [hst]; simpa using ws11
        · have hst : wayStep (waysF l t F) t p tm seen i c = (waysF l t F (c.oth p) c.t (withP seen (c.oth p))).map ((i : Int) :: ·) := by simp [wayStep, hg', hto]
          have htm : tm < c.t ∧ c.t ≤ 30 := ⟨by simpa using g_t, (okC_iff.1 hcok).2.2.2.2⟩
          obtain ⟨h10, v17, D', e10, ws10, n10, f10⟩ := hrec c.t htm.1 htm.2 (c.oth p) (withP seen (c.oth p)) (w ++ [(i : Int)]) v16 D _ h9 ⟨hoth.1, hoth.2.1⟩ (by simp; omega) ws9 (fun w' hw' => by
            have := hokw ((i : Int) :: w') (by
              simp only [waysF]
              rw [mem_app]
              exact .inr ⟨i, c, hc, by rw [Nat.zero_add, hst]; simpa using hw'⟩)
            simpa using this)
          obtain ⟨v23, h11, l23, s23, w23, ws11, n11, f11⟩ := back _ _ _ _ ws10
          have hcv : ∀ (K : Value → H → Option (Ex × List Value × H)), calls rn h9 104 [iv (c.oth p), iv c.t, iv (AM.or .i64 seen (shl .i64 1 (c.oth p))), pt lb 0, pt wb 0, pt tb 0, pt fb 0, pt gb 0] K = K undef h10 := fun K => calls_eq (xs := [_, _, _, _, _, _, _, _]) e10
          refine ⟨[iv ((i : Int) + 1)], h11, ?_, ⟨v23, D', ?_, by omega, fun b hb h => by rw [f11 b hb, f10 b hb h, f9 b hb, f1 b hb h]⟩, rfl⟩
          · simp [cell_of hcb, rd_of hcb, hcalc, nn_ge hoth.1, hin, g_h, show ¬ c.t ≤ tm from Int.not_le.2 (by omega), cell_of ws3.hwb.2.2, e8, hw8, cell_of ws9.htb.2.2, cell_of ws9.hfb.2.2, cell_of ws9.hwb.2.2, hto, callsV_eq, cell_of ws9.hgb.2.2, cell_of hcb9, hcv, cell_of ws10.hwb.2.2, l23, s23, w23, hadd]
          · rw [hst]
            simp only [List.map_append, List.foldl_append, List.map_map]
            simpa [Function.comp_def] using ws11
      · have hst : wayStep (waysF l t F) t p tm seen i c = [] := by simp [wayStep, hg]
        refine ⟨[iv ((i : Int) + 1)], h3, ?_, ⟨wv, D, by rw [hst]; simpa using ws3, by omega, fun b hb h => by rw [x3.blk b (by have := ws.lo_; omega), f1 b hb h]⟩, rfl⟩
        by_cases g_t : c.t ≤ tm
        · simp [cell_of hcb, rd_of hcb, g_t, hadd]
        · by_cases g_h : c.has p = true
          · have hoth := oth_ok hcok g_h
            have hcalc := oth_calc (by omega) hcok g_h
            have hin : AM.and .i64 (shr .i64 seen (c.oth p)) 1 = 1 := by
              have : goes c p tm seen = false := by simpa using hg
              simpa [goes, g_t, g_h, inP] using this
            simp [cell_of hcb, rd_of hcb, g_t, g_h, hcalc, nn_ge hoth.1, hin, hadd]
          · simp [cell_of hcb, rd_of hcb, g_t, g_h, hadd])
  refine ⟨g', wv', D', x104 (k := 30) ?_ rfl, wsN, n', f'⟩
  have hlb : ∀ o, g.cell lb o = [iv n, sl][o]? := fun o => cell_of ws.hlb.2.2
  simp [f104, hlb, ws.hsl.len, lp_eq hl]

theorem grow (cb : Cb fv lo O okw Inv stp) (hO : ∀ b, O b → b < lo) (hv : validP n l = true) : ∀ (f : Nat) (tm : Int), 31 - tm ≤ f → GrowOk fv sl lo O okw Inv stp n t l lb wb tb fb gb (f + 1) tm := by
  intro f
  induction f with
  | zero => intro tm htm; exact grow_body cb hO hv 0 tm (fun tm' h1 h2 => by omega)
  | succ f ih => intro tm htm; exact grow_body cb hO hv (f + 1) tm (fun tm' h1 h2 => ih tm' (by omega))

end
end Go.AM

end

section

/- The first way for which a number is least. -/
namespace Go.AM
open Go.Proofs
variable {R : Type}
attribute [local simp] nx_eq nx_new nx_set blk_new blk_set asI_int asK_int asB_bool asP_ptr al_eq bx_eq len_slice onE_exit onE_ret onR_ret Value.cells d3 d29 d31 d56 d24 d59 d22 d25 d121 d89 d61 w3 w25 w121 cell_new cell_set rd_new rd_set off eq lt le ifB gv out eqF1 eqF2 eqF3 eqF4 eqF5 eqF6 eqF7 eqF8 ext20 ext21 k42 k72 k73 k74
theorem slR_bel {h : H} {e : TypeId} {s : Nat} {v : Value} {l : List (List Value)} (a : SlR h e s v l) {b : Nat} (hb : blkOf v = some b) : b < h.nx := by
  cases a with
  | nil => cases hb
  | at_ hb' => cases hb; exact hb'

/-- All ways from s to t. -/
def allWays (l : List Kl) (s t : Int) : List (List Int) := waysF l t 32 s 0 (shl .i64 1 s)

theorem s85 {σ : Type} {fv sl : Value} {O : Nat → Prop} {okw : List Int → Prop} {Inv : σ → List Nat → H → Prop} {stp : σ → List Int → σ} {n s t : Int} {l : List Kl} {σ0 : σ} {g : H}
    (cb : Cb fv g.nx O okw Inv stp) (hO : ∀ b, O b → b < g.nx) (hv : validP n l = true) (hs : 0 ≤ s ∧ s < n) (hsl : SlR g 56 3 sl (l.map Kl.cells)) (hslo : ∀ b, blkOf sl = some b → ¬ O b) (hi : Inv σ0 [] g) (hfs : scal fv = true) (hfc : fv.cells = #[fv])
    (hok : ∀ w ∈ allWays l s t, okw w) :
    ∃ g' D', rn 85 #[.agg #[iv n, sl], iv s, iv t, fv] g = some (undef, g') ∧ Inv ((allWays l s t).foldl stp σ0) D' g' ∧ g.nx ≤ g'.nx ∧ ∀ b, b < g.nx → ¬ O b → g'.blk b = g.blk b := by
  let F : Value := .func (.func 104) #[] #[pt g.nx 0, pt (g.nx + 3) 0, pt (g.nx + 1) 0, pt (g.nx + 2) 0, pt (g.nx + 4) 0]
  let g6 : H := (((((g.new (.row [iv n, sl] 31 true)).new (.row [iv t] 3 true)).new (.row [fv] 89 true)).new (.row [.slice none 0 0] 25 true)).new (.row [.nilFunc] 121 true)).set (g.nx + 4) (.row [F] 121 true)
  have n6 : g6.nx = g.nx + 5 := rfl
  have x6 : Ext g g6 := ((((((Ext.refl g).new' _).new' _).new' _).new' _).new' _).set (by omega) _
  have bl : ∀ q, g6.blk q = if q = g.nx + 4 then some (.row [F] 121 true) else if q = g.nx + 3 then some (.row [.slice none 0 0] 25 true) else if q = g.nx + 2 then some (.row [fv] 89 true) else if q = g.nx + 1 then some (.row [iv t] 3 true) else if q = g.nx then some (.row [iv n, sl] 31 true) else g.blk q := by
    intro q
    by_cases h4 : q = g.nx + 4
    · rw [if_pos h4, h4]; exact blk_set_self _ _ _
    · rw [if_neg h4]
      simp only [g6]
      rw [blk_set_ne _ _ _ h4, blk_new_ne _ _ h4]
      rfl
  have e0 : g6.blk g.nx = some (.row [iv n, sl] 31 true) := by rw [bl, if_neg (by omega), if_neg (by omega), if_neg (by omega), if_neg (by omega), if_pos rfl]
  have e1 : g6.blk (g.nx + 1) = some (.row [iv t] 3 true) := by rw [bl, if_neg (by omega), if_neg (by omega), if_neg (by omega), if_pos rfl]
  have e2 : g6.blk (g.nx + 2) = some (.row [fv] 89 true) := by rw [bl, if_neg (by omega), if_neg (by omega), if_pos rfl]
  have e3 : g6.blk (g.nx + 3) = some (.row [.slice none 0 0] 25 true) := by rw [bl, if_neg (by omega), if_pos rfl]
  have e4 : g6.blk (g.nx + 4) = some (.row [F] 121 true) := by rw [bl, if_pos rfl]
  have ws : WS g.nx O Inv n sl fv l t g.nx (g.nx + 3) (g.nx + 1) (g.nx + 2) (g.nx + 4) [] (.slice none 0 0) [] σ0 g6 := by
    refine ⟨by omega, hsl.ext x6, fun b hb => ⟨slR_bel hsl hb, hslo b hb⟩, ⟨by omega, by omega, e0⟩, ⟨by omega, by omega, e1⟩, ⟨by omega, by omega, e2⟩, ⟨by omega, by omega, e4⟩, ⟨by omega, by omega, e3⟩, ⟨by omega, by omega, by omega, by omega⟩, .nil, cb.keep _ _ _ _ hi x6.nx x6.blk (by simp), by simp [blkOf], by simp⟩
  obtain ⟨g', wv, D', e, w', n', f'⟩ := grow cb hO hv 31 0 (by omega) s (shl .i64 1 s) [] (.slice none 0 0) [] σ0 g6 hs (by simp) ws (by simpa [allWays] using hok)
  refine ⟨g', D', x85 (k := 0) ?_ rfl, by simpa [allWays] using w'.inv, by omega, fun b hb h => by rw [f' b hb h]; exact x6.blk b hb⟩
  have hst : wrc 1 (((((g.new (.row [iv n, sl] 31 true)).new (.row [iv t] 3 true)).new (.row [fv] 89 true)).new (.row [.slice none 0 0] 25 true)).new (.row [.nilFunc] 121 true)) (g.nx + 4) 0 F = some g6 := by
    exact (wrc_one (b := g.nx + 4) (v := F) (o := 0) (c := [.nilFunc]) (e := 121) (blk_new_at _ _ rfl) rfl rfl (by simp)).trans rfl
  have hgb : ∀ o, g6.cell (g.nx + 4) o = [F][o]? := fun o => cell_of e4
  have hc : ∀ (K : Value → H → Option (Value × H)), callsV rn g6 F [iv s, iv 0, iv (shl .i64 1 s)] K = K undef g' := fun K => by
    rw [callsV_eq]
    exact calls_eq (xs := [_, _, _, _, _, _, _, _]) e
  unfold f85
  rw [bx_eq, bx_eq, bx_eq, hfc]
  simp only [al_eq, nx_eq, nx_new, w121]
  have hst' : ∀ (K : H → Option (Value × H)), (wrc 1 (((((g.new (.row [iv n, sl] 31 true)).new (.row [iv t] 3 true)).new (.row [fv] 89 true)).new (.row [.slice none 0 0] 25 true)).new (.row [.nilFunc] 121 true)) (g.nx + 4) 0 F).bind K = K g6 := fun K => by rw [hst]; rfl
  refine (hst' _).trans ?_
  show ld Try.prog g6 121 (g.nx + 4) 0 _ = _
  rw [d121, hgb]
  show nn s _ = _
  rw [nn_ge hs.1]
  exact hc _

theorem s75a {v : Value} {w : List Int} {h : H} (hs : SlR h 3 1 v (cellsI w)) (hm : w.length < 2 ^ 30) (hw : w ≠ []) : ∃ v' h' b, rn 75 #[v] h = some (v', h') ∧ Ext h h' ∧ h.nx ≤ b ∧ blkOf v' = some b ∧ IA h' b v' w := by
  have hs0 := hs
  generalize hL : cellsI w = L at hs
  cases hs with
  | nil => simp at hL; exact absurd hL hw
  | @at_ b o c cs own l hb hr hk hc hl hx =>
    subst hL
    have x1 := Ext.new h (.row [] 3 true)
    have a1 : AqR h.nx (h.new (.row [] 3 true)) 3 1 (.slice (some ⟨h.nx, 0, none⟩) 0 0) [] := AqR.lit (l := []) (Nat.le_refl _) rfl (by simp) (by simp)
    obtain ⟨v', h', e, a, n, f, b'⟩ := a1.app app25 app25 (hs0.ext x1) (by rw [List.all_eq_true]; intro x hx; simp only [flat1, List.mem_map] at hx; obtain ⟨z, _, rfl⟩ := hx; rfl) (by simpa using hm) (Nat.le_succ _)
    rw [List.nil_append] at a
    obtain ⟨q, q1, q2, q3⟩ := a.ia hw
    refine ⟨v', h', q, x75 (k := 0) ?_ (a.slR.notR), ⟨Nat.le_trans x1.nx n, fun i hi => by rw [f i (by rw [nx_new]; omega) (by intro e; cases e; omega)]; exact x1.blk i hi⟩, q1, q2, q3⟩
    unfold f75 eqv
    rw [some25]
    simp only []
    rw [show ifB false = fun (x y : Option (Value × H)) => y from rfl]
    simp only []
    rw [bls_some (bls25e h)]
    exact e _

/-- The better of two ways. -/
def betterP (ofP : List Int → Int) (σ : Option (List Int)) (w : List Int) : Option (List Int) :=
  match σ with
  | none => some w
  | some b => if ofP w < ofP b then some w else some b

/-- What the search for the best holds. -/
def BestI (g6 : H) (ob : Nat) (σ : Option (List Int)) (D : List Nat) (g : H) : Prop :=
  g6.nx ≤ g.nx ∧ (∀ b, b < g6.nx → b ≠ ob → g.blk b = g6.blk b) ∧ ∃ ov, g.blk ob = some (.row [ov] 25 true) ∧
    match σ with
    | none => ov = .slice none 0 0 ∧ D = []
    | some w => w ≠ [] ∧ ∃ q, D = [q] ∧ g6.nx ≤ q ∧ blkOf ov = some q ∧ IA g q ov w

theorem nilv25 {v : Value} {b : Nat} (hb : blkOf v = some b) : binOp Try.prog .eql 25 v (.slice none 0 0) = some (.bool false) := by
  unfold blkOf at hb
  split at hb
  · exact some25 _ _ _ _
  · cases hb

theorem best_cb {g6 : H} {ob ofb : Nat} {ofv : Value} {ofP : List Int → Int} {okw : List Int → Prop} (hob : ob < g6.nx) (hofb : ofb < g6.nx) (hne : ofb ≠ ob) (hof : g6.blk ofb = some (.row [ofv] 61 true)) (hokw : ∀ w, okw w → w ≠ [] ∧ w.length < 1000)
    (hcall : ∀ (g : H) (wv : Value) (w : List Int), g6.nx ≤ g.nx → (∀ b, b < g6.nx → b ≠ ob → g.blk b = g6.blk b) → SlR g 3 1 wv (cellsI w) → okw w → callV rn ofv #[wv] g = some (iv (ofP w), g)) :
    Cb (.func (.func 97) #[] #[pt ob 0, pt ofb 0]) g6.nx (fun b => b = ob) okw (fun σ D g => BestI g6 ob σ D g ∧ ∀ w, σ = some w → okw w) (betterP ofP) := by
  refine ⟨?_, ?_, ?_⟩
  · rintro σ D g g' ⟨⟨h1, h2, ov, h3, h4⟩, h5⟩ hn hlo hD
    refine ⟨⟨by omega, fun b hb hb' => (hlo b hb).trans (h2 b hb hb'), ov, (hlo ob hob).trans h3, ?_⟩, h5⟩
    cases σ with
    | none => exact h4
    | some w =>
      obtain ⟨a1, q, a2, a3, a4, a5⟩ := h4
      exact ⟨a1, q, a2, a3, a4, a5.keep hn (hD q (by rw [a2]; simp))⟩
  · rintro σ D g ⟨⟨h1, h2, ov, h3, h4⟩, h5⟩ b hb
    cases σ with
    | none => rw [h4.2] at hb; simp at hb
    | some w =>
      obtain ⟨a1, q, a2, a3, a4, a5⟩ := h4
      rw [a2] at hb
      simp at hb
      subst hb
      exact ⟨a3, a5.lt⟩
  · rintro σ D g wv w ⟨⟨h1, h2, ov, h3, h4⟩, h5⟩ hn hwv hw hdis hlow
    obtain ⟨hw0, hwl⟩ := hokw w hw
    obtain ⟨v', h', q, e, x, q1, q2, q3⟩ := s75a hwv (by omega) hw0
    have hob' : h'.blk ob = some (.row [ov] 25 true) := (x.blk ob (by omega)).trans h3
    obtain ⟨cv, hcv, _⟩ := q3.val
    have hst : wrc 1 h' ob 0 v' = some (h'.set ob (.row [v'] 25 true)) := by rw [wrc_one hob' (by rw [hcv]; rfl) (by rw [hcv]; rfl) (by simp)]; rfl
    have hcl : ∀ (K : Value → H → Option (Value × H)), calls rn g 75 [wv] K = K v' h' := fun K => calls_eq (xs := [_]) e
    have hoc : ∀ o, g.cell ob o = [ov][o]? := fun o => cell_of h3
    have hofc : ∀ o, g.cell ofb o = [ofv][o]? := fun o => cell_of ((h2 ofb hofb hne).trans hof)
    have took : BestI g6 ob (some w) [q] (h'.set ob (.row [v'] 25 true)) ∧ (∀ w', some w = some w' → okw w') := by
      refine ⟨⟨by rw [nx_set]; have := x.nx; omega, fun b hb hb' => by rw [blk_set_ne _ _ _ hb', x.blk b (by omega)]; exact h2 b hb hb', v', blk_set_self _ _ _, hw0, q, rfl, by omega, q2, q3.keep (Nat.le_refl _) (blk_set_ne _ _ _ (by omega))⟩, fun w' hw' => by cases hw'; exact hw⟩
    have fr : ∀ b, b < g.nx → ¬ b = ob → b ∉ D → (h'.set ob (.row [v'] 25 true)).blk b = g.blk b := fun b h1 h2 _ => by rw [blk_set_ne _ _ _ h2]; exact x.blk b h1
    cases σ with
    | none =>
      obtain ⟨rfl, rfl⟩ := h4
      refine ⟨h'.set ob (.row [v'] 25 true), [q], ?_, took, by rw [nx_set]; exact x.nx, fr, fun b hb => by simp at hb; omega⟩
      show rn 97 _ g = _
      refine x97 (k := 0) ?_ rfl
      simp [f97, hoc, eqv, nil25, hcl, hst]
    | some b0 =>
      obtain ⟨a1, q0, rfl, a3, a4, a5⟩ := h4
      have hok0 := h5 b0 rfl
      have hc1 : ∀ (K : Value → H → Option (Value × H)), callsV rn g ofv [wv] K = K (iv (ofP w)) g := fun K => callsV_some (xs := [wv]) (hcall g wv w h1 h2 hwv hw)
      have hc2 : ∀ (K : Value → H → Option (Value × H)), callsV rn g ofv [ov] K = K (iv (ofP b0)) g := fun K => callsV_some (xs := [ov]) (hcall g ov b0 h1 h2 a5.slR hok0)
      have hck : ∀ b, b < g6.nx → freq b g.nx (same g g) = true := fun b hb => by simp [freq, same]; omega
      have hcalc : f97 rn 0 wv (pt ob 0) (pt ofb 0) g = if ofP w < ofP b0 then some (undef, h'.set ob (.row [v'] 25 true)) else some (undef, g) := by
        simp [f97, hoc, hofc, eqv, nilv25 a4, hc1, hc2, hck ob hob, hck ofb hofb, ck, hcl, hst]
      by_cases hlt : ofP w < ofP b0
      · rw [if_pos hlt] at hcalc
        refine ⟨h'.set ob (.row [v'] 25 true), [q], x97 (k := 0) hcalc rfl, ?_, by rw [nx_set]; exact x.nx, fr, fun b hb => by simp at hb; omega⟩
        simp only [betterP, hlt, if_true]
        exact took
      · rw [if_neg hlt] at hcalc
        refine ⟨g, [q0], x97 (k := 0) hcalc rfl, ?_, Nat.le_refl _, fun _ _ _ _ => rfl, fun b hb => .inl hb⟩
        simp only [betterP, hlt, if_false]
        exact ⟨⟨h1, h2, ov, h3, a1, q0, rfl, a3, a4, a5⟩, h5⟩

/-- Ways that a log can have: not empty, calls of the log. -/
def okW (l : List Kl) (w : List Int) : Prop := w ≠ [] ∧ w.length < 1000 ∧ ∀ x ∈ w, 0 ≤ x ∧ x < l.length

theorem waysF_ok {n : Int} {l : List Kl} {t : Int} : ∀ (f : Nat) (p tm seen : Int), ∀ w ∈ waysF l t f p tm seen, w ≠ [] ∧ w.length ≤ f ∧ ∀ x ∈ w, 0 ≤ x ∧ x < l.length := by
  intro f
  induction f with
  | zero => intro p tm seen w hw; simp [waysF] at hw
  | succ f ih =>
    intro p tm seen w hw
    simp only [waysF] at hw
    rw [mem_app] at hw
    rcases hw with hw | ⟨j, c, hc, hw⟩
    · simp at hw
    · have hj := (List.getElem?_eq_some_iff.1 hc).1
      rw [Nat.zero_add] at hw
      unfold wayStep at hw
      split at hw
      · split at hw
        · simp at hw
          subst hw
          exact ⟨by simp, by simp, fun x hx => by simp at hx; omega⟩
        · simp only [List.mem_map] at hw
          obtain ⟨w', hw', rfl⟩ := hw
          obtain ⟨h1, h2, h3⟩ := ih _ _ _ w' hw'
          refine ⟨by simp, by simp; omega, fun x hx => ?_⟩
          simp only [List.mem_cons] at hx
          rcases hx with rfl | hx
          · omega
          · exact h3 x hx
      · simp at hw

theorem allWays_ok {l : List Kl} {s t : Int} : ∀ w ∈ allWays l s t, okW l w := fun w hw => by
  obtain ⟨h1, h2, h3⟩ := waysF_ok (n := 0) 32 _ _ _ w hw
  exact ⟨h1, by omega, h3⟩

/-- The best way. -/
def bestP (ofP : List Int → Int) (l : List Kl) (s t : Int) : Option (List Int) := (allWays l s t).foldl (betterP ofP) none

/-- What is answered for the best way. -/
def BestR (o : Option (List Int)) (v : Value) (e : Int) (h : H) : Prop :=
  match o with
  | none => v = .slice none 0 0 ∧ e = 4
  | some w => SlR h 3 1 v (cellsI w) ∧ e = 0 ∧ w ≠ []

theorem s65_bad {n s t : Int} {sl ofv : Value} {l : List Kl} {h : H} (hs : SlR h 56 3 sl (l.map Kl.cells)) (hfc : ofv.cells = #[ofv]) (hp : pairP n l s t = false) : ∃ h', rn 65 #[.agg #[iv n, sl], iv s, iv t, ofv] h = some (.tuple #[.slice none 0 0, iv 2], h') ∧ Ext h h' := by
  let h2 : H := (h.new (.row [iv n, sl] 31 true)).new (.row [ofv] 61 true)
  have x2 : Ext h h2 := ((Ext.refl h).new' _).new' _
  refine ⟨_, x65 (k := 0) (h1 := h2) ?_ rfl, x2⟩
  have hb2 : ∀ (m o : Nat), h2.rd h.nx o m = if o + m ≤ 2 then some (([iv n, sl].drop o).take m) else none := fun m o => rd_of ((blk_new_ne _ _ (by rw [nx_new]; omega)).trans (blk_new_self _ _))
  unfold f65
  rw [bx_eq, bx_eq, hfc]
  simp only [nx_eq, d31]
  rw [show (((h.new (.row (Value.agg #[iv n, sl]).cells.toList 31 true)).new (.row (#[ofv] : Array Value).toList 61 true))) = h2 from rfl, hb2, if_pos (by omega), Option.bind_some]
  show calls rn h2 71 [.agg #[iv n, sl]] _ = _
  rw [k71 (hs.ext x2), asB_bool]
  cases hv : validP n l with
  | false => rfl
  | true =>
    rw [Bool.not_true, ifB_false, hb2, if_pos (by omega), Option.bind_some]
    show calls rn h2 72 [.agg #[iv n, sl], iv s] _ = _
    rw [k72, asB_bool]
    by_cases hsn : 0 ≤ s ∧ s < n
    · rw [decide_eq_true hsn, Bool.not_true, ifB_false, hb2, if_pos (by omega), Option.bind_some]
      show calls rn h2 72 [.agg #[iv n, sl], iv t] _ = _
      rw [k72, asB_bool]
      by_cases htn : 0 ≤ t ∧ t < n
      · have hst : s = t := by
          simp only [pairP, hv, decide_eq_true hsn, decide_eq_true htn] at hp
          simpa using hp
        rw [decide_eq_true htn, eq_t hst]
        rfl
      · rw [decide_eq_false htn]; rfl
    · rw [decide_eq_false hsn]; rfl

theorem s65 {n s t : Int} {sl ofv : Value} {l : List Kl} {h : H} {ofP : List Int → Int} (hs : SlR h 56 3 sl (l.map Kl.cells)) (hp : pairP n l s t = true) (hfc : ofv.cells = #[ofv])
    (hcall : ∀ (g : H) (wv : Value) (w : List Int), Ext h g → SlR g 3 1 wv (cellsI w) → okW l w → callV rn ofv #[wv] g = some (iv (ofP w), g)) :
    ∃ v e h', rn 65 #[.agg #[iv n, sl], iv s, iv t, ofv] h = some (.tuple #[v, iv e], h') ∧ Ext h h' ∧ BestR (bestP ofP l s t) v e h' := by
  obtain ⟨⟨⟨hv, hsn⟩, htn⟩, hst⟩ : ((validP n l = true ∧ (0 ≤ s ∧ s < n)) ∧ (0 ≤ t ∧ t < n)) ∧ s ≠ t := by simpa [pairP] using hp
  let h2 : H := (h.new (.row [iv n, sl] 31 true)).new (.row [ofv] 61 true)
  have x2 : Ext h h2 := ((Ext.refl h).new' _).new' _
  let g6 : H := h2.new (.row [.slice none 0 0] 25 true)
  have n2 : h2.nx = h.nx + 2 := rfl
  have n6 : g6.nx = h.nx + 3 := rfl
  have x6 : Ext h g6 := x2.new' _
  have b0 : g6.blk h.nx = some (.row [iv n, sl] 31 true) := (blk_new_ne _ _ (by omega)).trans ((blk_new_ne _ _ (by rw [nx_new]; omega)).trans (blk_new_self _ _))
  have b1 : g6.blk (h.nx + 1) = some (.row [ofv] 61 true) := (blk_new_ne _ _ (by omega)).trans (blk_new_self _ _)
  have b2 : g6.blk (h.nx + 2) = some (.row [.slice none 0 0] 25 true) := blk_new_self _ _
  have cb := best_cb (g6 := g6) (ob := h.nx + 2) (ofb := h.nx + 1) (ofv := ofv) (ofP := ofP) (okw := okW l) (by omega) (by omega) (by omega) b1 (fun w hw => ⟨hw.1, hw.2.1⟩)
    (fun g wv w hg hf hwv hw => hcall g wv w ⟨by omega, fun b hb => by rw [hf b (by omega) (by omega)]; exact x6.blk b hb⟩ hwv hw)
  obtain ⟨g', D', e85, i85, n85, f85⟩ := s85 cb (fun b hb => by omega) hv hsn (hs.ext x6) (fun b hb => by have := slR_bel hs hb; omega) (σ0 := none) ⟨⟨Nat.le_refl _, fun _ _ _ => rfl, _, b2, rfl, rfl⟩, by simp⟩ rfl rfl allWays_ok
  have hb2 : ∀ (m o : Nat), h2.rd h.nx o m = if o + m ≤ 2 then some (([iv n, sl].drop o).take m) else none := fun m o => rd_of ((blk_new_ne _ _ (by rw [nx_new]; omega)).trans (blk_new_self _ _))
  have hb6 : ∀ (m o : Nat), g6.rd h.nx o m = if o + m ≤ 2 then some (([iv n, sl].drop o).take m) else none := fun m o => rd_of b0
  have hc : ∀ (K : Value → H → Option (Value × H)), calls rn g6 85 [.agg #[iv n, sl], iv s, iv t, .func (.func 97) #[] #[pt (h.nx + 2) 0, pt (h.nx + 1) 0]] K = K undef g' := fun K => calls_eq (xs := [_, _, _, _]) e85
  obtain ⟨⟨hn', hf', ov, ho, hm⟩, _⟩ := i85
  have hoc : ∀ o, g'.cell (h.nx + 2) o = [ov][o]? := fun o => cell_of ho
  have xx : Ext h g' := ⟨by omega, fun b hb => by rw [f85 b (by omega) (by omega)]; exact x6.blk b hb⟩
  have head : f65 rn 0 (.agg #[iv n, sl]) s t ofv h = eqv Try.prog 25 ov (.slice none 0 0) fun q3 => ifB q3 (some ((.tuple #[(.slice none 0 0), (.int .i64 4)]), g')) (some ((.tuple #[ov, (.int .i64 0)]), g')) := by
    unfold f65
    rw [bx_eq, bx_eq, hfc]
    show _ = _
    simp only [nx_eq, d31]
    rw [show (((h.new (.row (Value.agg #[iv n, sl]).cells.toList 31 true)).new (.row (#[ofv] : Array Value).toList 61 true))) = h2 from rfl, hb2, if_pos (by omega), Option.bind_some]
    show calls rn h2 71 [.agg #[iv n, sl]] _ = _
    rw [k71 (hs.ext x2), asB_bool, hv, Bool.not_true, ifB_false, hb2, if_pos (by omega), Option.bind_some]
    show calls rn h2 72 [.agg #[iv n, sl], iv s] _ = _
    rw [k72, asB_bool, decide_eq_true hsn, Bool.not_true, ifB_false, hb2, if_pos (by omega), Option.bind_some]
    show calls rn h2 72 [.agg #[iv n, sl], iv t] _ = _
    rw [k72, asB_bool, decide_eq_true htn, Bool.not_true, ifB_false, eq_f hst, ifB_false, al_eq]
    show (g6.rd h.nx 0 2).bind _ = _
    rw [hb6, if_pos (by omega), Option.bind_some]
    refine (hc _).trans ?_
    have hld : ∀ (K : Value → Option (Value × H)), ld Try.prog g' 25 h2.nx 0 K = K ov := fun K => by
      rw [d25, show h2.nx = h.nx + 2 from rfl, hoc]; rfl
    simp only [hld]
  unfold bestP
  generalize (allWays l s t).foldl (betterP ofP) none = o at *
  cases o with
  | none =>
    obtain ⟨rfl, _⟩ := hm
    refine ⟨.slice none 0 0, 4, g', x65 (k := 0) ?_ rfl, xx, rfl, rfl⟩
    rw [head]
    simp [eqv, nil25]
  | some w =>
    obtain ⟨hw0, q, _, hq, hqb, hia⟩ := hm
    refine ⟨ov, 0, g', x65 (k := 0) ?_ hia.slR.notR2, xx, hia.slR, rfl, hw0⟩
    rw [head]
    simp [eqv, nilv25 hqb]

end Go.AM

end

section

/- Foremost, Fewest and Fastest; the ways as the document tells them. -/
namespace Go.AM
open Go.Proofs
variable {R : Type}
attribute [local simp] nx_eq nx_new nx_set blk_new blk_set asI_int asK_int asB_bool asP_ptr al_eq bx_eq len_slice onE_exit onE_ret onR_ret Value.cells d3 d29 d31 d56 d24 d59 d22 d25 d121 d89 d61 w3 w25 w121 cell_new cell_set rd_new rd_set off eq lt le ifB gv out eqF1 eqF2 eqF3 eqF4 eqF5 eqF6 eqF7 eqF8 ext20 ext21 k42 k72 k73 k74
/-- The time of a call. -/
def timeP (l : List Kl) (i : Int) : Int := ((l[i.toNat]?).map (·.t)).getD 0

def arrP (l : List Kl) (w : List Int) : Int := timeP l (w.getLastD 0)

def leaveP (l : List Kl) (w : List Int) : Int := timeP l (w.headD 0)

def ofK (l : List Kl) : Nat → List Int → Int
  | 0, w => arrP l w
  | 1, w => w.length
  | _, w => sub .i64 (arrP l w) (leaveP l w)

theorem okW_last {l : List Kl} {w : List Int} (h : okW l w) : ∃ x c, w[w.length - 1]? = some x ∧ 0 ≤ x ∧ l[x.toNat]? = some c ∧ arrP l w = c.t ∧ 0 < w.length := by
  obtain ⟨h0, _, h1⟩ := h
  have hp : 0 < w.length := List.length_pos_iff.2 h0
  have hx : w[w.length - 1]? = some w[w.length - 1] := List.getElem?_eq_getElem (by omega)
  obtain ⟨a, b⟩ := h1 _ (List.getElem_mem (show w.length - 1 < w.length by omega))
  refine ⟨_, l[(w[w.length - 1]).toNat]'(by omega), hx, a, List.getElem?_eq_getElem _, ?_, hp⟩
  unfold arrP timeP
  rw [List.getLastD_eq_getLast?, List.getLast?_eq_getElem?, hx, Option.getD_some, List.getElem?_eq_getElem (by omega)]
  rfl

theorem okW_head {l : List Kl} {w : List Int} (h : okW l w) : ∃ x c, w[0]? = some x ∧ 0 ≤ x ∧ l[x.toNat]? = some c ∧ leaveP l w = c.t := by
  obtain ⟨h0, _, h1⟩ := h
  cases w with
  | nil => exact absurd rfl h0
  | cons x w =>
    obtain ⟨a, b⟩ := h1 x (by simp)
    refine ⟨x, l[x.toNat]'(by omega), rfl, a, List.getElem?_eq_getElem _, ?_⟩
    unfold leaveP timeP
    simp [show x.toNat < l.length by omega]

theorem s66 {n : Int} {sl wv : Value} {l : List Kl} {w : List Int} {g : H} (hs : SlR g 56 3 sl (l.map Kl.cells)) (hw : SlR g 3 1 wv (cellsI w)) (hok : okW l w) : rn 66 #[.agg #[iv n, sl], wv] g = some (iv (arrP l w), g) := by
  obtain ⟨x, c, h1, h2, h3, h4, h5⟩ := okW_last hok
  have hl := hok.2.1
  have x1 : Ext g (g.new (.row [iv n, sl] 31 true)) := .new _ _
  have b1 : (g.new (.row [iv n, sl] 31 true)).blk g.nx = some (.row [iv n, sl] 31 true) := blk_new_self _ _
  have hw1 := hw.ext x1
  have hs1 := hs.ext x1
  refine p66 (k := 0) (h1 := g.new (.row [iv n, sl] 31 true)) ?_ rfl x1
  rw [h4]
  generalize hG : g.new (.row [iv n, sl] 31 true) = g1 at *
  have e1 : ∀ (K : Value → Option (Value × H)), (six wv (sub .i64 (w.length : Int) 1) 1 fun b o => (g1.cell b o).bind K) = K (iv x) := fun K => by
    rw [sub64 (by omega) (by omega)]
    exact hw1.c0 (by omega) (x := [iv x]) (by rw [show ((w.length : Int) - 1).toNat = w.length - 1 by omega]; simp [h1]) rfl K
  have e2 : ∀ (K : Value → Option (Value × H)), (six sl x 3 fun b o => (g1.cell b (o + 2)).bind K) = K (iv c.t) := fun K => hs1.cF h2 (x := c.cells) (by simp [h3]) rfl K
  simp [f66, hG, cell_of b1, hw1.len, e1, e2]

theorem s69 {n : Int} {sl wv : Value} {l : List Kl} {w : List Int} {g : H} (hs : SlR g 56 3 sl (l.map Kl.cells)) (hw : SlR g 3 1 wv (cellsI w)) (hok : okW l w) : rn 69 #[.agg #[iv n, sl], wv] g = some (iv (leaveP l w), g) := by
  obtain ⟨x, c, h1, h2, h3, h4⟩ := okW_head hok
  have x1 : Ext g (g.new (.row [iv n, sl] 31 true)) := .new _ _
  have b1 : (g.new (.row [iv n, sl] 31 true)).blk g.nx = some (.row [iv n, sl] 31 true) := blk_new_self _ _
  have hw1 := hw.ext x1
  have hs1 := hs.ext x1
  refine p69 (k := 0) (h1 := g.new (.row [iv n, sl] 31 true)) ?_ rfl x1
  rw [h4]
  generalize hG : g.new (.row [iv n, sl] 31 true) = g1 at *
  have e1 : ∀ (K : Value → Option (Value × H)), (six wv 0 1 fun b o => (g1.cell b o).bind K) = K (iv x) := fun K => hw1.c0 (by omega) (x := [iv x]) (by simp [h1]) rfl K
  have e2 : ∀ (K : Value → Option (Value × H)), (six sl x 3 fun b o => (g1.cell b (o + 2)).bind K) = K (iv c.t) := fun K => hs1.cF h2 (x := c.cells) (by simp [h3]) rfl K
  simp [f69, hG, cell_of b1, e1, e2]

theorem s67 {wv : Value} {w : List Int} {g : H} (hw : SlR g 3 1 wv (cellsI w)) : rn 67 #[wv] g = some (iv w.length, g) := by
  refine p67 (k := 0) (h1 := g) ?_ rfl (.refl _)
  simp [f67, hw.len]

theorem s68 {n : Int} {sl wv : Value} {l : List Kl} {w : List Int} {g : H} {b : Nat} (hb : g.blk b = some (.row [iv n, sl] 31 true)) (hbn : b < g.nx) (hs : SlR g 56 3 sl (l.map Kl.cells)) (hw : SlR g 3 1 wv (cellsI w)) (hok : okW l w) :
    rn 68 #[wv, pt b 0] g = some (iv (sub .i64 (arrP l w) (leaveP l w)), g) := by
  refine p68 (k := 0) (h1 := g) ?_ rfl (.refl _)
  have c1 : ∀ (K : Value → H → Option (Value × H)), calls rn g 66 [.agg #[iv n, sl], wv] K = K (iv (arrP l w)) g := fun K => calls_eq (xs := [_, _]) (s66 hs hw hok)
  have c2 : ∀ (K : Value → H → Option (Value × H)), calls rn g 69 [.agg #[iv n, sl], wv] K = K (iv (leaveP l w)) g := fun K => calls_eq (xs := [_, _]) (s69 hs hw hok)
  simp [f68, rd_of hb, c1, c2, ck, freq, same, hbn]

/-- Foremost, Fewest, Fastest: 17, 19, 20. -/
theorem s17_bad {n s t : Int} {sl : Value} {l : List Kl} {h : H} (hs : SlR h 56 3 sl (l.map Kl.cells)) (hp : pairP n l s t = false) : ∃ h', rn 17 #[.agg #[iv n, sl], iv s, iv t] h = some (.tuple #[.slice none 0 0, iv 2], h') ∧ Ext h h' := by
  have x1 : Ext h (h.new (.row [iv n, sl] 31 true)) := .new _ _
  obtain ⟨h', e, x⟩ := s65_bad (ofv := .func (.func 66) #[.agg #[iv n, sl]] #[]) (hs.ext x1) rfl hp
  have hc := fun (K : Value → H → Option (Value × H)) => calls_eq (K := K) (xs := [_, _, _, _]) e
  exact ⟨h', x17 (k := 0) (by simp [f17, hc]) rfl, x1.trans x⟩

theorem s19_bad {n s t : Int} {sl : Value} {l : List Kl} {h : H} (hs : SlR h 56 3 sl (l.map Kl.cells)) (hp : pairP n l s t = false) : ∃ h', rn 19 #[.agg #[iv n, sl], iv s, iv t] h = some (.tuple #[.slice none 0 0, iv 2], h') ∧ Ext h h' := by
  have x1 : Ext h (h.new (.row [iv n, sl] 31 true)) := .new _ _
  obtain ⟨h', e, x⟩ := s65_bad (ofv := .func (.func 67) #[] #[]) (hs.ext x1) rfl hp
  have hc := fun (K : Value → H → Option (Value × H)) => calls_eq (K := K) (xs := [_, _, _, _]) e
  exact ⟨h', x19 (k := 0) (by simp [f19, hc]) rfl, x1.trans x⟩

theorem s20_bad {n s t : Int} {sl : Value} {l : List Kl} {h : H} (hs : SlR h 56 3 sl (l.map Kl.cells)) (hp : pairP n l s t = false) : ∃ h', rn 20 #[.agg #[iv n, sl], iv s, iv t] h = some (.tuple #[.slice none 0 0, iv 2], h') ∧ Ext h h' := by
  have x1 : Ext h (h.new (.row [iv n, sl] 31 true)) := .new _ _
  obtain ⟨h', e, x⟩ := s65_bad (ofv := .func (.func 68) #[] #[pt h.nx 0]) (hs.ext x1) rfl hp
  have hc := fun (K : Value → H → Option (Value × H)) => calls_eq (K := K) (xs := [_, _, _, _]) e
  exact ⟨h', x20 (k := 0) (by simp [f20, hc]) rfl, x1.trans x⟩

theorem BestR.plain {o : Option (List Int)} {v w : Value} {e : Int} {h : H} (b : BestR o v e h) : plainO (.tuple #[v, w]) = false := by
  cases o with
  | none => obtain ⟨rfl, _⟩ := b; rfl
  | some w' => exact b.1.notR2

theorem s17 {n s t : Int} {sl : Value} {l : List Kl} {h : H} (hs : SlR h 56 3 sl (l.map Kl.cells)) (hp : pairP n l s t = true) :
    ∃ v e h', rn 17 #[.agg #[iv n, sl], iv s, iv t] h = some (.tuple #[v, iv e], h') ∧ Ext h h' ∧ BestR (bestP (ofK l 0) l s t) v e h' := by
  have x1 : Ext h (h.new (.row [iv n, sl] 31 true)) := .new _ _
  obtain ⟨v, e, h', e1, x, b⟩ := s65 (ofv := .func (.func 66) #[.agg #[iv n, sl]] #[]) (ofP := ofK l 0) (hs.ext x1) hp rfl (fun g wv w xg hw hok => s66 (hs.ext (x1.trans xg)) hw hok)
  have hc := fun (K : Value → H → Option (Value × H)) => calls_eq (K := K) (xs := [_, _, _, _]) e1
  exact ⟨v, e, h', x17 (k := 0) (by simp [f17, hc]) b.plain, x1.trans x, b⟩

theorem s19 {n s t : Int} {sl : Value} {l : List Kl} {h : H} (hs : SlR h 56 3 sl (l.map Kl.cells)) (hp : pairP n l s t = true) :
    ∃ v e h', rn 19 #[.agg #[iv n, sl], iv s, iv t] h = some (.tuple #[v, iv e], h') ∧ Ext h h' ∧ BestR (bestP (ofK l 1) l s t) v e h' := by
  have x1 : Ext h (h.new (.row [iv n, sl] 31 true)) := .new _ _
  obtain ⟨v, e, h', e1, x, b⟩ := s65 (ofv := .func (.func 67) #[] #[]) (ofP := ofK l 1) (hs.ext x1) hp rfl (fun g wv w xg hw hok => s67 hw)
  have hc := fun (K : Value → H → Option (Value × H)) => calls_eq (K := K) (xs := [_, _, _, _]) e1
  exact ⟨v, e, h', x19 (k := 0) (by simp [f19, hc]) b.plain, x1.trans x, b⟩

theorem s20 {n s t : Int} {sl : Value} {l : List Kl} {h : H} (hs : SlR h 56 3 sl (l.map Kl.cells)) (hp : pairP n l s t = true) :
    ∃ v e h', rn 20 #[.agg #[iv n, sl], iv s, iv t] h = some (.tuple #[v, iv e], h') ∧ Ext h h' ∧ BestR (bestP (ofK l 2) l s t) v e h' := by
  have x1 : Ext h (h.new (.row [iv n, sl] 31 true)) := .new _ _
  obtain ⟨v, e, h', e1, x, b⟩ := s65 (ofv := .func (.func 68) #[] #[pt h.nx 0]) (ofP := ofK l 2) (hs.ext x1) hp rfl (fun g wv w xg hw hok => s68 ((xg.blk _ (Nat.lt_succ_self _)).trans (blk_new_self _ _)) (Nat.lt_of_lt_of_le (Nat.lt_succ_self _) xg.nx) (hs.ext (x1.trans xg)) hw hok)
  have hc := fun (K : Value → H → Option (Value × H)) => calls_eq (K := K) (xs := [_, _, _, _]) e1
  exact ⟨v, e, h', x20 (k := 0) (by simp [f20, hc]) b.plain, x1.trans x, b⟩

end Go.AM

end

section

/- The ways, as the document tells them. -/
namespace Go.AM
open Go.Proofs
variable {R : Type}
attribute [local simp] nx_eq nx_new nx_set blk_new blk_set asI_int asK_int asB_bool asP_ptr al_eq bx_eq len_slice onE_exit onE_ret onR_ret Value.cells d3 d29 d31 d56 d24 d59 d22 d25 d121 d89 d61 w3 w25 w121 cell_new cell_set rd_new rd_set off eq lt le ifB gv out eqF1 eqF2 eqF3 eqF4 eqF5 eqF6 eqF7 eqF8 ext20 ext21 k42 k72 k73 k74
theorem and_one (x : Int) : AM.and .i64 x 1 = 0 ∨ AM.and .i64 x 1 = 1 := by
  unfold AM.and
  show IntKind.i64.wrap ((BitVec.ofInt 64 x &&& BitVec.ofInt 64 1).toNat : Nat) = 0 ∨ IntKind.i64.wrap ((BitVec.ofInt 64 x &&& BitVec.ofInt 64 1).toNat : Nat) = 1
  rw [BitVec.toNat_and, show (BitVec.ofInt 64 1).toNat = 1 from rfl, Nat.and_one_is_mod]
  have : (BitVec.ofInt 64 x).toNat % 2 = 0 ∨ (BitVec.ofInt 64 x).toNat % 2 = 1 := by omega
  rcases this with h | h <;> rw [h]
  · exact .inl rfl
  · exact .inr rfl

/-- A slice without room. -/
theorem full_push {g : H} {wv : Value} {w : List Int} {z : Int} (hw : SlR g 3 1 wv (cellsI w)) (hm : w.length < 1000) :
    ∃ v11 v13 h7, (∀ {R : Type} (K : Value → Option R), sli Try.prog g 25 wv none (some (.int .i64 w.length)) (some (.int .i64 w.length)) K = K v11) ∧
      (∀ {R : Type} (K : Value → H → Option R), app Try.prog (g.new (.row [iv z] 3 true)) 25 25 v11 (.slice (some ⟨g.nx, 0, none⟩) 1 1) K = K v13 h7) ∧ Ext g h7 ∧ h7.wr = g.wr ∧ h7.nx = g.nx + 2 ∧ SlR h7 3 1 v13 (cellsI (w ++ [z])) := by
  obtain ⟨i, z3, h1, h2, h3, h4, h5, h6, h7⟩ := okApp_spec app25
  have h30 : 2 ^ 30 < U := by decide
  have x1 := Ext.new g (.row [iv z] 3 true)
  have hsrc : srcCells 1 (.slice (some ⟨g.nx, 0, none⟩) 1 1) (g.new (.row [iv z] 3 true)) = some [iv z] := by
    simp only [srcCells, Nat.one_mul]
    rw [if_neg (by omega)]
    simp only [H.rd, blk_new_self]
    rfl
  have hlen : lenOf (.slice (some ⟨g.nx, 0, none⟩) 1 1) = some 1 := rfl
  have hold := (hw.ext x1).srcAll (by decide)
  generalize hL : cellsI w = L at hw
  cases hw with
  | nil =>
    have hw0 : w = [] := by simpa using hL
    subst hw0
    refine ⟨.slice none 0 0, .slice (some ⟨g.nx + 1, 0, none⟩) 1 (U + 1), (g.new (.row [iv z] 3 true)).new (.row [iv z] 3 true), fun K => ?_, fun K => ?_, x1.new' _, rfl, rfl, ?_⟩
    · unfold sli slice
      simp only [h1, sz3, Option.bind_some]
      rfl
    · unfold AM.app append
      simp only [h1, h2, h3, hlen, h4, hsrc, Option.bind_some]
      rw [if_pos ⟨h5, h6, h7⟩, if_neg (by omega), if_pos (by omega)]
      rfl
    · exact (AqR.at_ (lo := 0) (l := [[iv z]]) (c := U + 1) (Nat.zero_le _) (Nat.lt_succ_self _) (blk_new_self _ _) (by simp) (by simp) (.inl rfl)).slR
  | @at_ b o c cs own L hb hr hk hc hl hx =>
    subst hL
    have hwl : (cellsI w).length = w.length := by simp
    have hck : capK w.length = w.length := by unfold capK; rw [if_pos (by omega)]
    have hr1 := (x1.blk b hb).trans hr
    refine ⟨.slice (some ⟨b, o, none⟩) w.length w.length, .slice (some ⟨g.nx + 1, 0, none⟩) (w.length + 1) (U + (w.length + 1)), (g.new (.row [iv z] 3 true)).new (.row (w.map iv ++ [iv z]) 3 true), fun K => ?_, fun K => ?_, x1.new' _, rfl, rfl, ?_⟩
    · unfold sli slice
      simp only [h1, hr]
      rw [if_pos ⟨trivial, hc, rfl⟩]
      simp only [sz3, Option.bind_some, bound]
      rw [if_pos ⟨by omega, by omega⟩]
      simp only [Option.bind_some]
      rw [if_pos ⟨by omega, by omega⟩]
      simp
    · unfold AM.app append
      simp only [h1, h2, h3, hlen, h4, hsrc, Option.bind_some]
      rw [if_pos ⟨h5, h6, h7⟩, if_neg (by omega), hck, if_neg (by omega), if_pos (by omega), if_pos (by omega)]
      have hrd : (if w.length = 0 then some [] else (g.new (.row [iv z] 3 true)).rd b o (w.length * 1)) = some (w.map iv) := by
        split
        · rename_i h9
          rw [List.eq_nil_of_length_eq_zero h9]
          rfl
        · have := hold
          simp only [srcCells] at this
          rw [hwl, if_neg (by omega)] at this
          rw [this, flat1]
      rw [hrd]
      rfl
    · have := AqR.at_ (lo := 0) (h := (g.new (.row [iv z] 3 true)).new (.row (w.map iv ++ [iv z]) 3 true)) (e := 3) (s := 1) (b := g.nx + 1) (l := cellsI (w ++ [z])) (c := U + (w.length + 1)) (Nat.zero_le _) (Nat.lt_succ_self _) (by rw [flat1]; simp [blk_new]) (by intro x hx; simp only [List.mem_map] at hx; obtain ⟨z, _, rfl⟩ := hx; rfl) (by simp; omega) (.inl (by simp))
      have := this.slR
      simpa using this

theorem SsR.append {h : H} {vs us : List Value} {ls ms : List (List Int)} (a : SsR h vs ls) (b : SsR h us ms) : SsR h (vs ++ us) (ls ++ ms) := by
  refine ⟨by simp [a.1, b.1], fun j v l hv hl => ?_⟩
  by_cases hj : j < vs.length
  · rw [List.getElem?_append_left hj] at hv
    rw [List.getElem?_append_left (by rw [← a.1]; exact hj)] at hl
    exact a.2 j v l hv hl
  · rw [List.getElem?_append_right (by omega)] at hv
    rw [List.getElem?_append_right (by rw [← a.1]; omega), ← a.1] at hl
    exact b.2 _ v l hv hl

theorem SsR.scal {h : H} {vs : List Value} {ls : List (List Int)} (a : SsR h vs ls) : (cellsV vs).flatten.all AM.scal = true := by
  rw [List.all_eq_true]
  intro x hx
  have : x ∈ vs := by
    have : ∀ (l : List Value), x ∈ (cellsV l).flatten → x ∈ l := by
      intro l
      induction l with
      | nil => intro h; simp at h
      | cons y l ih =>
        intro h
        simp only [List.map_cons, List.flatten_cons, List.mem_append, List.mem_cons, List.not_mem_nil, or_false] at h ⊢
        rcases h with h | h
        · exact .inl h
        · exact .inr (ih h)
    exact this vs hx
  obtain ⟨j, hj, rfl⟩ := List.getElem_of_mem this
  obtain ⟨y, n, c, e⟩ := (a.2 j vs[j] (ls[j]'(by rw [← a.1]; exact hj)) (List.getElem?_eq_getElem hj) (List.getElem?_eq_getElem _)).isSl
  rw [e]
  rfl

/-- What the document's search answers. -/
def RefOk (n t : Int) (l : List Kl) (F : Nat) (tm : Int) : Prop :=
  ∀ (p seen : Int) (w : List Int) (sl wv : Value) (g : H), 0 ≤ p ∧ p < n → w.length + F < 100 → p ≠ t → SlR g 59 3 sl (l.map Kl.cells) → SlR g 3 1 wv (cellsI w) →
    ∃ v vs g', rn 111 #[.agg #[iv n, sl], iv p, iv t, iv seen, iv tm, wv] g = some (v, g') ∧ Ext g g' ∧ SlR g' 25 1 v (cellsV vs) ∧ SsR g' vs ((waysF l t F p tm seen).map (w ++ ·))

theorem bls58v (v : Value) (h : H) (hv : ∃ x n c, v = .slice x n c) : buildSlice Try.prog 58 1 [(0, v)] h = some (.slice (some ⟨h.nx, 0, none⟩) 1 1, h.new (.row [v] 25 true)) := by
  obtain ⟨x, n, c, rfl⟩ := hv
  kernel_rfl

theorem s111_end {n t : Int} {l : List Kl} {seen tm : Int} {w : List Int} {sl wv : Value} {g : H} (hw : SlR g 3 1 wv (cellsI w)) :
    ∃ v g', rn 111 #[.agg #[iv n, sl], iv t, iv t, iv seen, iv tm, wv] g = some (v, g') ∧ Ext g g' ∧ SlR g' 25 1 v (cellsV [wv]) ∧ SsR g' [wv] [w] := by
  have x1 : Ext g (g.new (.row [iv n, sl] 24 true)) := .new _ _
  have x2 := x1.new' (.row [wv] 25 true)
  have hb := bls58v wv (g.new (.row [iv n, sl] 24 true)) hw.isSl
  have hc := fun (K : Value → H → Option (Value × H)) => bls_some (K := K) hb
  refine ⟨.slice (some ⟨g.nx + 1, 0, none⟩) 1 1, (g.new (.row [iv n, sl] 24 true)).new (.row [wv] 25 true), x111 (k := 0) ?_ rfl, x2, ?_, ⟨rfl, fun j v m hv hm => ?_⟩⟩
  · simp [f111, hc]
  · exact (AqR.lit (lo := 0) (e := 25) (s := 1) (l := cellsV [wv]) (Nat.zero_le _) rfl (by simp) (by simp)).slR
  · cases j with
    | zero => simp at hv hm; subst hv; subst hm; exact hw.ext x2
    | succ j => simp at hv

theorem ways_few {n t : Int} {l : List Kl} (hv : validP n l = true) : ∀ (F : Nat) (p tm seen : Int) (k : Nat), k ≤ l.length → (∀ j c, l[j]? = some c → tm < c.t → k ≤ j) → (waysF l t F p tm seen).length ≤ 2 ^ (l.length - k) ∧
    ∀ (i : Nat) (c : Kl), l[i]? = some c → (wayStep (waysF l t F) t p tm seen i c).length ≤ 2 ^ (l.length - i - 1) := by
  intro F
  induction F with
  | zero =>
    intro p tm seen k hk hj
    refine ⟨by simp [waysF], fun i c hc => ?_⟩
    unfold wayStep
    split
    · split
      · exact Nat.one_le_two_pow
      · simp [waysF]
    · simp
  | succ F ih =>
    intro p tm seen k hk hj
    have step : ∀ (G : Nat), (∀ (p tm seen : Int) (k : Nat), k ≤ l.length → (∀ j c, l[j]? = some c → tm < c.t → k ≤ j) → (waysF l t G p tm seen).length ≤ 2 ^ (l.length - k)) → ∀ (p tm seen : Int) (i : Nat) (c : Kl), l[i]? = some c →
        (wayStep (waysF l t G) t p tm seen i c).length ≤ 2 ^ (l.length - i - 1) := by
      intro G hG p tm seen i c hc
      have hil := (List.getElem?_eq_some_iff.1 hc).1
      unfold wayStep
      split
      · split
        · exact Nat.one_le_two_pow
        · rw [List.length_map, show l.length - i - 1 = l.length - (i + 1) by omega]
          refine hG _ _ _ (i + 1) (by omega) fun j d hd hlt => ?_
          rcases Nat.lt_or_ge i j with h | h
          · omega
          · rcases Nat.lt_or_ge j i with h' | h'
            · have := (validP_sorted hv h' hd hc).1; omega
            · obtain rfl : j = i := by omega
              rw [hc] at hd; cases hd; omega
      · simp
    have ih' := fun p tm seen k h1 h2 => (ih p tm seen k h1 h2).1
    have full : ∀ (p tm seen : Int) (k : Nat), k ≤ l.length → (∀ j c, l[j]? = some c → tm < c.t → k ≤ j) → (waysF l t (F + 1) p tm seen).length ≤ 2 ^ (l.length - k) := by
      intro p tm seen k hk hj
      simp only [waysF]
      have key : ∀ (l' : List Kl) (i : Nat) (acc : List (List Int)), l.drop i = l' → i + l'.length = l.length → (i ≤ k → acc = []) → (k ≤ i → acc.length + 2 ^ (l.length - i) ≤ 2 ^ (l.length - k)) →
          (foldI (fun i c acc => acc ++ wayStep (waysF l t F) t p tm seen i c) l' i acc).length ≤ 2 ^ (l.length - k) := by
        intro l'
        induction l' with
        | nil =>
          intro i acc _ hi h1 h2
          simp at hi
          simp only [foldI]
          by_cases h3 : k ≤ i
          · exact Nat.le_trans (Nat.le_add_right _ _) (h2 h3)
          · rw [h1 (by omega)]; simp
        | cons c l' ih2 =>
          intro i acc hd hi h1 h2
          simp only [List.length_cons] at hi
          have hc : l[i]? = some c := by
            have := List.getElem?_drop (xs := l) (i := i) (j := 0)
            rw [hd] at this
            simpa using this.symm
          have hdr : l.drop (i + 1) = l' := by
            have := List.drop_drop (i := 1) (j := i) (l := l)
            rw [hd] at this
            rw [← this]
            rfl
          simp only [foldI]
          have hs := step F ih' p tm seen i c hc
          by_cases h3 : k ≤ i
          · refine ih2 (i + 1) _ hdr (by omega) (fun h => by omega) (fun _ => ?_)
            have h4 := h2 h3
            have e1 : 2 ^ (l.length - i) = 2 ^ (l.length - i - 1) + 2 ^ (l.length - i - 1) := by
              rw [← Nat.two_mul, ← Nat.pow_succ']
              congr 1
              omega
            rw [List.length_append, show l.length - (i + 1) = l.length - i - 1 by omega]
            omega
          · have hng : ¬ tm < c.t := fun h => h3 (hj i c hc h)
            have hst0 : wayStep (waysF l t F) t p tm seen i c = [] := by
              unfold wayStep
              rw [if_neg]
              simp [goes, Int.not_lt.1 hng]
            rw [hst0, h1 (by omega), List.append_nil]
            refine ih2 (i + 1) _ hdr (by omega) (fun _ => rfl) (fun h => ?_)
            have : i + 1 = k := by omega
            rw [this]; simp
      refine key l 0 [] (by simp) (by simp) (fun _ => rfl) (fun h => ?_)
      have : k = 0 := by omega
      subst this
      simp
    exact ⟨full p tm seen k hk hj, step (F + 1) full p tm seen⟩

theorem ref_body {n t : Int} {l : List Kl} (hv : validP n l = true) (F : Nat) (tm : Int) (hrec : ∀ tm', tm < tm' → tm' ≤ 30 → RefOk n t l F tm') : RefOk n t l (F + 1) tm := by
  obtain ⟨hn1, hn7, hl24, hok⟩ := validP_ok hv
  intro p seen w sl wv g hp hlen hpt hsl hwv
  have x1 : Ext g (g.new (.row [iv n, sl] 24 true)) := .new _ _
  have hb1 : (g.new (.row [iv n, sl] 24 true)).blk g.nx = some (.row [iv n, sl] 24 true) := blk_new_self _ _
  have hn1' : g.nx < (g.new (.row [iv n, sl] 24 true)).nx := Nat.lt_succ_self _
  have hpw : 2 ^ l.length ≤ 2 ^ 24 := Nat.pow_le_pow_right (by omega) hl24
  obtain ⟨ws', g', hl, hx, sv, vs, hap, hss, hbd, rfl⟩ := lp_for (F := f111_l1 rn 30 p t seen tm wv g sl l.length) (k := 30) (l := l) (fun i c acc => acc ++ wayStep (waysF l t F) t p tm seen i c)
    (fun i acc ws h3 => Ext (g.new (.row [iv n, sl] 24 true)) h3 ∧ ∃ sv vs, AqR (g.nx + 1) h3 25 1 sv (cellsV vs) ∧ SsR h3 vs (acc.map (w ++ ·)) ∧ acc.length + 2 ^ (l.length - i) ≤ 2 ^ l.length ∧ ws = [sv, iv i]) 0 (ws := [.slice none 0 0, iv 0]) (h := g.new (.row [iv n, sl] 24 true)) (s0 := [])
    ⟨.refl _, _, [], .nil, ⟨rfl, fun j v l hv => by simp at hv⟩, by simp, rfl⟩ (by omega)
    (by
      rintro acc ws' h3 ⟨_, sv, vs, _, _, _, rfl⟩
      simp [f111_l1])
    (by
      rintro i c acc ws' h3 hc ⟨hx, sv, vs, hap, hss, hbd, rfl⟩
      have hil := (List.getElem?_eq_some_iff.1 hc).1
      have hcok := hok _ _ hc
      have hadd : add .i64 (i : Int) 1 = (i : Int) + 1 := add64 (by omega) (by omega)
      have y5 := (Ext.refl h3).fresh 59 [iv 0, iv 0, iv 0] c.cells
      have hcb := blk_fresh h3 59 [iv 0, iv 0, iv 0] c.cells
      have n5 : (h3.fresh 59 [iv 0, iv 0, iv 0] c.cells).nx = h3.nx + 1 := rfl
      have x5 := hx.trans y5
      have hb5 := (x5.blk _ hn1').trans hb1
      have hsl5 := hsl.ext (x1.trans x5)
      have hwv5 := hwv.ext (x1.trans x5)
      have a5 := hap.ext y5
      have s5 : SsR (h3.fresh 59 [iv 0, iv 0, iv 0] c.cells) vs (acc.map (w ++ ·)) := hss.keep y5.nx fun v hv q hq => y5.blk q (hss.bel hv hq)
      have hgx := hx.nx
      rw [nx_new] at hgx
      have hst := (ways_few (t := t) hv F p tm seen 0 (by omega) (fun _ _ _ _ => Nat.zero_le _)).2 i c hc
      have e2 : 2 ^ (l.length - i) = 2 ^ (l.length - i - 1) + 2 ^ (l.length - i - 1) := by
        rw [← Nat.two_mul, ← Nat.pow_succ']
        congr 1
        omega
      have hbd' : (acc ++ wayStep (waysF l t F) t p tm seen i c).length + 2 ^ (l.length - (i + 1)) ≤ 2 ^ l.length := by
        rw [List.length_append, show l.length - (i + 1) = l.length - i - 1 by omega]
        omega
      unfold f111_l1
      rw [show gv [sv, iv i] 1 = iv i from rfl, show gv [sv, iv i] 0 = sv from rfl, asI_int, lt_t (by omega), ifB_true, asK_int, (hsl.ext (x1.trans hx)).ldA ag59 sz59 (by omega) (x := c.cells) (by simp [hc])]
      rw [al_st (zs := [iv 0, iv 0, iv 0]) (xs := c.cells) sz59 rfl rfl]
      generalize h3.fresh 59 [iv 0, iv 0, iv 0] c.cells = h5 at *
      simp only [Kl.cells] at hcb
      by_cases hg : goes c p tm seen = true
      · have hg' := hg
        simp only [goes, Bool.and_eq_true, Bool.not_eq_true', decide_eq_false_iff_not] at hg
        obtain ⟨⟨g_t, g_h⟩, g_s⟩ := hg
        have hoth := oth_ok hcok g_h
        have hcalc := oth_calc (by omega) hcok g_h
        have htm : tm < c.t ∧ c.t ≤ 30 := ⟨Int.not_le.1 g_t, (okC_iff.1 hcok).2.2.2.2⟩
        have hin : AM.and .i64 (shr .i64 seen (c.oth p)) 1 = 0 := by
          have h1 : AM.and .i64 (shr .i64 seen (c.oth p)) 1 ≠ 1 := by simpa [inP] using g_s
          exact (and_one _).resolve_right h1
        obtain ⟨v11, v13, h7, e11, e13, x7, w7, n7, s7⟩ := full_push (z := (i : Int)) hwv5 (by omega)
        have hkb : ∀ (K : Value → H → Option (Ex × List Value × H)), bls Try.prog h5 25 1 [(0, iv (i : Int))] K = K (.slice (some ⟨h5.nx, 0, none⟩) 1 1) (h5.new (.row [iv (i : Int)] 3 true)) := fun K => bls_some (bls25 _ _)
        have hck1 : fres wv h5.nx (same (h5.new (.row [iv (i : Int)] 3 true)) h5) = true := by
          have h9 : same (h5.new (.row [iv (i : Int)] 3 true)) h5 = true := by simp [same, wr_new]
          rw [h9]
          have h8 := hwv5
          generalize cellsI w = L at h8
          clear hwv hwv5
          cases h8 with
          | nil => rfl
          | at_ hb' => simp [fres, hb']
        have hck2 : ∀ b, b < h5.nx → freq b h5.nx (same (h5.new (.row [iv (i : Int)] 3 true)) h5) = true := fun b hb => by simp [freq, same, wr_new, hb]
        have hck3 : ∀ b, b < h5.nx → freq b (h5.nx + 1) (same h7 (h5.new (.row [iv (i : Int)] 3 true))) = true := fun b hb => by simp [freq, same, wr_new, w7]; omega
        -- the answer of the call
        obtain ⟨v14, vs', h8, e8, x8, s8, ss8⟩ : ∃ v14 vs' h8, rn 111 #[.agg #[iv n, sl], iv (c.oth p), iv t, iv (AM.or .i64 seen (shl .i64 1 (c.oth p))), iv c.t, v13] h7 = some (v14, h8) ∧ Ext h7 h8 ∧ SlR h8 25 1 v14 (cellsV vs') ∧ SsR h8 vs' ((wayStep (waysF l t F) t p tm seen i c).map (w ++ ·)) := by
          by_cases hto : c.oth p = t
          · obtain ⟨v, g', e1, e2, e3, e4⟩ := s111_end (n := n) (t := t) (l := l) (seen := AM.or .i64 seen (shl .i64 1 (c.oth p))) (tm := c.t) (sl := sl) s7
            refine ⟨v, [v13], g', by rw [hto] at e1 ⊢; exact e1, e2, e3, ?_⟩
            simpa [wayStep, hg', hto] using e4
          · obtain ⟨v, us, g', e1, e2, e3, e4⟩ := hrec c.t htm.1 htm.2 (c.oth p) (withP seen (c.oth p)) (w ++ [(i : Int)]) sl v13 h7 ⟨hoth.1, hoth.2.1⟩ (by simp; omega) hto (hsl5.ext x7) s7
            refine ⟨v, us, g', e1, e2, e3, ?_⟩
            simpa [wayStep, hg', hto, Function.comp_def] using e4
        have hkc : ∀ (K : Value → H → Option (Ex × List Value × H)), calls rn h7 111 [.agg #[iv n, sl], iv (c.oth p), iv t, iv (AM.or .i64 seen (shl .i64 1 (c.oth p))), iv c.t, v13] K = K v14 h8 := fun K => calls_eq (xs := [_, _, _, _, _, _]) e8
        have x58 := x7.trans x8
        have hlv : vs.length = acc.length := by rw [hss.1]; simp
        have hlu : vs'.length = (wayStep (waysF l t F) t p tm seen i c).length := by rw [ss8.1]; simp
        obtain ⟨v15, h9, e9, a9, n9, f9, _⟩ := (a5.ext x58).app app58 app58 s8 ss8.scal (by simp; omega) (by have := x58.nx; omega)
        have svb : ∀ q c, blkOf sv = some q → h5.blk q = some (.row c 3 true) → False := fun q c h1 h2 => by
          have := (a5.blkOf h1).2.2
          rw [this] at h2
          simp at h2
        have keep9 : ∀ v m, SlR h8 3 1 v (cellsI m) → SlR h9 3 1 v (cellsI m) := fun v m hm => slR_keep hm n9 fun q hq => f9 q (slR_bel hm hq) (fun e => by
          generalize cellsI m = L at hm
          cases hm with
          | nil => cases hq
          | at_ _ hr =>
            cases hq
            have := ((a5.ext x58).blkOf e).2.2
            rw [this] at hr
            simp at hr)
        have ssN : SsR h9 (vs ++ vs') ((acc ++ wayStep (waysF l t F) t p tm seen i c).map (w ++ ·)) := by
          rw [List.map_append]
          exact SsR.append ⟨by simpa using hlv, fun j v m hv hm => keep9 v m ((s5.2 j v m hv hm).ext x58)⟩ ⟨by simpa using hlu, fun j v m hv hm => keep9 v m (ss8.2 j v m hv hm)⟩
        refine ⟨[v15, iv ((i : Int) + 1)], h9, ?_, ⟨by have := x58.nx; rw [nx_new]; omega, fun q hq => ?_⟩, v15, vs ++ vs', by simpa using a9, ssN, hbd', rfl⟩
        · have hq1 : h3.nx < h5.nx := by omega
          have hq2 : g.nx < h5.nx := by omega
          have hlw : ∀ (K : Int → Option (Ex × List Value × H)), len wv K = K w.length := fun K => by rw [hwv5.len]; simp
          by_cases hA : c.a = p
          · have hcalc' := hcalc
            rw [hA] at hcalc'
            simp [cell_of hcb, cell_of hb5, rd_of hb5, show tm < c.t from htm.1, hA, hcalc', nn_ge hoth.1, hin, hlw, e11, hkb, hck1, hck2 _ hq1, hck2 _ hq2, e13, hck3 _ hq1, hck3 _ hq2, ck, hkc, e9, hadd]
          · have hB : c.b = p := by simpa [Kl.has, hA] using g_h
            have hcalc' := hcalc
            rw [hB] at hcalc'
            simp [cell_of hcb, cell_of hb5, rd_of hb5, show tm < c.t from htm.1, hA, hB, hcalc', nn_ge hoth.1, hin, hlw, e11, hkb, hck1, hck2 _ hq1, hck2 _ hq2, e13, hck3 _ hq1, hck3 _ hq2, ck, hkc, e9, hadd]
        · have hq' : q < g.nx + 1 := hq
          rw [f9 q (by have := x58.nx; omega) (fun e => by have := (a5.blkOf e).1; omega), x58.blk q (by omega)]
          exact x5.blk q hq
      · have hst0 : wayStep (waysF l t F) t p tm seen i c = [] := by simp [wayStep, hg]
        rw [hst0, List.append_nil] at hbd' ⊢
        refine ⟨[sv, iv ((i : Int) + 1)], h5, ?_, x5, sv, vs, a5, s5, hbd', rfl⟩
        by_cases g_t : tm < c.t
        · by_cases g_h : c.has p = true
          · have hoth := oth_ok hcok g_h
            have hcalc := oth_calc (by omega) hcok g_h
            have hin : AM.and .i64 (shr .i64 seen (c.oth p)) 1 = 1 := by
              have : goes c p tm seen = false := by simpa using hg
              simpa [goes, Int.not_le.2 g_t, g_h, inP] using this
            by_cases hA : c.a = p
            · have hcalc' := hcalc
              rw [hA] at hcalc'
              simp [cell_of hcb, cell_of hb5, rd_of hb5, g_t, hA, hcalc', nn_ge hoth.1, hin, hadd]
            · have hB : c.b = p := by simpa [Kl.has, hA] using g_h
              have hcalc' := hcalc
              rw [hB] at hcalc'
              simp [cell_of hcb, cell_of hb5, rd_of hb5, g_t, hA, hB, hcalc', nn_ge hoth.1, hin, hadd]
          · have hA : ¬ c.a = p := by intro e; simp [Kl.has, e] at g_h
            have hB : ¬ c.b = p := by intro e; simp [Kl.has, e] at g_h
            simp [cell_of hcb, cell_of hb5, g_t, hA, hB, hadd]
        · simp [cell_of hcb, cell_of hb5, g_t, hadd])
  refine ⟨sv, vs, g', x111 (k := 30) ?_ hap.slR.notR, x1.trans hx, hap.slR, by simpa [waysF] using hss⟩
  simp [f111, hpt, hsl.len, lp_eq hl]

end Go.AM

end

section

/- CallsWays, on the abstract machine. -/
namespace Go.AM
open Go.Proofs
variable {R : Type}
attribute [local simp] nx_eq nx_new nx_set blk_new blk_set asI_int asK_int asB_bool asP_ptr al_eq bx_eq len_slice onE_exit onE_ret onR_ret Value.cells d3 d29 d31 d56 d24 d59 d22 d25 d121 d89 d61 w3 w25 w121 cell_new cell_set rd_new rd_set off eq lt le ifB gv out eqF1 eqF2 eqF3 eqF4 eqF5 eqF6 eqF7 eqF8 ext20 ext21 k42 k72 k73 k74
theorem refOk {n t : Int} {l : List Kl} (hv : validP n l = true) : ∀ (f : Nat) (tm : Int), 31 - tm ≤ f → RefOk n t l (f + 1) tm := by
  intro f
  induction f with
  | zero => intro tm htm; exact ref_body hv 0 tm (fun tm' h1 h2 => by omega)
  | succ f ih => intro tm htm; exact ref_body hv (f + 1) tm (fun tm' h1 h2 => ih tm' (by omega))

theorem s98 {n s t : Int} {sl : Value} {l : List Kl} {h : H} (hs : SlR h 59 3 sl (l.map Kl.cells)) (hp : pairP n l s t = true) :
    ∃ v vs h', rn 98 #[.agg #[iv n, sl], iv s, iv t] h = some (v, h') ∧ Ext h h' ∧ SlR h' 25 1 v (cellsV vs) ∧ SsR h' vs (allWays l s t) := by
  obtain ⟨⟨⟨hv, hsn⟩, htn⟩, hst⟩ : ((validP n l = true ∧ (0 ≤ s ∧ s < n)) ∧ (0 ≤ t ∧ t < n)) ∧ s ≠ t := by simpa [pairP] using hp
  have x1 : Ext h (h.new (.row [iv n, sl] 24 true)) := .new _ _
  obtain ⟨v, vs, h', e, x, a, b⟩ := refOk hv 31 0 (by omega) s (shl .i64 1 s) [] sl (.slice none 0 0) _ hsn (by simp) hst (hs.ext x1) .nil
  have hc := fun (K : Value → H → Option (Value × H)) => calls_eq (K := K) (xs := [_, _, _, _, _, _]) e
  refine ⟨v, vs, h', x98 (k := 0) ?_ a.notR, x1.trans x, a, by simpa [allWays] using b⟩
  simp [f98, nn_ge hsn.1, hc]

theorem kbld108 (a b c : Int) (K : Value → Option R) : bld Try.prog 108 [(0, .int .i64 a), (1, .int .i64 b), (2, .int .i64 c)] K = K (.agg #[.int .i64 a, .int .i64 b, .int .i64 c]) := bld_some (by kernel_rfl)

theorem inx108 (a b c : Int) (k : Nat) (hk : k < 3) : index Try.prog 108 (.agg #[.int .i64 a, .int .i64 b, .int .i64 c]) (.int .i64 k) = some (.int .i64 ([a, b, c].getD k 0)) := by
  rcases (show k = 0 ∨ k = 1 ∨ k = 2 by omega) with rfl | rfl | rfl <;> kernel_rfl

theorem kinx108 (a b c : Int) {k : Nat} (hk : k < 3) (K : Value → Option R) : inx Try.prog 108 (.agg #[.int .i64 a, .int .i64 b, .int .i64 c]) k K = K (.int .i64 ([a, b, c].getD k 0)) := by
  unfold inx
  rw [inx108 a b c k hk]
  rfl

theorem ofK_eq (l : List Kl) (w : List Int) {k : Nat} (hk : k < 3) : [arrP l w, (w.length : Int), sub .i64 (arrP l w) (leaveP l w)].getD k 0 = ofK l k w := by
  rcases (show k = 0 ∨ k = 1 ∨ k = 2 by omega) with rfl | rfl | rfl <;> rfl

theorem time_ok {n : Int} {l : List Kl} (hv : validP n l = true) {i : Nat} {c : Kl} (hc : l[i]? = some c) : 1 ≤ c.t ∧ c.t ≤ 30 := by
  have := okC_iff.1 ((validP_ok hv).2.2.2 i c hc)
  exact this.2.2.2

theorem ofK_lt {n : Int} {l : List Kl} {w : List Int} {k : Nat} (hv : validP n l = true) (hw : okW l w) (hl : w.length ≤ 32) (hk : k < 3) : ofK l k w < 99 := by
  obtain ⟨x, c, h1, h2, h3, h4, h5⟩ := okW_last hw
  obtain ⟨y, d, g1, g2, g3, g4⟩ := okW_head hw
  have hc := time_ok hv h3
  have hd := time_ok hv g3
  rcases (show k = 0 ∨ k = 1 ∨ k = 2 by omega) with rfl | rfl | rfl
  · simp only [ofK]; omega
  · simp only [ofK]; omega
  · simp only [ofK, h4, g4]
    rw [sub64 (by omega) (by omega)]
    omega

theorem BestR.slR {o : Option (List Int)} {v : Value} {e : Int} {h : H} (b : BestR o v e h) : SlR h 3 1 v (cellsI (o.getD [])) ∧ e = (if o = none then 4 else 0) := by
  cases o with
  | none => obtain ⟨rfl, rfl⟩ := b; exact ⟨.nil, rfl⟩
  | some w => exact ⟨b.1, b.2.1⟩

theorem s70 {n s t : Int} {sl : Value} {l : List Kl} {h : H} {k : Nat} (hk : k < 3) (hs : SlR h 59 3 sl (l.map Kl.cells)) (hp : pairP n l s t = true) :
    ∃ v e h', rn 70 #[.agg #[iv n, sl], iv s, iv t, iv k] h = some (.tuple #[v, iv e], h') ∧ Ext h h' ∧ BestR (bestP (ofK l k) l s t) v e h' := by
  have hv : validP n l = true := by
    simp only [pairP, Bool.and_eq_true] at hp
    exact hp.1.1.1
  have x1 : Ext h (h.new (.row [iv n, sl] 24 true)) := .new _ _
  obtain ⟨v2, vs, h2, e, x2, a, b⟩ := s98 (n := n) (s := s) (t := t) (hs.ext x1) hp
  have hb2 : h2.blk h.nx = some (.row [iv n, sl] 24 true) := (x2.blk _ (Nat.lt_succ_self _)).trans (blk_new_self _ _)
  have hsl2 := hs.ext (x1.trans x2)
  have hall := fun w hw => allWays_ok (l := l) (s := s) (t := t) w hw
  have hlen32 : ∀ w ∈ allWays l s t, w.length ≤ 32 := fun w hw => (waysF_ok (n := 0) 32 _ _ _ w hw).2.1
  have hcnt : (allWays l s t).length ≤ 2 ^ 24 := by
    have := (ways_few (t := t) hv 32 s 0 (shl .i64 1 s) 0 (by omega) (fun _ _ _ _ => Nat.zero_le _)).1
    exact Nat.le_trans this (Nat.pow_le_pow_right (by omega) (by have := (validP_ok hv).2.2.1; omega))
  unfold bestP
  generalize allWays l s t = W at *
  have hvl := b.1
  obtain ⟨ws', h', hl, rfl, bv, few, hbv, hm⟩ := lp_for (F := f70_l1 rn (W.length + 1) k h v2 W.length) (k := W.length + 1) (l := W) (fun _ w (o : Option (List Int)) => betterP (ofK l k) o w)
    (fun i o ws g => g = h2 ∧ ∃ bv few, ws = [bv, iv few, iv i] ∧ match o with
      | none => bv = .slice none 0 0 ∧ few = 99
      | some w => SlR h2 3 1 bv (cellsI w) ∧ few = ofK l k w ∧ w ≠ []) 0 (ws := [.slice none 0 0, iv 99, iv 0]) (h := h2) (s0 := none)
    ⟨rfl, _, _, rfl, rfl, rfl⟩ (by omega)
    (by
      rintro o ws g ⟨rfl, bv, few, rfl, _⟩
      simp [f70_l1])
    (by
      rintro i w o ws g hw ⟨rfl, bv, few, rfl, hm⟩
      have hi := (List.getElem?_eq_some_iff.1 hw).1
      have hwm := List.mem_of_getElem? hw
      have hok := hall w hwm
      have hl32 := hlen32 w hwm
      obtain ⟨x, c, h1, h2', h3, h4, h5⟩ := okW_last hok
      obtain ⟨y, d, g1, g2, g3, g4⟩ := okW_head hok
      have hvi : vs[i]? = some (vs[i]'(by omega)) := List.getElem?_eq_getElem (by omega)
      have hsi := b.2 i _ w hvi hw
      generalize vs[i]'(by omega) = vi at *
      have e1 : ∀ (K : Value → Option (Ex × List Value × H)), (six v2 (i : Int) 1 fun b o => (g.cell b o).bind K) = K vi := fun K => a.c0 (by omega) (x := [vi]) (by simp [hvi]) rfl K
      have e2 : ∀ (K : Value → Option (Ex × List Value × H)), (six vi 0 1 fun b o => (g.cell b o).bind K) = K (iv y) := fun K => hsi.c0 (by omega) (x := [iv y]) (by simp [g1]) rfl K
      have e3 : ∀ (K : Value → Option (Ex × List Value × H)), (six vi (sub .i64 (w.length : Int) 1) 1 fun b o => (g.cell b o).bind K) = K (iv x) := fun K => by
        rw [sub64 (by omega) (by omega)]
        exact hsi.c0 (by omega) (x := [iv x]) (by rw [show ((w.length : Int) - 1).toNat = w.length - 1 by omega]; simp [h1]) rfl K
      have e4 : ∀ (K : Value → Option (Ex × List Value × H)), (six sl x 3 fun b o => (g.cell b (o + 2)).bind K) = K (iv c.t) := fun K => hsl2.cF h2' (x := c.cells) (by simp [h3]) rfl K
      have e5 : ∀ (K : Value → Option (Ex × List Value × H)), (six sl y 3 fun b o => (g.cell b (o + 2)).bind K) = K (iv d.t) := fun K => hsl2.cF g2 (x := d.cells) (by simp [g3]) rfl K
      have e6 : ∀ (K : Int → Option (Ex × List Value × H)), len vi K = K w.length := fun K => by rw [hsi.len]; simp
      have hadd : add .i64 (i : Int) 1 = (i : Int) + 1 := add64 (by omega) (by omega)
      have hK := ofK_eq l w hk
      rw [h4, g4] at hK
      have e7 : ∀ (K : Value → Option (Ex × List Value × H)), inx Try.prog 108 (.agg #[.int .i64 c.t, .int .i64 w.length, .int .i64 (sub .i64 c.t d.t)]) k K = K (iv (ofK l k w)) := fun K => by rw [kinx108 _ _ _ hk, hK]
      have hF : f70_l1 rn (W.length + 1) k h v2 W.length [bv, iv few, iv i] g = if ofK l k w < few then some (.normal, [vi, iv (ofK l k w), iv ((i : Int) + 1)], g) else some (.normal, [bv, iv few, iv ((i : Int) + 1)], g) := by
        simp [f70_l1, hi, e1, e2, e3, e4, e5, e6, e7, cell_of hb2, kbld108, hadd]
      rw [hF]
      cases o with
      | none =>
        obtain ⟨rfl, rfl⟩ := hm
        have := ofK_lt hv hok hl32 hk
        rw [if_pos this]
        exact ⟨_, _, rfl, rfl, vi, _, rfl, hsi, rfl, hok.1⟩
      | some w0 =>
        obtain ⟨q1, rfl, q3⟩ := hm
        by_cases hlt : ofK l k w < ofK l k w0
        · rw [if_pos hlt]
          have hb : betterP (ofK l k) (some w0) w = some w := by simp only [betterP, hlt, if_true]
          rw [hb]
          exact ⟨[vi, iv (ofK l k w), iv ((i : Int) + 1)], g, rfl, rfl, vi, ofK l k w, rfl, hsi, rfl, hok.1⟩
        · rw [if_neg hlt]
          have hb : betterP (ofK l k) (some w0) w = some w0 := by simp only [betterP, hlt, if_false]
          rw [hb]
          exact ⟨[bv, iv (ofK l k w0), iv ((i : Int) + 1)], g, rfl, rfl, bv, ofK l k w0, rfl, q1, rfl, q3⟩)
  rw [foldI_foldl] at hm
  subst hbv
  have c1 := fun (K : Value → H → Option (Value × H)) => calls_eq (K := K) (xs := [_, _, _]) e
  have hlv : ∀ (K : Int → Option (Value × H)), len v2 K = K W.length := fun K => by rw [a.len, List.length_map, hvl]
  generalize W.foldl (fun o w => betterP (ofK l k) o w) none = o at *
  cases o with
  | none =>
    obtain ⟨rfl, _⟩ := hm
    refine ⟨.slice none 0 0, 4, h', x70 (k := W.length + 1) ?_ rfl, x1.trans x2, rfl, rfl⟩
    simp [f70, c1, hlv, lp_eq hl, eqv, nil25]
  | some w =>
    obtain ⟨q1, _, q3⟩ := hm
    have hnb : ∃ b o n c, bv = .slice (some ⟨b, o, none⟩) n c := by
      generalize hL : cellsI w = L at q1
      cases q1 with
      | nil => simp at hL; exact absurd hL q3
      | at_ => exact ⟨_, _, _, _, rfl⟩
    obtain ⟨b0, o0, n0, c0, hbv⟩ := hnb
    refine ⟨bv, 0, h', x70 (k := W.length + 1) ?_ q1.notR2, x1.trans x2, q1, rfl, q3⟩
    simp [f70, c1, hlv, lp_eq hl, eqv, hbv, some25]

theorem s23 {n s t : Int} {sl : Value} {l : List Kl} {h : H} (hs : SlR h 59 3 sl (l.map Kl.cells)) (hp : pairP n l s t = true) :
    ∃ v e h', rn 23 #[.agg #[iv n, sl], iv s, iv t] h = some (.tuple #[v, iv e], h') ∧ Ext h h' ∧ BestR (bestP (ofK l 0) l s t) v e h' := by
  have x1 : Ext h (h.new (.row [iv n, sl] 24 true)) := .new _ _
  obtain ⟨v, e, h', e1, x, b⟩ := s70 (k := 0) (by omega) (hs.ext x1) hp
  have hc := fun (K : Value → H → Option (Value × H)) => calls_eq (K := K) (xs := [_, _, _, iv 0]) e1
  exact ⟨v, e, h', x23 (k := 0) (by simp [f23, hc]) b.plain, x1.trans x, b⟩

theorem s24 {n s t : Int} {sl : Value} {l : List Kl} {h : H} (hs : SlR h 59 3 sl (l.map Kl.cells)) (hp : pairP n l s t = true) :
    ∃ v e h', rn 24 #[.agg #[iv n, sl], iv s, iv t] h = some (.tuple #[v, iv e], h') ∧ Ext h h' ∧ BestR (bestP (ofK l 1) l s t) v e h' := by
  have x1 : Ext h (h.new (.row [iv n, sl] 24 true)) := .new _ _
  obtain ⟨v, e, h', e1, x, b⟩ := s70 (k := 1) (by omega) (hs.ext x1) hp
  have hc := fun (K : Value → H → Option (Value × H)) => calls_eq (K := K) (xs := [_, _, _, iv 1]) e1
  exact ⟨v, e, h', x24 (k := 0) (by simp [f24, hc]) b.plain, x1.trans x, b⟩

theorem s25 {n s t : Int} {sl : Value} {l : List Kl} {h : H} (hs : SlR h 59 3 sl (l.map Kl.cells)) (hp : pairP n l s t = true) :
    ∃ v e h', rn 25 #[.agg #[iv n, sl], iv s, iv t] h = some (.tuple #[v, iv e], h') ∧ Ext h h' ∧ BestR (bestP (ofK l 2) l s t) v e h' := by
  have x1 : Ext h (h.new (.row [iv n, sl] 24 true)) := .new _ _
  obtain ⟨v, e, h', e1, x, b⟩ := s70 (k := 2) (by omega) (hs.ext x1) hp
  have hc := fun (K : Value → H → Option (Value × H)) => calls_eq (K := K) (xs := [_, _, _, iv 2]) e1
  exact ⟨v, e, h', x25 (k := 0) (by simp [f25, hc]) b.plain, x1.trans x, b⟩

theorem s3 {n s t : Int} {sl : Value} {l : List Kl} {h : H} (hs : SlR h 59 3 sl (l.map Kl.cells)) : ∃ h', rn 3 #[.agg #[iv n, sl], iv s, iv t] h = some (.bool true, h') := by
  have x1 : Ext h (h.new (.row [iv n, sl] 24 true)) := .new _ _
  have b1 : (h.new (.row [iv n, sl] 24 true)).blk h.nx = some (.row [iv n, sl] 24 true) := blk_new_self _ _
  have n1 : h.nx < (h.new (.row [iv n, sl] 24 true)).nx := Nat.lt_succ_self _
  have start : ∃ h1, f3 rn 0 (.agg #[iv n, sl]) s t h = some (.bool true, h1) := by
    unfold f3
    rw [bx_eq, nx_eq, show (Value.agg #[iv n, sl]).cells.toList = [iv n, sl] from rfl]
    generalize h.new (.row [iv n, sl] 24 true) = h1 at *
    have ld1 : ∀ (g : H), Ext h1 g → ∀ (K : Value → Option (Value × H)), ld Try.prog g 24 h.nx 0 K = K (.agg #[iv n, sl]) := fun g x K => by
      rw [d24, rd_all (n := 2) ((x.blk _ n1).trans b1) rfl]; rfl
    obtain ⟨la, h2, e2, x2, s2⟩ := s18 (n := n) (hs.ext x1)
    rw [ld1 _ (.refl _), calls_eq (xs := [_]) e2]
    cases hp : pairP n l s t with
    | true =>
      have hv : validP n l = true := by
        simp only [pairP, Bool.and_eq_true] at hp
        exact hp.1.1.1
      have hl : l.take 26 = l := List.take_of_length_le (by have := (validP_ok hv).2.2.1; omega)
      rw [hl] at s2
      obtain ⟨va, ea, h3, e3, x3, ba⟩ := s17 s2 hp
      rw [calls_eq (xs := [_, _, _]) e3, ext20, ext21, asI_int]
      have x13 := x2.trans x3
      rw [ld1 _ x13]
      obtain ⟨lb, h4, e4, x4, s4⟩ := s18 (n := n) (hs.ext (x1.trans x13))
      rw [calls_eq (xs := [_]) e4]
      rw [hl] at s4
      have x14 := x13.trans x4
      obtain ⟨vb, eb, h5, e5, x5, bb⟩ := s19 s4 hp
      rw [calls_eq (xs := [_, _, _]) e5, ext20, ext21, asI_int]
      have x15 := x14.trans x5
      rw [ld1 _ x15]
      obtain ⟨lc, h6, e6, x6, s6⟩ := s18 (n := n) (hs.ext (x1.trans x15))
      rw [calls_eq (xs := [_]) e6]
      rw [hl] at s6
      have x16 := x15.trans x6
      obtain ⟨vc, ec, h7, e7, x7, bc⟩ := s20 s6 hp
      rw [calls_eq (xs := [_, _, _]) e7, ext20, ext21, asI_int]
      have x17 := x16.trans x7
      rw [ld1 _ x17, calls_eq (xs := [_, _, _]) (s21 (n := n) (s := s) (t := t) (hs.ext (x1.trans x17))), asB_bool, hp, Bool.not_true, ifB_false, ld1 _ x17]
      obtain ⟨vd, ed, h8, e8, x8, bd⟩ := s23 (hs.ext (x1.trans x17)) hp
      rw [calls_eq (xs := [_, _, _]) e8, ext20, ext21, asI_int]
      have x18 := x17.trans x8
      rw [ld1 _ x18]
      obtain ⟨ve, ee, h9, e9, x9, be⟩ := s24 (hs.ext (x1.trans x18)) hp
      rw [calls_eq (xs := [_, _, _]) e9, ext20, ext21, asI_int]
      have x19 := x18.trans x9
      rw [ld1 _ x19]
      obtain ⟨vf, ef, h10, e10, x10, bf⟩ := s25 (hs.ext (x1.trans x19)) hp
      rw [calls_eq (xs := [_, _, _]) e10, ext20, ext21, asI_int]
      rw [k26 (ba.slR.1.ext (x4.trans (x5.trans (x6.trans (x7.trans (x8.trans (x9.trans x10))))))) (bd.slR.1.ext (x9.trans x10)), asB_bool, decide_eq_true rfl, ifB_true]
      rw [k26 (bb.slR.1.ext (x6.trans (x7.trans (x8.trans (x9.trans x10))))) (be.slR.1.ext x10), asB_bool, decide_eq_true rfl, ifB_true]
      rw [k26 (bc.slR.1.ext (x8.trans (x9.trans x10))) bf.slR.1, asB_bool, decide_eq_true rfl, ifB_true]
      rw [eq_t (ba.slR.2.trans bd.slR.2.symm), ifB_true, eq_t (bb.slR.2.trans be.slR.2.symm), ifB_true, eq_t (bc.slR.2.trans bf.slR.2.symm), ifB_true, k22, asB_bool]
      exact ⟨_, rfl⟩
    | false =>
      have hp' : pairP n (l.take 26) s t = false := by rw [pairP_take]; exact hp
      obtain ⟨h3, e3, x3⟩ := s17_bad s2 hp'
      rw [calls_eq (xs := [_, _, _]) e3, ext20, ext21, asI_int]
      have x13 := x2.trans x3
      rw [ld1 _ x13]
      obtain ⟨lb, h4, e4, x4, s4⟩ := s18 (n := n) (hs.ext (x1.trans x13))
      rw [calls_eq (xs := [_]) e4]
      have x14 := x13.trans x4
      obtain ⟨h5, e5, x5⟩ := s19_bad s4 hp'
      rw [calls_eq (xs := [_, _, _]) e5, ext20, ext21, asI_int]
      have x15 := x14.trans x5
      rw [ld1 _ x15]
      obtain ⟨lc, h6, e6, x6, s6⟩ := s18 (n := n) (hs.ext (x1.trans x15))
      rw [calls_eq (xs := [_]) e6]
      have x16 := x15.trans x6
      obtain ⟨h7, e7, x7⟩ := s20_bad s6 hp'
      rw [calls_eq (xs := [_, _, _]) e7, ext20, ext21, asI_int]
      have x17 := x16.trans x7
      rw [ld1 _ x17, calls_eq (xs := [_, _, _]) (s21 (n := n) (s := s) (t := t) (hs.ext (x1.trans x17))), asB_bool, hp]
      refine ⟨h7, ?_⟩
      have h00 : add .i64 (add .i64 0 0) 0 = 0 := by decide
      simp [k22, h00]
  obtain ⟨h1, e⟩ := start
  exact ⟨_, t3 e⟩

end Go.AM

end

section

/- Check: a way in time; and it is one of all ways. -/
namespace Go.AM
open Go.Proofs
variable {R : Type}
attribute [local simp] nx_eq nx_new nx_set blk_new blk_set asI_int asK_int asB_bool asP_ptr al_eq bx_eq len_slice onE_exit onE_ret onR_ret Value.cells d3 d29 d31 d56 d24 d59 d22 d25 w3 cell_new cell_set rd_new rd_set off eq lt le ifB gv out eqF1 eqF2 eqF3 eqF4 eqF5 eqF6 eqF7 eqF8 ext20 ext21 k42 k72 k73 k74
/-- One step along a way: where, when, whom it met; none: it is no way. -/
def stepP (l : List Kl) (t : Int) (s : Int × Int × Int) (i : Int) : Option (Int × Int × Int) :=
  if i < 0 ∨ (l.length : Int) ≤ i ∨ s.1 = t then none
  else match l[i.toNat]? with
    | none => none
    | some c => if goes c s.1 s.2.1 s.2.2 = true then some (c.oth s.1, c.t, withP s.2.2 (c.oth s.1)) else none

/-- Is a slice a way on from somewhere? -/
def goW (l : List Kl) (t : Int) : List Int → Int × Int × Int → Bool
  | [], s => decide (s.1 = t)
  | i :: w, s => match stepP l t s i with
    | none => false
    | some s' => goW l t w s'

def checkP (l : List Kl) (s t : Int) (w : List Int) : Bool := goW l t w (s, 0, shl .i64 1 s)

theorem goW_itL (l : List Kl) (t : Int) : ∀ (w : List Int) (i : Nat) (s : Int × Int × Int), goW l t w s = match itL (ρ := Unit) (fun _ x s => match stepP l t s x with | some s' => .inl s' | none => .inr ()) w i s with
    | .inl s' => decide (s'.1 = t)
    | .inr _ => false := by
  intro w
  induction w with
  | nil => intro i s; rfl
  | cons x w ih =>
    intro i s
    simp only [goW, itL]
    cases stepP l t s x with
    | none => rfl
    | some s' => exact ih (i + 1) s'

theorem s27 {n s t : Int} {sl v1 : Value} {l : List Kl} {way : List Int} {h : H} (hs : SlR h 56 3 sl (l.map Kl.cells)) (hw : SlR h 3 1 v1 (cellsI way)) :
    rn 27 #[.agg #[iv n, sl], iv s, iv t, v1] h = some (.tuple #[.bool (pairP n l s t && checkP l s t way), iv (if pairP n l s t = true then 0 else 2)], h) := by
  have hlen := hw.lt62
  rw [List.length_map] at hlen
  have x1 : Ext h (h.new (.row [iv n, sl] 31 true)) := .new _ _
  have b1 : (h.new (.row [iv n, sl] 31 true)).blk h.nx = some (.row [iv n, sl] 31 true) := blk_new_self _ _
  have n1 : h.nx < (h.new (.row [iv n, sl] 31 true)).nx := Nat.lt_succ_self _
  have hs1 := hs.ext x1
  have hw1 := hw.ext x1
  have key : ∃ h1, Ext h h1 ∧ f27 rn (way.length + 1) (.agg #[iv n, sl]) s t v1 h = some (.tuple #[.bool (pairP n l s t && checkP l s t way), iv (if pairP n l s t = true then 0 else 2)], h1) := by
    by_cases hp : pairP n l s t = true
    · obtain ⟨⟨⟨hv, hsn⟩, htn⟩, hst⟩ : ((validP n l = true ∧ (0 ≤ s ∧ s < n)) ∧ (0 ≤ t ∧ t < n)) ∧ s ≠ t := by simpa [pairP] using hp
      obtain ⟨hn1, hn7, hl24, hok⟩ := validP_ok hv
      obtain ⟨e, ws', h', hl, hq⟩ := lp_rel (σ := Int × Int × Int) (ρ := Unit) (F := f27_l1 rn (way.length + 1) t v1 h way.length) (k := way.length + 1) (l := way) (fun _ x s => match stepP l t s x with | some s' => .inl s' | none => .inr ())
        (fun i st ws g => Ext (h.new (.row [iv n, sl] 31 true)) g ∧ (0 ≤ st.1 ∧ st.1 < n) ∧ ∃ x y, ws = [x, y, iv st.1, iv st.2.1, iv st.2.2, iv i])
        (fun _ e ws g => Ext (h.new (.row [iv n, sl] 31 true)) g ∧ e = .ret ∧ gv ws 0 = .bool false ∧ gv ws 1 = iv 0) 0 (ws := [.bool false, iv 0, iv s, iv 0, iv (shl .i64 1 s), iv 0]) (h := h.new (.row [iv n, sl] 31 true)) (s0 := (s, 0, shl .i64 1 s))
        ⟨.refl _, hsn, _, _, rfl⟩ (by omega)
        (by
          rintro st ws g ⟨_, _, x, y, rfl⟩
          simp [f27_l1])
        (by
          rintro i j ⟨p, tm, seen⟩ ws g hj ⟨hx, hp, x, y, rfl⟩
          simp only at hp
          have hi := (List.getElem?_eq_some_iff.1 hj).1
          have e1 : ∀ (K : Value → Option (Ex × List Value × H)), (six v1 (i : Int) 1 fun b o => (g.cell b o).bind K) = K (iv j) := fun K => (hw1.ext hx).c0 (by omega) (x := [iv j]) (by simp [hj]) rfl K
          have hbx : g.blk h.nx = some (.row [iv n, sl] 31 true) := (hx.blk _ n1).trans b1
          have hadd : add .i64 (i : Int) 1 = (i : Int) + 1 := add64 (by omega) (by omega)
          by_cases hbad : j < 0 ∨ (l.length : Int) ≤ j ∨ p = t
          · have hst0 : stepP l t (p, tm, seen) j = none := by unfold stepP; rw [if_pos hbad]
            refine ⟨.ret, [.bool false, iv 0, iv p, iv tm, iv seen, iv i], g, ?_, ?_⟩
            · simp [f27_l1, hi, e1, cell_of hbx, hs.len]
              grind
            · rw [hst0]
              exact ⟨by simp, hx, rfl, rfl, rfl⟩
          · simp only [not_or, Int.not_lt, Int.not_le] at hbad
            obtain ⟨hb1, hb2, hb3⟩ := hbad
            have hc : l[j.toNat]? = some (l[j.toNat]'(by omega)) := List.getElem?_eq_getElem (by omega)
            generalize l[j.toNat]'(by omega) = c at *
            have hcok := hok _ _ hc
            have y7 := (Ext.refl g).fresh 56 [iv 0, iv 0, iv 0] c.cells
            have hcb := blk_fresh g 56 [iv 0, iv 0, iv 0] c.cells
            have n7 : (g.fresh 56 [iv 0, iv 0, iv 0] c.cells).nx = g.nx + 1 := rfl
            have e2 : ∀ (K : Value → Option (Ex × List Value × H)), (six sl j 3 fun b o => (g.rd b o 3).bind fun l => K (.agg l.toArray)) = K c.val := fun K => (hs1.ext hx).cA hb1 (x := c.cells) (by simp [hc]) K
            have hst1 : stepP l t (p, tm, seen) j = if goes c p tm seen = true then some (c.oth p, c.t, withP seen (c.oth p)) else none := by
              unfold stepP
              rw [if_neg (by simp only [not_or, Int.not_lt, Int.not_le]; exact ⟨hb1, hb2, hb3⟩), hc]
            have hF : f27_l1 rn (way.length + 1) t v1 h way.length [x, y, iv p, iv tm, iv seen, iv i] g = if goes c p tm seen = true then some (.normal, [x, y, iv (c.oth p), iv c.t, iv (withP seen (c.oth p)), iv ((i : Int) + 1)], g.fresh 56 [iv 0, iv 0, iv 0] c.cells)
                else some (.ret, [.bool false, iv 0, iv p, iv tm, iv seen, iv i], g.fresh 56 [iv 0, iv 0, iv 0] c.cells) := by
              unfold f27_l1
              rw [show gv [x, y, iv p, iv tm, iv seen, iv i] 5 = iv i from rfl, show gv [x, y, iv p, iv tm, iv seen, iv i] 2 = iv p from rfl, show gv [x, y, iv p, iv tm, iv seen, iv i] 3 = iv tm from rfl,
                show gv [x, y, iv p, iv tm, iv seen, iv i] 4 = iv seen from rfl, show gv [x, y, iv p, iv tm, iv seen, iv i] 0 = x from rfl, show gv [x, y, iv p, iv tm, iv seen, iv i] 1 = y from rfl]
              rw [asI_int, lt_t (by omega), ifB_true, asK_int, (hw1.ext hx).ld0 ag3 (by omega) (x := [iv j]) (by simp [hj]) (y := iv j) rfl, asI_int, lt_f (by omega), ifB_false, nx_eq, d29, cell_of hbx, show [iv n, sl][off 0 1]? = some sl from rfl, Option.bind_some, hs.len, List.length_map,
                le_f (by omega), ifB_false, asI_int, eq_f hb3, ifB_false, d29, cell_of hbx, show [iv n, sl][off 0 1]? = some sl from rfl, Option.bind_some, (hs1.ext hx).ldA ag56 sz56 hb1 (x := c.cells) (by simp [hc]), al_st (zs := [iv 0, iv 0, iv 0]) (xs := c.cells) sz56 rfl rfl]
              generalize g.fresh 56 [iv 0, iv 0, iv 0] c.cells = h7 at *
              simp only [Kl.cells] at hcb
              have hck : freq g.nx h7.nx (same h7 h7) = true := by simp [freq, same]; omega
              by_cases g_h : c.has p = true
              · have hoth := oth_ok hcok g_h
                have hcalc := oth_calc (by omega) hcok g_h
                simp [cell_of hcb, rd_of hcb, g_h, hcalc, nn_ge hoth.1, hck, ck, hadd, goes, inP, withP]
                grind
              · simp [rd_of hcb, g_h, goes]
            rw [hF, hst1]
            by_cases hg : goes c p tm seen = true
            · rw [if_pos hg, if_pos hg]
              have hoth := oth_ok hcok (by simp only [goes, Bool.and_eq_true] at hg; exact hg.1.2)
              exact ⟨_, _, _, rfl, rfl, hx.trans y7, ⟨hoth.1, hoth.2.1⟩, x, y, rfl⟩
            · rw [if_neg hg, if_neg hg]
              exact ⟨_, _, _, rfl, by simp, hx.trans y7, rfl, rfl, rfl⟩)
      have hgo := goW_itL l t way 0 (s, 0, shl .i64 1 s)
      have hd1 : decide (0 ≤ s ∧ s < n) = true := decide_eq_true hsn
      have hd2 : decide (0 ≤ t ∧ t < n) = true := decide_eq_true htn
      cases hit : itL (ρ := Unit) (fun _ x s => match stepP l t s x with | some s' => .inl s' | none => .inr ()) way 0 (s, 0, shl .i64 1 s) with
      | inl st =>
        rw [hit] at hq hgo
        obtain ⟨rfl, hx, hp', x, y, rfl⟩ := hq
        refine ⟨h', x1.trans hx, ?_⟩
        simp [f27, k71 hs1, hv, hsn, htn, hst, nn_ge hsn.1, hw.len, lp_eq hl, hp, checkP, hgo]
        exact Bool.eq_iff_iff.2 (by simp)
      | inr r =>
        rw [hit] at hq hgo
        obtain ⟨_, hx, rfl, hg0, hg1⟩ := hq
        simp only [gv] at hg0 hg1
        refine ⟨h', x1.trans hx, ?_⟩
        simp [f27, k71 hs1, hv, hsn, htn, hst, nn_ge hsn.1, hw.len, lp_eq hl, hp, checkP, hgo]
        rw [List.getD_eq_getElem?_getD] at hg0 hg1
        exact ⟨hg0, hg1⟩
    · refine ⟨_, x1, ?_⟩
      have hp0 : pairP n l s t = false := by simpa using hp
      rw [hp0]
      simp only [pairP, Bool.and_eq_false_iff] at hp0
      cases hv : validP n l with
      | false => simp [f27, k71 hs1, hv]
      | true =>
        simp [f27, k71 hs1, hv]
        grind
  obtain ⟨h1, e1, e2⟩ := key
  exact p27 e2 rfl e1

end Go.AM

end

section

/- Ways, arrivals and news: who can be reached, and when. -/
namespace Go.AM
open Go.Proofs
/-- A way on, call by call. -/
def runP (l : List Kl) : List Int → Int × Int × Int → Option (Int × Int × Int)
  | [], st => some st
  | i :: w, st => if 0 ≤ i ∧ i < l.length then
      match l[i.toNat]? with
      | none => none
      | some c => if goes c st.1 st.2.1 st.2.2 = true then runP l w (c.oth st.1, c.t, withP st.2.2 (c.oth st.1)) else none
    else none

/-- A state with a set of people below n. -/
def Wf (n : Int) (st : Int × Int × Int) : Prop := ∃ k : Nat, st.2.2 = (k : Int) ∧ k < 2 ^ 7 ∧ (0 ≤ st.1 ∧ st.1 < n) ∧ k.testBit st.1.toNat = true

theorem withP_nat {k : Nat} {p : Int} (hk : k < 2 ^ 7) (hp : 0 ≤ p ∧ p < 7) : withP (k : Int) p = ((k ||| 2 ^ p.toNat : Nat) : Int) ∧ k ||| 2 ^ p.toNat < 2 ^ 7 := by
  obtain ⟨m, rfl⟩ := Int.eq_ofNat_of_zero_le hp.1
  have hm : 2 ^ m < 2 ^ 7 := Nat.pow_lt_pow_right (by omega) (by omega)
  unfold withP
  rw [shl1_nat (by omega), or_nat (by omega) (by omega)]
  exact ⟨rfl, Nat.or_lt_two_pow hk hm⟩

theorem inP_nat {k : Nat} {p : Int} (hk : k < 2 ^ 7) (hp : 0 ≤ p ∧ p < 7) : inP (k : Int) p = k.testBit p.toNat := by
  obtain ⟨m, rfl⟩ := Int.eq_ofNat_of_zero_le hp.1
  unfold inP
  rw [bit_nat (by omega) (by omega)]
  simp only [Int.toNat_natCast]
  cases k.testBit m <;> rfl

theorem goes_spec {n : Int} {c : Kl} {st : Int × Int × Int} (hn : n ≤ 7) (hc : okC n c = true) (hg : goes c st.1 st.2.1 st.2.2 = true) : st.2.1 < c.t ∧ c.has st.1 = true ∧ inP st.2.2 (c.oth st.1) = false ∧ 0 ≤ c.oth st.1 ∧ c.oth st.1 < n := by
  simp only [goes, Bool.and_eq_true, Bool.not_eq_true', decide_eq_false_iff_not, Int.not_le] at hg
  have := oth_ok hc hg.1.2
  exact ⟨hg.1.1, hg.1.2, hg.2, this.1, this.2.1⟩

theorem run_keep {n : Int} {l : List Kl} (hv : validP n l = true) : ∀ (w : List Int) (st st' : Int × Int × Int), Wf n st → runP l w st = some st' → Wf n st' ∧ (∀ q : Nat, ∀ k k' : Nat, st.2.2 = (k : Int) → st'.2.2 = (k' : Int) → k.testBit q = true → k'.testBit q = true) ∧
    (w ≠ [] → ∀ k : Nat, st.2.2 = (k : Int) → k.testBit st'.1.toNat = false) ∧ st.2.1 ≤ st'.2.1 ∧ (∀ i ∈ w, 0 ≤ i ∧ ∃ c, l[i.toNat]? = some c ∧ c.t ≤ st'.2.1 ∧ st.2.1 < c.t) := by
  obtain ⟨hn1, hn7, hl24, hok⟩ := validP_ok hv
  intro w
  induction w with
  | nil =>
    intro st st' hw h
    cases h
    exact ⟨hw, fun q k k' h1 h2 h3 => by rw [h1] at h2; have : k = k' := by omega
                                         subst this; exact h3, fun h => absurd rfl h, Int.le_refl _, by simp⟩
  | cons i w ih =>
    intro st st' hw h
    simp only [runP] at h
    split at h
    · rename_i hi
      split at h
      · cases h
      · rename_i c hc
        split at h
        · rename_i hg
          obtain ⟨g1, g2, g3, g4, g5⟩ := goes_spec hn7 (hok _ _ hc) hg
          obtain ⟨k, hk, hk7, hp, hkp⟩ := hw
          obtain ⟨e1, e2⟩ := withP_nat (p := c.oth st.1) hk7 ⟨g4, by omega⟩
          have hw1 : Wf n (c.oth st.1, c.t, withP st.2.2 (c.oth st.1)) := ⟨_, by rw [hk]; exact e1, e2, ⟨g4, g5⟩, by simp [Nat.testBit_or, testBit_pow]⟩
          obtain ⟨q1, q2, q3, q4, q5⟩ := ih _ _ hw1 h
          refine ⟨q1, fun q k0 k' h1 h2 h3 => ?_, fun _ k0 h1 => ?_, by simp only at q4; omega, fun j hj => ?_⟩
          · have : k0 = k := by rw [hk] at h1; omega
            subst this
            exact q2 q _ k' (by simp only; rw [hk]; exact e1) h2 (by rw [Nat.testBit_or, h3]; rfl)
          · have : k0 = k := by rw [hk] at h1; omega
            subst this
            cases w with
            | nil =>
              cases h
              rw [hk, inP_nat hk7 ⟨g4, by omega⟩] at g3
              exact g3
            | cons j w =>
              have := q3 (by simp) _ (by simp only; rw [hk]; exact e1)
              rw [Nat.testBit_or] at this
              simp only [Bool.or_eq_false_iff] at this
              exact this.1
          · simp only [List.mem_cons] at hj
            rcases hj with rfl | hj
            · exact ⟨hi.1, c, hc, by simpa using q4, g1⟩
            · obtain ⟨a1, d, a2, a3, a4⟩ := q5 j hj
              exact ⟨a1, d, a2, a3, by simp only at a4; omega⟩
        · cases h
    · cases h

theorem goW_iff {n t : Int} {l : List Kl} (hv : validP n l = true) : ∀ (w : List Int) (st : Int × Int × Int), Wf n st → (goW l t w st = true ↔ ∃ st', runP l w st = some st' ∧ st'.1 = t) := by
  obtain ⟨hn1, hn7, hl24, hok⟩ := validP_ok hv
  intro w
  induction w with
  | nil => intro st _; simp [goW, runP]
  | cons i w ih =>
    intro st hw
    constructor
    · intro h
      simp only [goW] at h
      cases hs : stepP l t st i with
      | none => rw [hs] at h; cases h
      | some s' =>
        rw [hs] at h
        simp only at h
        unfold stepP at hs
        split at hs
        · cases hs
        · rename_i hb
          simp only [not_or, Int.not_lt, Int.not_le] at hb
          split at hs
          · cases hs
          · rename_i c hc
            split at hs
            · rename_i hg
              cases hs
              obtain ⟨g1, g2, g3, g4, g5⟩ := goes_spec hn7 (hok _ _ hc) hg
              obtain ⟨k, hk, hk7, hp, hkp⟩ := hw
              obtain ⟨e1, e2⟩ := withP_nat (p := c.oth st.1) hk7 ⟨g4, by omega⟩
              have hw1 : Wf n (c.oth st.1, c.t, withP st.2.2 (c.oth st.1)) := ⟨_, by rw [hk]; exact e1, e2, ⟨g4, g5⟩, by simp [Nat.testBit_or, testBit_pow]⟩
              obtain ⟨st', h1, h2⟩ := (ih _ hw1).1 h
              refine ⟨st', ?_, h2⟩
              simp only [runP]
              rw [if_pos ⟨hb.1, hb.2.1⟩, hc]
              simp only
              rw [if_pos hg]
              exact h1
            · cases hs
    · rintro ⟨st', h, h2⟩
      obtain ⟨_, _, q3, _, _⟩ := run_keep hv (i :: w) st st' hw h
      simp only [runP] at h
      split at h
      · rename_i hi
        split at h
        · cases h
        · rename_i c hc
          split at h
          · rename_i hg
            obtain ⟨g1, g2, g3, g4, g5⟩ := goes_spec hn7 (hok _ _ hc) hg
            obtain ⟨k, hk, hk7, hp, hkp⟩ := hw
            obtain ⟨e1, e2⟩ := withP_nat (p := c.oth st.1) hk7 ⟨g4, by omega⟩
            have hw1 : Wf n (c.oth st.1, c.t, withP st.2.2 (c.oth st.1)) := ⟨_, by rw [hk]; exact e1, e2, ⟨g4, g5⟩, by simp [Nat.testBit_or, testBit_pow]⟩
            have hne : st.1 ≠ t := by
              intro e
              have := q3 (by simp) k hk
              rw [h2, ← e, hkp] at this
              cases this
            have hst : stepP l t st i = some (c.oth st.1, c.t, withP st.2.2 (c.oth st.1)) := by
              unfold stepP
              rw [if_neg (by simp only [not_or, Int.not_lt, Int.not_le]; exact ⟨hi.1, hi.2, hne⟩), hc]
              simp only
              rw [if_pos hg]
            simp only [goW]
            rw [hst]
            exact (ih _ hw1).2 ⟨st', h, h2⟩
          · cases h
      · cases h

theorem mem_ways {n t : Int} {l : List Kl} (hv : validP n l = true) : ∀ (F : Nat) (p tm seen : Int) (w : List Int), 31 - tm ≤ F → p ≠ t → (w ∈ waysF l t (F + 1) p tm seen ↔ goW l t w (p, tm, seen) = true) := by
  obtain ⟨hn1, hn7, hl24, hok⟩ := validP_ok hv
  intro F
  induction F with
  | zero =>
    intro p tm seen w hF hp
    simp only [waysF]
    rw [mem_app]
    constructor
    · rintro (h | ⟨j, c, hc, h⟩)
      · simp at h
      · unfold wayStep at h
        split at h
        · rename_i hg
          have h1 : tm < c.t := by simp only [goes, Bool.and_eq_true, Bool.not_eq_true', decide_eq_false_iff_not, Int.not_le] at hg; exact hg.1.1
          have := (time_ok hv hc).2
          omega
        · simp at h
    · intro h
      cases w with
      | nil => simp [goW, hp] at h
      | cons i w =>
        simp only [goW] at h
        cases hs : stepP l t (p, tm, seen) i with
        | none => rw [hs] at h; cases h
        | some s' =>
          unfold stepP at hs
          split at hs
          · cases hs
          · split at hs
            · cases hs
            · rename_i c hc
              split at hs
              · rename_i hg
                have h1 : tm < c.t := by simp only [goes, Bool.and_eq_true, Bool.not_eq_true', decide_eq_false_iff_not, Int.not_le] at hg; exact hg.1.1
                have := (time_ok hv hc).2
                omega
              · cases hs
  | succ F ih =>
    intro p tm seen w hF hp
    rw [waysF, mem_app]
    constructor
    · rintro (h | ⟨j, c, hc, h⟩)
      · simp at h
      · have hj := (List.getElem?_eq_some_iff.1 hc).1
        rw [Nat.zero_add] at h
        unfold wayStep at h
        split at h
        · rename_i hg
          have h1 : tm < c.t := by simp only [goes, Bool.and_eq_true, Bool.not_eq_true', decide_eq_false_iff_not, Int.not_le] at hg; exact hg.1.1
          have hst : stepP l t (p, tm, seen) (j : Int) = some (c.oth p, c.t, withP seen (c.oth p)) := by
            unfold stepP
            rw [if_neg (by simp only [not_or, Int.not_lt, Int.not_le]; exact ⟨by omega, by omega, hp⟩), Int.toNat_natCast, hc]
            simp only
            rw [if_pos hg]
          split at h
          · rename_i hto
            simp at h
            subst h
            simp [goW, hst, hto]
          · rename_i hto
            simp only [List.mem_map] at h
            obtain ⟨w', hw', rfl⟩ := h
            simp only [goW, hst]
            exact (ih _ _ _ w' (by omega) hto).1 hw'
        · simp at h
    · intro h
      right
      cases w with
      | nil => simp [goW, hp] at h
      | cons i w =>
        simp only [goW] at h
        cases hs : stepP l t (p, tm, seen) i with
        | none => rw [hs] at h; cases h
        | some s' =>
          rw [hs] at h
          simp only at h
          unfold stepP at hs
          split at hs
          · cases hs
          · rename_i hb
            simp only [not_or, Int.not_lt, Int.not_le] at hb
            split at hs
            · cases hs
            · rename_i c hc
              split at hs
              · rename_i hg
                cases hs
                simp only at hg h
                have h1 : tm < c.t := by simp only [goes, Bool.and_eq_true, Bool.not_eq_true', decide_eq_false_iff_not, Int.not_le] at hg; exact hg.1.1
                refine ⟨i.toNat, c, hc, ?_⟩
                rw [Nat.zero_add]
                have hii : ((i.toNat : Nat) : Int) = i := by omega
                unfold wayStep
                rw [if_pos hg, hii]
                by_cases hto : c.oth p = t
                · rw [if_pos hto]
                  cases w with
                  | nil => simp
                  | cons j w =>
                    simp only [goW] at h
                    have : stepP l t (c.oth p, c.t, withP seen (c.oth p)) j = none := by
                      unfold stepP
                      rw [if_pos (.inr (.inr hto))]
                    rw [this] at h
                    cases h
                · rw [if_neg hto, List.mem_map]
                  exact ⟨w, (ih _ _ _ w (by omega) hto).2 h, rfl⟩
              · cases hs

/-- The first state. -/
def st0 (s : Int) : Int × Int × Int := (s, 0, shl .i64 1 s)

theorem wf0 {n s : Int} (hn : n ≤ 7) (hs : 0 ≤ s ∧ s < n) : Wf n (st0 s) := by
  obtain ⟨m, rfl⟩ := Int.eq_ofNat_of_zero_le hs.1
  exact ⟨2 ^ m, shl1_nat (by omega), Nat.pow_lt_pow_right (by omega) (by omega), hs, by simp [st0, testBit_pow]⟩

theorem mem_all {n s t : Int} {l : List Kl} (hv : validP n l = true) (hst : s ≠ t) (w : List Int) : w ∈ allWays l s t ↔ checkP l s t w = true := mem_ways hv 31 s 0 _ w (by omega) hst

theorem check_run {n s t : Int} {l : List Kl} (hv : validP n l = true) (hs : 0 ≤ s ∧ s < n) (w : List Int) : checkP l s t w = true ↔ ∃ st', runP l w (st0 s) = some st' ∧ st'.1 = t :=
  goW_iff hv w _ (wf0 (validP_ok hv).2.1 hs)

end Go.AM

end

section

/- PLAIN: how many calls must be left out so that nobody hears; as many ways apart (Menger's theorem for calls one after the other). -/
namespace Go.AM
open Go.Proofs
/-- A call, and whether it is there. -/
abbrev Cs := List (Kl × Bool)

/-- Those who hear, with the two of a call. -/
def addX (X : Int → Bool) (c : Kl) : Int → Bool := fun p => X p || (p == c.a || p == c.b)

/-- Must the call be left out, if these hear ahead of it and those behind it? -/
def penC (c : Kl) (X Y : Int → Bool) : Nat := if (X c.a || X c.b) && !(Y c.a && Y c.b) then 1 else 0

/-- How many calls must be left out so that t does not hear (K: it is too late). -/
def GM (K : Nat) (t : Int) : Cs → (Int → Bool) → Nat
  | [], X => if X t then K else 0
  | (c, true) :: cs, X => if X c.a || X c.b then min (GM K t cs (addX X c)) (GM K t cs X + penC c X X) else GM K t cs X
  | (_, false) :: cs, X => GM K t cs X

def SubX (X Y : Int → Bool) : Prop := ∀ p, X p = true → Y p = true

theorem SubX.refl (X : Int → Bool) : SubX X X := fun _ h => h

theorem SubX.trans {X Y Z : Int → Bool} (a : SubX X Y) (b : SubX Y Z) : SubX X Z := fun p h => b p (a p h)

theorem sub_add (X : Int → Bool) (c : Kl) : SubX X (addX X c) := fun p h => by simp [addX, h]

theorem penC_le (c : Kl) (X Y : Int → Bool) : penC c X Y ≤ 1 := by unfold penC; split <;> omega

/-- The penalty, where the call may be missing. -/
def penB (c : Kl × Bool) (X Y : Int → Bool) : Nat := if c.2 then penC c.1 X Y else 0

theorem penB_le (c : Kl × Bool) (X Y : Int → Bool) : penB c X Y ≤ 1 := by unfold penB; split; exact penC_le _ _ _; omega

section
variable {K : Nat} {t : Int}
theorem GM_mono : ∀ (cs : Cs) {X Y : Int → Bool}, SubX X Y → GM K t cs X ≤ GM K t cs Y := by
  intro cs
  induction cs with
  | nil =>
    intro X Y h
    simp only [GM]
    cases hX : X t with
    | false => simp
    | true => simp [h t hX]
  | cons c cs ih =>
    intro X Y h
    obtain ⟨c, b⟩ := c
    cases b with
    | false => simp only [GM]; exact ih h
    | true =>
      simp only [GM]
      have hadd : SubX (addX X c) (addX Y c) := fun p hp => by
        simp only [addX, Bool.or_eq_true] at hp ⊢
        rcases hp with hp | hp
        · exact .inl (h p hp)
        · exact .inr hp
      by_cases hx : (X c.a || X c.b) = true
      · have hy : (Y c.a || Y c.b) = true := by
          simp only [Bool.or_eq_true] at hx ⊢
          rcases hx with hx | hx
          · exact .inl (h _ hx)
          · exact .inr (h _ hx)
        rw [if_pos hx, if_pos hy]
        have h1 := ih hadd
        have h2 := ih h
        by_cases hyy : (Y c.a && Y c.b) = true
        · have h3 : SubX (addX X c) Y := fun p hp => by
            simp only [addX, Bool.or_eq_true, beq_iff_eq] at hp
            simp only [Bool.and_eq_true] at hyy
            rcases hp with hp | rfl | rfl
            · exact h p hp
            · exact hyy.1
            · exact hyy.2
          have h4 := ih h3
          omega
        · have : penC c Y Y = 1 := by unfold penC; rw [hy, Bool.eq_false_iff.2 hyy]; rfl
          have := penC_le c X X
          omega
      · rw [if_neg hx]
        have h2 := ih h
        split
        · have := ih (h.trans (sub_add Y c))
          omega
        · exact h2

theorem GM_le (c : Kl × Bool) (cs : Cs) {X Y : Int → Bool} (h : SubX X Y) : GM K t (c :: cs) X ≤ penB c X Y + GM K t cs Y := by
  obtain ⟨c, b⟩ := c
  cases b with
  | false => simp only [GM, penB]; have := GM_mono (K := K) (t := t) cs h; simp; omega
  | true =>
    simp only [GM, penB, if_true]
    split
    · rename_i hx
      by_cases hyy : (Y c.a && Y c.b) = true
      · have h3 : SubX (addX X c) Y := fun p hp => by
          simp only [addX, Bool.or_eq_true, beq_iff_eq] at hp
          simp only [Bool.and_eq_true] at hyy
          rcases hp with hp | rfl | rfl
          · exact h p hp
          · exact hyy.1
          · exact hyy.2
        have h4 := GM_mono (K := K) (t := t) cs h3
        omega
      · have : penC c X Y = 1 := by unfold penC; rw [hx, Bool.eq_false_iff.2 hyy]; rfl
        have := penC_le c X X
        have := GM_mono (K := K) (t := t) cs h
        omega
    · have := GM_mono (K := K) (t := t) cs h
      omega

theorem GM_ex (c : Kl × Bool) (cs : Cs) (X : Int → Bool) : ∃ Y, SubX X Y ∧ GM K t (c :: cs) X = penB c X Y + GM K t cs Y ∧ (Y = X ∨ (Y = addX X c.1 ∧ c.2 = true ∧ (X c.1.a || X c.1.b) = true)) := by
  obtain ⟨c, b⟩ := c
  cases b with
  | false => exact ⟨X, .refl _, by simp [GM, penB], .inl rfl⟩
  | true =>
    simp only [GM, penB, if_true]
    split
    · rename_i hx
      rcases Nat.le_total (GM K t cs (addX X c)) (GM K t cs X + penC c X X) with h | h
      · refine ⟨addX X c, sub_add X c, ?_, .inr ⟨rfl, trivial, hx⟩⟩
        rw [Nat.min_eq_left h]
        have : penC c X (addX X c) = 0 := by simp [penC, addX]
        omega
      · exact ⟨X, .refl _, by rw [Nat.min_eq_right h]; omega, .inl rfl⟩
    · rename_i hx
      refine ⟨X, .refl _, ?_, .inl rfl⟩
      have : penC c X X = 0 := by unfold penC; rw [if_neg]; simp only [Bool.and_eq_true]; exact fun h => hx h.1
      omega

def unionX (X Y : Int → Bool) : Int → Bool := fun p => X p || Y p

def interX (X Y : Int → Bool) : Int → Bool := fun p => X p && Y p

theorem pen_sub {c : Kl × Bool} {X Y X' Y' : Int → Bool} : penB c (unionX X Y) (unionX X' Y') + penB c (interX X Y) (interX X' Y') ≤ penB c X X' + penB c Y Y' := by
  unfold penB
  split
  · unfold penC unionX interX
    cases X c.1.a <;> cases X c.1.b <;> cases Y c.1.a <;> cases Y c.1.b <;> cases X' c.1.a <;> cases X' c.1.b <;> cases Y' c.1.a <;> cases Y' c.1.b <;> simp
  · omega

theorem GM_submod : ∀ (cs : Cs) (X Y : Int → Bool), GM K t cs (unionX X Y) + GM K t cs (interX X Y) ≤ GM K t cs X + GM K t cs Y := by
  intro cs
  induction cs with
  | nil =>
    intro X Y
    simp only [GM, unionX, interX]
    by_cases hx : X t = true <;> by_cases hy : Y t = true <;> simp [hx, hy]
  | cons c cs ih =>
    intro X Y
    obtain ⟨X', hX, eX, _⟩ := GM_ex (K := K) (t := t) c cs X
    obtain ⟨Y', hY, eY, _⟩ := GM_ex (K := K) (t := t) c cs Y
    have hU : SubX (unionX X Y) (unionX X' Y') := fun p h => by
      simp only [unionX, Bool.or_eq_true] at h ⊢
      exact h.imp (hX p) (hY p)
    have hI : SubX (interX X Y) (interX X' Y') := fun p h => by
      simp only [interX, Bool.and_eq_true] at h ⊢
      exact ⟨hX p h.1, hY p h.2⟩
    have h1 := GM_le (K := K) (t := t) c cs hU
    have h2 := GM_le (K := K) (t := t) c cs hI
    have h3 := ih X' Y'
    have h4 := pen_sub (c := c) (X := X) (Y := Y) (X' := X') (Y' := Y')
    omega

/-! ### Who hears, call by call -/
/-- The penalties of a sequence of sets. -/
def penS (cs : Cs) (X : Nat → Int → Bool) : Nat := ((List.range cs.length).map fun i => match cs[i]? with
  | some c => penB c (X i) (X (i + 1))
  | none => 0).sum

theorem penS_cons (c : Kl × Bool) (cs : Cs) (X : Nat → Int → Bool) : penS (c :: cs) X = penB c (X 0) (X 1) + penS cs (fun i => X (i + 1)) := by
  unfold penS
  rw [List.length_cons, List.range_succ_eq_map, List.map_cons, List.sum_cons, List.map_map]
  rfl

theorem GM_penS : ∀ (cs : Cs) (X : Nat → Int → Bool), (∀ i, i < cs.length → SubX (X i) (X (i + 1))) → X cs.length t = false → GM K t cs (X 0) ≤ penS cs X := by
  intro cs
  induction cs with
  | nil => intro X _ h; simp only [List.length_nil] at h; simp [GM, h, penS]
  | cons c cs ih =>
    intro X h1 h2
    rw [penS_cons]
    have h3 := GM_le (K := K) (t := t) c cs (h1 0 (by simp))
    have h4 := ih (fun i => X (i + 1)) (fun i hi => h1 (i + 1) (by simpa using hi)) h2
    simp only [Nat.zero_add] at h3 h4
    omega

theorem GM_seq : ∀ (cs : Cs) (X0 : Int → Bool), GM K t cs X0 < K → ∃ X : Nat → Int → Bool, X 0 = X0 ∧ (∀ i c, cs[i]? = some c → X (i + 1) = X i ∨ (X (i + 1) = addX (X i) c.1 ∧ c.2 = true ∧ (X i c.1.a || X i c.1.b) = true)) ∧ X cs.length t = false ∧ penS cs X = GM K t cs X0 := by
  intro cs
  induction cs with
  | nil =>
    intro X0 h
    refine ⟨fun _ => X0, rfl, fun i c hc => by simp at hc, ?_, ?_⟩
    · simp only [GM] at h
      cases hX : X0 t with
      | false => exact hX
      | true => rw [hX] at h; simp at h
    · simp only [GM] at h ⊢
      cases hX : X0 t with
      | false => simp [penS]
      | true => rw [hX] at h; simp at h
  | cons c cs ih =>
    intro X0 h
    obtain ⟨Y, hY, e, hc⟩ := GM_ex (K := K) (t := t) c cs X0
    obtain ⟨X, h1, h2, h3, h4⟩ := ih Y (by omega)
    refine ⟨fun i => match i with | 0 => X0 | i + 1 => X i, rfl, fun i d hd => ?_, h3, ?_⟩
    · cases i with
      | zero =>
        simp only [List.getElem?_cons_zero, Option.some.injEq] at hd
        subst hd
        show X 0 = X0 ∨ (X 0 = addX X0 c.1 ∧ _)
        rw [h1]
        exact hc
      | succ i =>
        rw [List.getElem?_cons_succ] at hd
        exact h2 i d hd
    · rw [penS_cons, e]
      show penB c X0 (X 0) + penS cs X = _
      rw [h1, h4]

theorem seq_mono {cs : Cs} {X : Nat → Int → Bool} (h : ∀ i c, cs[i]? = some c → X (i + 1) = X i ∨ (X (i + 1) = addX (X i) c.1 ∧ c.2 = true ∧ (X i c.1.a || X i c.1.b) = true)) (i : Nat) (hi : i < cs.length) : SubX (X i) (X (i + 1)) := by
  rcases h i _ (List.getElem?_eq_getElem hi) with e | ⟨e, _⟩ <;> rw [e]
  · exact .refl _
  · exact sub_add _ _

/-! ### Walks -/
/-- Where somebody is behind some calls. -/
def runW (cs : Cs) : List Nat → Int → Option Int
  | [], p => some p
  | i :: w, p => match cs[i]? with
    | some (c, true) => if c.a = p then runW cs w c.b else if c.b = p then runW cs w c.a else none
    | _ => none

/-- Calls in order, from one on. -/
def Asc : Nat → List Nat → Prop
  | _, [] => True
  | m, i :: w => m ≤ i ∧ Asc (i + 1) w

theorem Asc.le {m n : Nat} (h : n ≤ m) : ∀ {w : List Nat}, Asc m w → Asc n w := by
  intro w hw
  cases w with
  | nil => trivial
  | cons i w => exact ⟨Nat.le_trans h hw.1, hw.2⟩

theorem Asc.mem : ∀ {w : List Nat} {m : Nat}, Asc m w → ∀ i ∈ w, m ≤ i := by
  intro w
  induction w with
  | nil => intro m _ i hi; cases hi
  | cons j w ih =>
    intro m h i hi
    rcases List.mem_cons.1 hi with rfl | hi
    · exact h.1
    · have := ih h.2 i hi
      have := h.1
      omega

/-- How many of k tokens are outside of a set. -/
def outX (k : Nat) (ps : Nat → Int) (X : Int → Bool) : Nat := (List.range k).countP fun j => !X (ps j)

def upd (ps : Nat → Int) (j0 : Nat) (q : Int) : Nat → Int := fun j => if j = j0 then q else ps j

theorem out_upd {k : Nat} {ps : Nat → Int} {j0 : Nat} {q : Int} {X : Int → Bool} (hj : j0 < k) :
    outX k (upd ps j0 q) X + (if X (ps j0) then 0 else 1) = outX k ps X + (if X q then 0 else 1) := by
  induction k with
  | zero => omega
  | succ k ih =>
    unfold outX
    rw [List.range_succ, List.countP_append, List.countP_append]
    simp only [List.countP_cons, List.countP_nil, Nat.zero_add]
    by_cases h : j0 = k
    · subst h
      have : (List.range j0).countP (fun j => !X (upd ps j0 q j)) = (List.range j0).countP (fun j => !X (ps j)) := by
        apply List.countP_congr
        intro j hj
        have : j ≠ j0 := by have := List.mem_range.1 hj; omega
        simp [upd, this]
      rw [this]
      simp only [upd, if_true]
      cases X (ps j0) <;> cases X q <;> simp
    · have := ih (by omega)
      unfold outX at this
      have h2 : upd ps j0 q k = ps k := by simp [upd, Ne.symm h]
      rw [h2]
      omega

theorem out_mod {k : Nat} {ps : Nat → Int} {X Y : Int → Bool} : outX k ps (unionX X Y) + outX k ps (interX X Y) = outX k ps X + outX k ps Y := by
  induction k with
  | zero => rfl
  | succ k ih =>
    unfold outX at ih ⊢
    simp only [List.range_succ, List.countP_append, List.countP_cons, List.countP_nil, Nat.zero_add]
    have : (if (!unionX X Y (ps k)) = true then 1 else 0) + (if (!interX X Y (ps k)) = true then 1 else 0) = (if (!X (ps k)) = true then 1 else 0) + (if (!Y (ps k)) = true then 1 else 0) := by
      unfold unionX interX
      cases X (ps k) <;> cases Y (ps k) <;> simp
    omega

theorem out_minus {k : Nat} {ps : Nat → Int} {X : Int → Bool} {p : Int} (h : ∀ j, j < k → ps j ≠ p) : outX k ps (fun x => X x && x != p) = outX k ps X := by
  unfold outX
  apply List.countP_congr
  intro j hj
  have := h j (List.mem_range.1 hj)
  simp [this]

/-- Tokens are moved through the calls: as many come to t as no cut forbids. -/
theorem tokens (cs : Cs) {k μ : Nat} : ∀ (n i0 : Nat) (ps : Nat → Int), i0 + n = cs.length → (∀ X, μ ≤ outX k ps X + GM K t (cs.drop i0) X) →
    ∃ (ws : Nat → List Nat) (es : Nat → Int), (∀ j, j < k → runW cs (ws j) (ps j) = some (es j) ∧ Asc i0 (ws j)) ∧ (∀ j j', j < k → j' < k → j ≠ j' → ∀ i ∈ ws j, i ∉ ws j') ∧ μ ≤ (List.range k).countP fun j => decide (es j = t) := by
  intro n
  induction n with
  | zero =>
    intro i0 ps hi h
    refine ⟨fun _ => [], ps, fun j _ => ⟨rfl, trivial⟩, (by intro j j' _ _ _ i hi; simp at hi), ?_⟩
    have := h fun p => p != t
    rw [List.drop_of_length_le (by omega)] at this
    simp only [GM, bne_self_eq_false, Bool.false_eq_true, if_false, Nat.add_zero] at this
    refine Nat.le_trans this (Nat.le_of_eq ?_)
    unfold outX
    apply List.countP_congr
    intro j _
    simp [bne]
  | succ n ih =>
    intro i0 ps hi h
    have hlt : i0 < cs.length := by omega
    have hd : cs.drop i0 = cs[i0] :: cs.drop (i0 + 1) := List.drop_eq_getElem_cons hlt
    rw [hd] at h
    by_cases hA : ∀ X, μ ≤ outX k ps X + GM K t (cs.drop (i0 + 1)) X
    · obtain ⟨ws, es, h1, h2, h3⟩ := ih (i0 + 1) ps (by omega) hA
      exact ⟨ws, es, fun j hj => ⟨(h1 j hj).1, (h1 j hj).2.le (by omega)⟩, h2, h3⟩
    · obtain ⟨X0, hX0⟩ := Classical.not_forall.1 hA
      have g0 := h X0
      have l0 := GM_le (K := K) (t := t) cs[i0] (cs.drop (i0 + 1)) (SubX.refl X0)
      obtain ⟨⟨c, b⟩, hc⟩ : ∃ c, cs[i0] = c := ⟨_, rfl⟩
      rw [hc] at h l0 g0
      have hp1 : penB (c, b) X0 X0 = 1 := by have := penB_le (c, b) X0 X0; omega
      have hb : b = true := by
        cases b with
        | true => rfl
        | false => simp [penB] at hp1
      subst hb
      -- the one of the call who hears, and the one who does not
      obtain ⟨p, q, hpq, hX0p, hX0q⟩ : ∃ p q, ((c.a = p ∧ c.b = q) ∨ (c.a = q ∧ c.b = p)) ∧ X0 p = true ∧ X0 q = false := by
        simp only [penB, if_true, penC] at hp1
        cases ha : X0 c.a <;> cases hb : X0 c.b <;> simp only [ha, hb] at hp1 <;> simp at hp1
        · exact ⟨c.b, c.a, .inr ⟨rfl, rfl⟩, hb, ha⟩
        · exact ⟨c.a, c.b, .inl ⟨rfl, rfl⟩, ha, hb⟩
      have pen0 : ∀ X : Int → Bool, X p = X q → penB (c, true) X X = 0 := by
        intro X hX
        simp only [penB, if_true, penC]
        rcases hpq with ⟨h1, h2⟩ | ⟨h1, h2⟩ <;> rw [h1, h2] <;> cases hp : X p <;> rw [hp] at hX <;> simp [← hX]
      have hpqne : p ≠ q := by rintro rfl; rw [hX0p] at hX0q; cases hX0q
      have upTo : ∀ X : Int → Bool, X p = X q → μ ≤ outX k ps X + GM K t (cs.drop (i0 + 1)) X := by
        intro X hX
        have h1 := h X
        have h2 := GM_le (K := K) (t := t) (c, true) (cs.drop (i0 + 1)) (SubX.refl X)
        rw [pen0 X hX] at h2
        omega
      have upOne : ∀ X : Int → Bool, μ ≤ outX k ps X + 1 + GM K t (cs.drop (i0 + 1)) X := by
        intro X
        have h1 := h X
        have h2 := GM_le (K := K) (t := t) (c, true) (cs.drop (i0 + 1)) (SubX.refl X)
        have h3 := penB_le (c, true) X X
        omega
      -- there is a token at p
      obtain ⟨j0, hj0, hps⟩ : ∃ j0, j0 < k ∧ ps j0 = p := by
        refine Classical.byContradiction fun hno => ?_
        have hno' : ∀ j, j < k → ps j ≠ p := fun j hj e => hno ⟨j, hj, e⟩
        have h1 := upTo (fun x => X0 x && x != p) (by simp [hX0q])
        rw [out_minus hno'] at h1
        have h2 := GM_mono (K := K) (t := t) (cs.drop (i0 + 1)) (X := fun x => X0 x && x != p) (Y := X0) (fun x hx => by simp only [Bool.and_eq_true] at hx; exact hx.1)
        omega
      have hB : ∀ X, μ ≤ outX k (upd ps j0 q) X + GM K t (cs.drop (i0 + 1)) X := by
        intro X1
        refine Classical.byContradiction fun hno => ?_
        have hu := out_upd (ps := ps) (q := q) (X := X1) hj0
        rw [hps] at hu
        by_cases hpq1 : X1 p = X1 q
        · have := upTo X1 hpq1
          rw [hpq1] at hu
          omega
        · cases h1 : X1 p with
          | true =>
            have h2 : X1 q = false := by cases hq : X1 q with | false => rfl | true => rw [h1, hq] at hpq1; exact absurd rfl hpq1
            rw [h1, h2] at hu
            have := upOne X1
            simp at hu
            omega
          | false =>
            have h2 : X1 q = true := by cases hq : X1 q with | true => rfl | false => rw [h1, hq] at hpq1; exact absurd rfl hpq1
            rw [h1, h2] at hu
            simp at hu
            have a1 := upTo (unionX X0 X1) (by simp [unionX, hX0p, h2])
            have a2 := upTo (interX X0 X1) (by simp [interX, hX0q, h1])
            have a3 := out_mod (k := k) (ps := ps) (X := X0) (Y := X1)
            have a4 := GM_submod (K := K) (t := t) (cs.drop (i0 + 1)) X0 X1
            omega
      obtain ⟨ws, es, h1, h2, h3⟩ := ih (i0 + 1) (upd ps j0 q) (by omega) hB
      have hget : cs[i0]? = some (c, true) := by rw [List.getElem?_eq_getElem hlt, hc]
      refine ⟨fun j => if j = j0 then i0 :: ws j0 else ws j, es, fun j hj => ?_, fun j j' hj hj' hne i hi => ?_, h3⟩
      · by_cases e : j = j0
        · subst e
          simp only [if_true]
          obtain ⟨r1, r2⟩ := h1 j hj
          refine ⟨?_, Nat.le_refl _, r2⟩
          simp only [upd, if_true] at r1
          simp only [runW, hget, hps]
          rcases hpq with ⟨e1, e2⟩ | ⟨e1, e2⟩
          · rw [if_pos e1, e2]; exact r1
          · rw [if_neg (by rw [e1]; exact Ne.symm hpqne), if_pos e2, e1]; exact r1
        · simp only [if_neg e]
          obtain ⟨r1, r2⟩ := h1 j hj
          simp only [upd, if_neg e] at r1
          exact ⟨r1, r2.le (by omega)⟩
      · have low : ∀ j, j < k → ∀ i ∈ ws j, i0 + 1 ≤ i := fun j hj i hi => (h1 j hj).2.mem i hi
        by_cases e : j = j0
        · subst e
          have e' : j' ≠ j := Ne.symm hne
          simp only [if_true, if_neg e'] at hi ⊢
          rcases List.mem_cons.1 hi with rfl | hi
          · intro hm; have := low j' hj' _ hm; omega
          · exact h2 j j' hj hj' hne i hi
        · simp only [if_neg e] at hi
          by_cases e' : j' = j0
          · subst e'
            simp only [if_true]
            intro hm
            rcases List.mem_cons.1 hm with e3 | hm
            · have h7 := low j hj i hi; omega
            · exact h2 j j' hj hj' hne i hi hm
          · simp only [if_neg e']
            exact h2 j j' hj hj' hne i hi

/-- Menger: as many walks apart as calls must be left out. -/
theorem menger (cs : Cs) {s : Int} {k : Nat} (h : k ≤ GM K t cs (fun p => p == s)) :
    ∃ ws : Nat → List Nat, (∀ j, j < k → runW cs (ws j) s = some t ∧ Asc 0 (ws j)) ∧ ∀ j j', j < k → j' < k → j ≠ j' → ∀ i ∈ ws j, i ∉ ws j' := by
  obtain ⟨ws, es, h1, h2, h3⟩ := tokens (K := K) (t := t) (k := k) (μ := k) cs cs.length 0 (fun _ => s) (by omega) (fun X => by
    rw [List.drop_zero]
    cases hX : X s with
    | false => 
      have : outX k (fun _ => s) X = k := by unfold outX; rw [List.countP_eq_length.2 (fun j _ => by simp [hX]), List.length_range]
      omega
    | true =>
      have := GM_mono (K := K) (t := t) cs (X := fun p => p == s) (Y := X) (fun p hp => by rw [beq_iff_eq] at hp; rw [hp]; exact hX)
      omega)
  have hall : ∀ j, j < k → es j = t := by
    intro j hj
    have h4 : (List.range k).countP (fun j => decide (es j = t)) = (List.range k).length := by
      have := List.countP_le_length (p := fun j => decide (es j = t)) (l := List.range k)
      rw [List.length_range] at this ⊢
      omega
    have := List.countP_eq_length.1 h4 j (List.mem_range.2 hj)
    exact of_decide_eq_true this
  exact ⟨ws, fun j hj => by have := h1 j hj; rw [hall j hj] at this; exact this, h2⟩

/-- A walk meets a call that is left out. -/
theorem walk_pen {cs : Cs} {X : Nat → Int → Bool} (hX : ∀ i, i < cs.length → SubX (X i) (X (i + 1))) (hend : X cs.length t = false) :
    ∀ (w : List Nat) (m : Nat) (p : Int), m ≤ cs.length → Asc m w → X m p = true → runW cs w p = some t → ∃ i ∈ w, ∃ c, cs[i]? = some c ∧ penB c (X i) (X (i + 1)) = 1 := by
  have up : ∀ (d m : Nat), m + d ≤ cs.length → SubX (X m) (X (m + d)) := by
    intro d
    induction d with
    | zero => intro m _; exact .refl _
    | succ d ih => intro m h; exact (ih m (by omega)).trans (hX (m + d) (by omega))
  intro w
  induction w with
  | nil =>
    intro m p hm _ hp hr
    cases hr
    have := up (cs.length - m) m (by omega) _ hp
    rw [show m + (cs.length - m) = cs.length by omega, hend] at this
    cases this
  | cons i w ih =>
    intro m p hm ha hp hr
    simp only [runW] at hr
    split at hr
    · rename_i c hc
      have hi : i < cs.length := by
        rcases Nat.lt_or_ge i cs.length with h | h
        · exact h
        · rw [List.getElem?_eq_none h] at hc; cases hc
      have hip : X i p = true := by
        have := up (i - m) m (by have := ha.1; omega) _ hp
        rwa [show m + (i - m) = i by have := ha.1; omega] at this
      by_cases hpen : penB (c, true) (X i) (X (i + 1)) = 1
      · exact ⟨i, List.mem_cons_self, _, hc, hpen⟩
      · have key : (X (i + 1) c.a && X (i + 1) c.b) = true ∨ (c.a ≠ p ∧ c.b ≠ p) := by
          refine Classical.byContradiction fun hno => ?_
          have h1 := fun h => hno (.inl h)
          refine hpen ?_
          simp only [penB, if_true, penC]
          rw [if_pos]
          simp only [Bool.and_eq_true, Bool.or_eq_true, Bool.not_eq_true']
          refine ⟨?_, by simpa using h1⟩
          refine Classical.byContradiction fun h2 => hno (.inr ⟨fun e => h2 (.inl (by rw [e]; exact hip)), fun e => h2 (.inr (by rw [e]; exact hip))⟩)
        have next : ∀ q, X (i + 1) q = true → runW cs w q = some t → ∃ i' ∈ i :: w, ∃ c, cs[i']? = some c ∧ penB c (X i') (X (i' + 1)) = 1 := by
          intro q hq hr
          obtain ⟨i', h1, h2⟩ := ih (i + 1) q (by omega) ha.2 hq hr
          exact ⟨i', List.mem_cons_of_mem _ h1, h2⟩
        split at hr
        · rename_i e
          rcases key with h | h
          · simp only [Bool.and_eq_true] at h
            exact next _ h.2 hr
          · exact absurd e h.1
        · split at hr
          · rename_i e
            rcases key with h | h
            · simp only [Bool.and_eq_true] at h
              exact next _ h.1 hr
            · exact absurd e h.2
          · cases hr
    · cases hr

end
end Go.AM

end

section

/- PLAIN: cuts and masks of calls; a walk holds a way. -/
namespace Go.AM
open Go.Proofs
/-! ### Sums -/
def sumR (n : Nat) (f : Nat → Nat) : Nat := ((List.range n).map f).sum

theorem sumR_succ (n : Nat) (f : Nat → Nat) : sumR (n + 1) f = sumR n f + f n := by
  unfold sumR
  rw [List.range_succ, List.map_append, List.sum_append]
  simp

theorem sumR_le {f g : Nat → Nat} : ∀ {n : Nat}, (∀ i, i < n → f i ≤ g i) → sumR n f ≤ sumR n g := by
  intro n
  induction n with
  | zero => intro _; exact Nat.le_refl _
  | succ n ih =>
    intro h
    rw [sumR_succ, sumR_succ]
    have := ih fun i hi => h i (by omega)
    have := h n (by omega)
    omega

theorem sumR_lt {f g : Nat → Nat} {j : Nat} : ∀ {n : Nat}, (∀ i, i < n → f i ≤ g i) → j < n → f j < g j → sumR n f < sumR n g := by
  intro n
  induction n with
  | zero => intro _ h; omega
  | succ n ih =>
    intro h hj hlt
    rw [sumR_succ, sumR_succ]
    by_cases e : j = n
    · subst e
      have := sumR_le (n := j) fun i hi => h i (by omega)
      omega
    · have := ih (fun i hi => h i (by omega)) (by omega) hlt
      have := h n (by omega)
      omega

theorem sumR_one {f g : Nat → Nat} {j : Nat} : ∀ {n : Nat}, (∀ i, i < n → f i ≤ g i + (if i = j then 1 else 0)) → sumR n f ≤ sumR n g + (if j < n then 1 else 0) := by
  intro n
  induction n with
  | zero => intro _; simp [sumR]
  | succ n ih =>
    intro h
    rw [sumR_succ, sumR_succ]
    have h1 := ih fun i hi => h i (by omega)
    have h2 := h n (by omega)
    by_cases e : n = j
    · subst e
      rw [if_neg (by omega)] at h1
      rw [if_pos rfl] at h2
      rw [if_pos (by omega)]
      omega
    · rw [if_neg e] at h2
      have : (if j < n then 1 else 0 : Nat) = if j < n + 1 then 1 else 0 := by
        by_cases h : j < n
        · rw [if_pos h, if_pos (by omega)]
        · rw [if_neg h, if_neg (by omega)]
      omega

theorem countP_le1 {p : Nat → Bool} : ∀ {k : Nat}, (∀ j j', j < k → j' < k → p j = true → p j' = true → j = j') → (List.range k).countP p ≤ 1 := by
  intro k
  induction k with
  | zero => intro _; simp
  | succ k ih =>
    intro h
    rw [List.range_succ, List.countP_append, List.countP_cons, List.countP_nil]
    by_cases hk : p k = true
    · have : (List.range k).countP p = 0 := by
        rw [List.countP_eq_zero]
        intro j hj hp
        have hj' := List.mem_range.1 hj
        have := h j k (by omega) (by omega) hp hk
        omega
      rw [if_pos hk]; omega
    · have := ih fun j j' a b => h j j' (by omega) (by omega)
      rw [if_neg hk]; omega

/-- Different places with something at each. -/
theorem sumR_many {f : Nat → Nat} {k : Nat} {g : Nat → Nat} (hd : ∀ j j', j < k → j' < k → g j = g j' → j = j') (hf : ∀ j, j < k → 1 ≤ f (g j)) : ∀ n, (List.range k).countP (fun j => decide (g j < n)) ≤ sumR n f := by
  intro n
  induction n with
  | zero => simp [sumR]
  | succ n ih =>
    rw [sumR_succ]
    have h1 : (List.range k).countP (fun j => decide (g j < n + 1)) = (List.range k).countP (fun j => decide (g j < n)) + (List.range k).countP (fun j => decide (g j = n)) := by
      clear hd hf ih
      induction k with
      | zero => rfl
      | succ k ih =>
        rw [List.range_succ]
        simp only [List.countP_append, List.countP_cons, List.countP_nil, ih, decide_eq_true_eq]
        by_cases a : g k < n
        · rw [if_pos (show g k < n + 1 by omega), if_pos a, if_neg (show ¬ g k = n by omega)]; omega
        · by_cases b : g k = n
          · rw [if_pos (show g k < n + 1 by omega), if_neg a, if_pos b]; omega
          · rw [if_neg (show ¬ g k < n + 1 by omega), if_neg a, if_neg b]; omega
    by_cases hex : ∃ j, j < k ∧ g j = n
    · obtain ⟨j, hj, e⟩ := hex
      have h2 := hf j hj
      rw [e] at h2
      have h3 : (List.range k).countP (fun j => decide (g j = n)) ≤ 1 := countP_le1 fun j j' a b p q => hd j j' a b (by rw [of_decide_eq_true p, of_decide_eq_true q])
      omega
    · have h3 : (List.range k).countP (fun j => decide (g j = n)) = 0 := by
        rw [List.countP_eq_zero]
        intro j hj hp
        exact hex ⟨j, List.mem_range.1 hj, of_decide_eq_true hp⟩
      omega

theorem penS_sum (cs : Cs) (X : Nat → Int → Bool) : penS cs X = sumR cs.length fun i => match cs[i]? with
  | some c => penB c (X i) (X (i + 1))
  | none => 0 := rfl

/-! ### Masks -/
/-- The calls, but those that are gone. -/
def maskL (l : List Kl) (d : Nat → Bool) : Cs := l.zipIdx.map fun q => (q.1, !d q.2)

theorem maskL_len (l : List Kl) (d : Nat → Bool) : (maskL l d).length = l.length := by simp [maskL]

theorem maskL_get (l : List Kl) (d : Nat → Bool) (i : Nat) : (maskL l d)[i]? = (l[i]?).map fun c => (c, !d i) := by
  unfold maskL
  rw [List.getElem?_map, List.getElem?_zipIdx]
  cases l[i]? <;> simp

theorem penS_mask (l : List Kl) (d : Nat → Bool) (X : Nat → Int → Bool) : penS (maskL l d) X = sumR l.length fun i => match l[i]? with
  | some c => if d i then 0 else penC c (X i) (X (i + 1))
  | none => 0 := by
  rw [penS_sum, maskL_len]
  congr 1
  funext i
  rw [maskL_get]
  cases l[i]? with
  | none => rfl
  | some c => simp only [Option.map_some, penB]; cases d i <;> rfl

section
variable {K : Nat} {t : Int}
theorem GM_len {cs : Cs} {X : Int → Bool} (h : X t = false) : GM K t cs X ≤ cs.length := by
  refine Nat.le_trans (GM_penS cs (fun _ => X) (fun _ _ => .refl _) h) ?_
  rw [penS_sum]
  refine Nat.le_trans (sumR_le (g := fun _ => 1) fun i _ => ?_) ?_
  · split
    · exact penB_le _ _ _
    · omega
  · generalize cs.length = n
    induction n with
    | zero => simp [sumR]
    | succ n ih => rw [sumR_succ]; omega

/-- More calls gone: not more that must be left out. -/
theorem GM_more {l : List Kl} {d d' : Nat → Bool} {X : Int → Bool} (h : ∀ i, d i = true → d' i = true) (hX : X t = false) (hl : l.length < K) : GM K t (maskL l d') X ≤ GM K t (maskL l d) X := by
  have h1 : GM K t (maskL l d) X < K := by have := GM_len (K := K) (cs := maskL l d) hX; rw [maskL_len] at this; omega
  obtain ⟨Xs, e0, hs, he, hp⟩ := GM_seq (maskL l d) X h1
  rw [← hp, ← e0]
  refine Nat.le_trans (GM_penS _ Xs (fun i hi => seq_mono hs i (by rw [maskL_len] at hi ⊢; exact hi)) (by rw [maskL_len] at he ⊢; exact he)) ?_
  rw [penS_mask, penS_mask]
  refine sumR_le fun i _ => ?_
  cases l[i]? with
  | none => exact Nat.le_refl _
  | some c =>
    simp only
    cases hd : d i with
    | true => rw [h i hd]; simp
    | false => cases d' i <;> simp

/-- One call more gone: at most one less. -/
theorem GM_one {l : List Kl} {d d' : Nat → Bool} {X : Int → Bool} {j : Nat} (h : ∀ i, i ≠ j → d' i = d i) (hX : X t = false) (hl : l.length < K) : GM K t (maskL l d) X ≤ GM K t (maskL l d') X + 1 := by
  have h1 : GM K t (maskL l d') X < K := by have := GM_len (K := K) (cs := maskL l d') hX; rw [maskL_len] at this; omega
  obtain ⟨Xs, e0, hs, he, hp⟩ := GM_seq (maskL l d') X h1
  rw [← hp, ← e0]
  refine Nat.le_trans (GM_penS _ Xs (fun i hi => seq_mono hs i (by rw [maskL_len] at hi ⊢; exact hi)) (by rw [maskL_len] at he ⊢; exact he)) ?_
  rw [penS_mask, penS_mask]
  refine Nat.le_trans (sumR_one (j := j) (g := fun i => match l[i]? with
    | some c => if d' i then 0 else penC c (Xs i) (Xs (i + 1))
    | none => 0) fun i _ => ?_) (by split <;> omega)
  cases l[i]? with
  | none => simp
  | some c =>
    simp only
    by_cases e : i = j
    · rw [if_pos e]
      have := penC_le c (Xs i) (Xs (i + 1))
      split <;> omega
    · rw [h i e]; simp

/-- As many walks apart, as many calls must be left out. -/
theorem GM_ge {cs : Cs} {s : Int} {k : Nat} {ws : Nat → List Nat} (hw : ∀ j, j < k → runW cs (ws j) s = some t ∧ Asc 0 (ws j)) (hd : ∀ j j', j < k → j' < k → j ≠ j' → ∀ i ∈ ws j, i ∉ ws j') (hK : k ≤ K) :
    k ≤ GM K t cs (fun p => p == s) := by
  rcases Nat.lt_or_ge (GM K t cs (fun p => p == s)) K with h1 | h1
  · obtain ⟨Xs, e0, hs, he, hp⟩ := GM_seq cs _ h1
    rw [← hp]
    have hm := seq_mono hs
    have pick : ∀ j, ∃ i, j < k → i ∈ ws j ∧ ∃ c, cs[i]? = some c ∧ penB c (Xs i) (Xs (i + 1)) = 1 := by
      intro j
      by_cases hj : j < k
      · obtain ⟨i, h2, h3⟩ := walk_pen hm he (ws j) 0 s (Nat.zero_le _) (hw j hj).2 (by rw [e0]; simp) (hw j hj).1
        exact ⟨i, fun _ => ⟨h2, h3⟩⟩
      · exact ⟨0, fun h => absurd h hj⟩
    obtain ⟨g, hg⟩ := Classical.skolem.1 pick
    have lt : ∀ j, j < k → g j < cs.length := fun j hj => by
      obtain ⟨_, c, hc, _⟩ := hg j hj
      exact (List.getElem?_eq_some_iff.1 hc).1
    have := sumR_many (f := fun i => match cs[i]? with
      | some c => penB c (Xs i) (Xs (i + 1))
      | none => 0) (k := k) (g := g) (fun j j' hj hj' e => Classical.byContradiction fun hne => hd j j' hj hj' hne (g j) (hg j hj).1 (by rw [e]; exact (hg j' hj').1)) (fun j hj => by
        obtain ⟨_, c, hc, hpen⟩ := hg j hj
        simp only [hc, hpen]
        exact Nat.le_refl _) cs.length
    rw [List.countP_eq_length.2 (fun j hj => by simpa using lt j (List.mem_range.1 hj)), List.length_range] at this
    rw [penS_sum]
    exact this
  · omega

/-- Without a walk's calls one less must be left out. -/
theorem GM_walk {l : List Kl} {d d' : Nat → Bool} {s : Int} {w : List Nat} (hw : runW (maskL l d) w s = some t) (ha : Asc 0 w) (hst : s ≠ t) (hl : l.length < K) (hd : ∀ i, d' i = true ↔ d i = true ∨ i ∈ w) :
    GM K t (maskL l d') (fun p => p == s) + 1 ≤ GM K t (maskL l d) (fun p => p == s) := by
  have hX : (fun p => p == s) t = false := by simpa using Ne.symm hst
  have h1 : GM K t (maskL l d) (fun p => p == s) < K := by have := GM_len (K := K) (t := t) (cs := maskL l d) (X := fun p => p == s) hX; rw [maskL_len] at this; omega
  obtain ⟨Xs, e0, hs, he, hp⟩ := GM_seq (maskL l d) _ h1
  have hm := seq_mono hs
  obtain ⟨i, hi, c, hc, hpen⟩ := walk_pen hm he w 0 s (Nat.zero_le _) ha (by rw [e0]; simp) hw
  have h2 := GM_penS (K := K) (t := t) (maskL l d') Xs (fun i hi => hm i (by rw [maskL_len] at hi ⊢; exact hi)) (by rw [maskL_len] at he ⊢; exact he)
  rw [e0] at h2
  rw [← hp]
  refine Nat.lt_of_le_of_lt h2 ?_
  rw [penS_mask, penS_mask]
  have hil : i < l.length := by have := (List.getElem?_eq_some_iff.1 hc).1; rwa [maskL_len] at this
  refine sumR_lt (j := i) (fun i' _ => ?_) hil ?_
  · cases l[i']? with
    | none => exact Nat.le_refl _
    | some c' =>
      simp only
      cases hd1 : d i' with
      | true => rw [(hd i').2 (.inl hd1)]; simp
      | false => cases d' i' <;> simp
  · rw [maskL_get] at hc
    cases hli : l[i]? with
    | none => rw [hli] at hc; cases hc
    | some c' =>
      rw [hli] at hc
      simp only [Option.map_some, Option.some.injEq] at hc
      subst hc
      simp only
      rw [(hd i).2 (.inr hi)]
      simp only [penB] at hpen
      cases hdi : d i with
      | true => rw [hdi] at hpen; simp at hpen
      | false => rw [hdi] at hpen; simp at hpen ⊢; omega

/-- The calls that are there, alone. -/
theorem GM_filter : ∀ (cs : Cs) (X : Int → Bool), GM K t (cs.filter (·.2)) X = GM K t cs X := by
  intro cs
  induction cs with
  | nil => intro X; rfl
  | cons c cs ih =>
    intro X
    obtain ⟨c, b⟩ := c
    cases b with
    | false => simp only [List.filter_cons, Bool.false_eq_true, if_false, GM]; exact ih X
    | true => simp only [List.filter_cons, if_true, GM]; rw [ih, ih]

end
/-! ### A walk holds a way -/
/-- Where one comes along, person by person. -/
def visits (cs : Cs) : List Nat → Int → List Int
  | [], _ => []
  | i :: w, p => match cs[i]? with
    | some (c, true) => if c.a = p then c.b :: visits cs w c.b else if c.b = p then c.a :: visits cs w c.a else []
    | _ => []

theorem walk_drop {cs : Cs} {t : Int} : ∀ (w : List Nat) (q p : Int) (m : Nat), runW cs w q = some t → Asc m w → (q :: visits cs w q).Nodup → p ∈ visits cs w q →
    ∃ w', runW cs w' p = some t ∧ Asc m w' ∧ (p :: visits cs w' p).Nodup ∧ w'.length ≤ w.length ∧ ∀ i ∈ w', i ∈ w := by
  intro w
  induction w with
  | nil => intro q p m _ _ _ hp; cases hp
  | cons i w ih =>
    intro q p m hr ha hn hp
    simp only [runW] at hr
    simp only [visits] at hn hp
    split at hr
    · rename_i c hc
      simp only [hc] at hn hp
      have fin : ∀ x, runW cs w x = some t → (q :: x :: visits cs w x).Nodup → p ∈ x :: visits cs w x → ∃ w', runW cs w' p = some t ∧ Asc m w' ∧ (p :: visits cs w' p).Nodup ∧ w'.length ≤ (i :: w).length ∧ ∀ i' ∈ w', i' ∈ i :: w := by
        intro x h1 h2 h3
        rcases List.mem_cons.1 h3 with rfl | h3
        · exact ⟨w, h1, ha.2.le (by have := ha.1; omega), (List.nodup_cons.1 h2).2, by simp, fun i' hi' => List.mem_cons_of_mem _ hi'⟩
        · obtain ⟨w', g1, g2, g3, g4, g5⟩ := ih x p (i + 1) h1 ha.2 (List.nodup_cons.1 h2).2 h3
          exact ⟨w', g1, g2.le (by have := ha.1; omega), g3, by simp; omega, fun i' hi' => List.mem_cons_of_mem _ (g5 i' hi')⟩
      split at hr
      · rename_i e
        rw [if_pos e] at hn hp
        exact fin _ hr hn hp
      · rename_i e
        rw [if_neg e] at hn hp
        split at hr
        · rename_i e2
          rw [if_pos e2] at hn hp
          exact fin _ hr hn hp
        · cases hr
    · cases hr

theorem walk_way {cs : Cs} {t : Int} (hne : ∀ (i : Nat) (c : Kl × Bool), cs[i]? = some c → c.1.a ≠ c.1.b) : ∀ (w : List Nat) (p : Int) (m : Nat), runW cs w p = some t → Asc m w →
    ∃ w', runW cs w' p = some t ∧ Asc m w' ∧ (p :: visits cs w' p).Nodup ∧ ∀ i ∈ w', i ∈ w := by
  intro w
  induction w with
  | nil => intro p m h _; exact ⟨[], h, trivial, by simp [visits], fun i hi => hi⟩
  | cons i w ih =>
    intro p m hr ha
    have hr0 := hr
    simp only [runW] at hr
    split at hr
    · rename_i c hc
      have fin : ∀ x, runW cs w x = some t → x ≠ p → (∀ w', runW cs (i :: w') p = runW cs w' x ∧ visits cs (i :: w') p = x :: visits cs w' x) → ∃ w', runW cs w' p = some t ∧ Asc m w' ∧ (p :: visits cs w' p).Nodup ∧ ∀ i' ∈ w', i' ∈ i :: w := by
        intro x h1 hxp hst
        obtain ⟨w', g1, g2, g3, g4⟩ := ih x (i + 1) h1 ha.2
        by_cases hp : p ∈ visits cs w' x
        · obtain ⟨w2, k1, k2, k3, _, k5⟩ := walk_drop w' x p (i + 1) g1 g2 g3 hp
          exact ⟨w2, k1, k2.le (by have := ha.1; omega), k3, fun i' hi' => List.mem_cons_of_mem _ (g4 _ (k5 _ hi'))⟩
        · refine ⟨i :: w', by rw [(hst w').1]; exact g1, ⟨ha.1, g2⟩, ?_, fun i' hi' => ?_⟩
          · rw [(hst w').2]
            refine List.nodup_cons.2 ⟨?_, g3⟩
            simp only [List.mem_cons, not_or]
            exact ⟨Ne.symm hxp, hp⟩
          · rcases List.mem_cons.1 hi' with rfl | hi'
            · exact List.mem_cons_self
            · exact List.mem_cons_of_mem _ (g4 _ hi')
      have hab := hne i _ hc
      split at hr
      · rename_i e
        refine fin c.b hr (by rw [← e]; exact Ne.symm hab) fun w' => ?_
        simp only [runW, visits, hc, if_pos e, and_self]
      · rename_i e
        split at hr
        · rename_i e2
          refine fin c.a hr e fun w' => ?_
          simp only [runW, visits, hc, if_neg e, if_pos e2, and_self]
        · cases hr
    · cases hr

end Go.AM

end

section

/- Spots and arcs as keys of maps. -/
namespace Go.AM
open Go.Proofs
/-- A person at a time, or an end of a call. -/
structure Sp where
  p : Int
  t : Int
  g : Bool
  deriving DecidableEq

def Sp.cells (x : Sp) : List Value := [iv x.p, iv x.t, .bool x.g]

abbrev Sp.val (x : Sp) : Value := .agg #[iv x.p, iv x.t, .bool x.g]

abbrev encA (a : Sp × Sp) : Value := .agg #[iv a.1.p, iv a.1.t, .bool a.1.g, iv a.2.p, iv a.2.t, .bool a.2.g]

theorem under115 : Try.prog.underlying 115 = some (.map 120 3) := by kernel_rfl

theorem under116 : Try.prog.underlying 116 = some (.map 113 134) := by kernel_rfl

theorem under133 : Try.prog.underlying 133 = some (.map 113 113) := by kernel_rfl

theorem under134 : Try.prog.underlying 134 = some (.slice 113) := by kernel_rfl

theorem zero134 : zero? Try.prog 134 = some (.slice none 0 0) := by kernel_rfl

theorem zero113 : zero? Try.prog 113 = some (Sp.val ⟨0, 0, false⟩) := by kernel_rfl

theorem eqS (d : Nat) (x y : Sp) (hd : d = 10 ∨ d = 9) : eqV Try.prog d 113 x.val y.val = some (decide (x = y)) := by
  have h : ∀ (a b c a' b' c' : Value), True := fun _ _ _ _ _ _ => trivial
  have e : eqV Try.prog d 113 x.val y.val = (some (x.p == y.p)).bind fun q => if q then (some (x.t == y.t)).bind fun q => if q then (some (x.g == y.g)).bind fun q => if q then some true else some false else some false else some false := by
    rcases hd with rfl | rfl
    · kernel_rfl
    · kernel_rfl
  rw [e]
  obtain ⟨p, t, g⟩ := x
  obtain ⟨p', t', g'⟩ := y
  simp only [Option.bind_some, Sp.mk.injEq]
  by_cases h1 : p = p' <;> by_cases h2 : t = t' <;> by_cases h3 : g = g' <;> simp [h1, h2, h3]

theorem eqA (x y : Sp × Sp) : eqV Try.prog 10 120 (encA x) (encA y) = some (decide (x = y)) := by
  have e : eqV Try.prog 10 120 (encA x) (encA y) = (eqV Try.prog 9 113 x.1.val y.1.val).bind fun q => if q then (eqV Try.prog 9 113 x.2.val y.2.val).bind fun q => if q then some true else some false else some false := by kernel_rfl
  rw [e, eqS 9 _ _ (.inr rfl), eqS 9 _ _ (.inr rfl)]
  obtain ⟨a, b⟩ := x
  obtain ⟨a', b'⟩ := y
  simp only [Option.bind_some, Prod.mk.injEq]
  by_cases h1 : a = a' <;> by_cases h2 : b = b' <;> simp [h1, h2]

theorem keyS : Key Try.prog 113 Sp.val where
  eq x y := eqS 10 x y (.inl rfl)
  plain x := rfl
  ty := by kernel_rfl
  bits x := by
    obtain ⟨p, t, g⟩ := x
    simp [Instr.sameBits]

theorem keyA : Key Try.prog 120 encA where
  eq := eqA
  plain x := rfl
  ty := by kernel_rfl
  bits x := by
    obtain ⟨⟨p, t, g⟩, p', t', g'⟩ := x
    simp [Instr.sameBits]

section
variable {R : Type}
theorem kbld113 (p t : Int) (g : Bool) (K : Value → Option R) : bld Try.prog 113 [(0, .int .i64 p), (1, .int .i64 t), (2, .bool g)] K = K (Sp.val ⟨p, t, g⟩) := bld_some (by kernel_rfl)

theorem kbld120 (a b : Sp) (K : Value → Option R) : bld Try.prog 120 [(0, .agg #[.int .i64 a.p, .int .i64 a.t, .bool a.g]), (1, .agg #[.int .i64 b.p, .int .i64 b.t, .bool b.g])] K = K (encA (a, b)) := bld_some (by kernel_rfl)

theorem bls134 (x : Sp) (h : H) : buildSlice Try.prog 134 1 [(0, .agg #[.int .i64 x.p, .int .i64 x.t, .bool x.g])] h = some (.slice (some ⟨h.nx, 0, none⟩) 1 1, h.new (.row x.cells 113 true)) := by kernel_rfl

theorem app134 : okApp Try.prog 134 113 3 = true := by kernel_rfl

end
end Go.AM

end

section

/- PLAIN: flows through calls. -/
namespace Go.AM
open Go.Proofs
abbrev at' (p : Int) (i : Nat) : Sp := ⟨p, i, false⟩

abbrev inS (i : Nat) : Sp := ⟨0, (i : Int) + 1, true⟩

abbrev outS (i : Nat) : Sp := ⟨1, (i : Int) + 1, true⟩

/-- An arc, and how much room it has. -/
abbrev Arc := Sp × Sp × Int

def waits (n : Nat) (i : Nat) : List Arc := (List.range n).map fun (p : Nat) => (at' (p : Int) i, at' (p : Int) (i + 1), 1000)

def gates (c : Kl) (i : Nat) : List Arc := [(at' c.a i, inS i, 1), (outS i, at' c.a (i + 1), 1), (at' c.b i, inS i, 1), (outS i, at' c.b (i + 1), 1), (inS i, outS i, 1)]

/-- What is joined for a call. -/
def chunk (n : Nat) (l : List Kl) (d : Nat → Bool) (i : Nat) : List Arc :=
  match l[i]? with
  | some c => waits n i ++ if d i then [] else gates c i
  | none => []

def baseA (n : Nat) (l : List Kl) (d : Nat → Bool) (m : Nat) : List Arc := (List.range m).flatMap (chunk n l d)

def sumI (n : Nat) (f : Nat → Int) : Int := ((List.range n).map f).sum

theorem sumI_succ (n : Nat) (f : Nat → Int) : sumI (n + 1) f = sumI n f + f n := by
  unfold sumI
  rw [List.range_succ, List.map_append, List.sum_append]
  simp

theorem sumI_le {f : Nat → Int} {g : Nat → Nat} : ∀ {n : Nat}, (∀ i, i < n → f i ≤ (g i : Int)) → sumI n f ≤ (sumR n g : Int) := by
  intro n
  induction n with
  | zero => intro _; simp [sumI, sumR]
  | succ n ih =>
    intro h
    rw [sumI_succ, sumR_succ]
    have := ih fun i hi => h i (by omega)
    have := h n (by omega)
    omega

theorem sumI_ge {f : Nat → Int} {g : Nat → Nat} : ∀ {n : Nat}, (∀ i, i < n → (g i : Int) ≤ f i) → (sumR n g : Int) ≤ sumI n f := by
  intro n
  induction n with
  | zero => intro _; simp [sumI, sumR]
  | succ n ih =>
    intro h
    rw [sumI_succ, sumR_succ]
    have := ih fun i hi => h i (by omega)
    have := h n (by omega)
    omega

/-- What flows out of a potential. -/
def flux (r : Sp → Sp → Int) (χ : Sp → Int) (a : Arc) : Int := r a.2.1 a.1 * (χ a.1 - χ a.2.1)

def net (B : List Arc) (r : Sp → Sp → Int) (χ : Sp → Int) : Int := (B.map (flux r χ)).sum

theorem net_base (n : Nat) (l : List Kl) (d : Nat → Bool) (r : Sp → Sp → Int) (χ : Sp → Int) (m : Nat) : net (baseA n l d m) r χ = sumI m fun i => net (chunk n l d i) r χ := by
  induction m with
  | zero => rfl
  | succ m ih =>
    rw [sumI_succ, ← ih]
    unfold net baseA
    rw [List.range_succ, List.flatMap_append, List.map_append, List.sum_append]
    simp

/-- A flow of k ways. -/
structure FlowOk (B : List Arc) (r : Sp → Sp → Int) (k : Nat) (S T : Sp) : Prop where
  nn : ∀ a ∈ B, 0 ≤ r a.1 a.2.1 ∧ 0 ≤ r a.2.1 a.1 ∧ r a.1 a.2.1 + r a.2.1 a.1 = a.2.2
  bal : ∀ χ : Sp → Int, net B r χ = k * (χ S - χ T)

theorem sum_nonneg : ∀ {L : List Int}, (∀ x ∈ L, 0 ≤ x) → 0 ≤ L.sum := by
  intro L
  induction L with
  | nil => intro _; simp
  | cons x L ih =>
    intro h
    have := ih fun y hy => h y (List.mem_cons_of_mem _ hy)
    have := h x List.mem_cons_self
    rw [List.sum_cons]
    omega

theorem sum_nonpos : ∀ {L : List Int}, (∀ x ∈ L, x ≤ 0) → L.sum ≤ 0 := by
  intro L
  induction L with
  | nil => intro _; simp
  | cons x L ih =>
    intro h
    have := ih fun y hy => h y (List.mem_cons_of_mem _ hy)
    have := h x List.mem_cons_self
    rw [List.sum_cons]
    omega

theorem sum_mem : ∀ {L : List Int} {x : Int}, (∀ x ∈ L, 0 ≤ x) → x ∈ L → x ≤ L.sum := by
  intro L
  induction L with
  | nil => intro x _ h; cases h
  | cons y L ih =>
    intro x h hx
    rw [List.sum_cons]
    have h0 := sum_nonneg fun z hz => h z (List.mem_cons_of_mem _ hz)
    have h1 := h y List.mem_cons_self
    rcases List.mem_cons.1 hx with rfl | hx
    · omega
    · have := ih (fun z hz => h z (List.mem_cons_of_mem _ hz)) hx
      omega

/-- One if it is so. -/
def b2 (b : Bool) : Int := if b then 1 else 0

theorem b2_le {a b : Bool} (h : a = true → b = true) : b2 a ≤ b2 b := by cases a <;> cases b <;> simp_all [b2]

/-- A set of spots for a sequence of sets. -/
def chiX (l : List Kl) (u : Nat → Bool) (X : Nat → Int → Bool) (x : Sp) : Int :=
  if x.g then
    match l[(x.t - 1).toNat]? with
    | some c => b2 (if x.p = 0 then X (x.t - 1).toNat c.a || X (x.t - 1).toNat c.b else u (x.t - 1).toNat && (X x.t.toNat c.a && X x.t.toNat c.b))
    | none => 0
  else b2 (X x.t.toNat x.p)

theorem chi_at (l : List Kl) (u : Nat → Bool) (X : Nat → Int → Bool) (p : Int) (i : Nat) : chiX l u X (at' p i) = b2 (X i p) := by simp [chiX]

theorem chi_in {l : List Kl} {u : Nat → Bool} {X : Nat → Int → Bool} {i : Nat} {c : Kl} (hc : l[i]? = some c) : chiX l u X (inS i) = b2 (X i c.a || X i c.b) := by
  unfold chiX
  rw [if_pos rfl]
  simp only [show ((i : Int) + 1 - 1).toNat = i by omega, hc, if_true]

theorem chi_out {l : List Kl} {u : Nat → Bool} {X : Nat → Int → Bool} {i : Nat} {c : Kl} (hc : l[i]? = some c) : chiX l u X (outS i) = b2 (u i && (X (i + 1) c.a && X (i + 1) c.b)) := by
  unfold chiX
  rw [if_pos rfl]
  simp only [show ((i : Int) + 1 - 1).toNat = i by omega, show ((i : Int) + 1).toNat = i + 1 by omega, hc]
  rw [if_neg (by omega)]

section
variable {n : Nat} {l : List Kl} {d : Nat → Bool} {r : Sp → Sp → Int} {k : Nat} {s t : Int}
theorem mem_chunk {a : Arc} {i : Nat} (hi : i < l.length) (h : a ∈ chunk n l d i) : a ∈ baseA n l d l.length := List.mem_flatMap.2 ⟨i, List.mem_range.2 hi, h⟩

/-- No more flows than may pass a cut. (u: through which something flows.) -/
theorem flow_le (f : FlowOk (baseA n l d l.length) r k (at' s 0) (at' t l.length)) {u : Nat → Bool} (hu : ∀ i, i < l.length → d i = false → u i = false → r (outS i) (inS i) ≤ 0)
    {X : Nat → Int → Bool} (hX : ∀ i, i < l.length → SubX (X i) (X (i + 1))) (h0 : X 0 s = true) (h1 : X l.length t = false) :
    k ≤ penS (maskL l fun i => d i || !u i) X := by
  have hb := f.bal (chiX l u X)
  rw [net_base] at hb
  rw [show chiX l u X (at' s 0) = 1 by rw [chi_at, h0]; rfl, show chiX l u X (at' t l.length) = 0 by rw [chi_at, h1]; rfl] at hb
  rw [penS_mask]
  have key : sumI l.length (fun i => net (chunk n l d i) r (chiX l u X)) ≤ _ := sumI_le (g := fun i => match l[i]? with
    | some c => if d i || !u i then 0 else penC c (X i) (X (i + 1))
    | none => 0) fun i hi => by
      obtain ⟨c, hc⟩ : ∃ c, l[i]? = some c := ⟨_, List.getElem?_eq_getElem hi⟩
      simp only [hc]
      have pos : ∀ a ∈ chunk n l d i, 0 ≤ r a.2.1 a.1 := fun a ha => (f.nn a (mem_chunk hi ha)).2.1
      unfold chunk at pos ⊢
      simp only [hc] at pos ⊢
      unfold net
      rw [List.map_append, List.sum_append]
      have hw : ((waits n i).map (flux r (chiX l u X))).sum ≤ 0 := by
        refine sum_nonpos fun x hx => ?_
        obtain ⟨a, ha, rfl⟩ := List.mem_map.1 hx
        have hp := pos a (List.mem_append_left _ ha)
        obtain ⟨p, _, rfl⟩ := List.mem_map.1 ha
        simp only [flux] at hp ⊢
        rw [chi_at, show ((at' (p : Int) (i + 1)) : Sp) = at' (p : Int) (i + 1) from rfl, chi_at]
        have := b2_le (hX i hi (p : Int))
        exact Int.mul_nonpos_of_nonneg_of_nonpos hp (by omega)
      cases hd : d i with
      | true => simp only [hd, if_true, List.map_nil, List.sum_nil] at hw ⊢; simp; omega
      | false =>
        simp only [hd, Bool.false_eq_true, if_false] at pos ⊢
        have g1 := pos (at' c.a i, inS i, 1) (List.mem_append_right _ (by simp [gates]))
        have g2 := pos (outS i, at' c.a (i + 1), 1) (List.mem_append_right _ (by simp [gates]))
        have g3 := pos (at' c.b i, inS i, 1) (List.mem_append_right _ (by simp [gates]))
        have g4 := pos (outS i, at' c.b (i + 1), 1) (List.mem_append_right _ (by simp [gates]))
        have g5 := pos (inS i, outS i, 1) (List.mem_append_right _ (by simp [gates]))
        have q5 := f.nn (inS i, outS i, 1) (mem_chunk hi (by simp [chunk, hc, hd, gates]))
        simp only at g1 g2 g3 g4 g5 q5
        simp only [gates, List.map_cons, List.map_nil, List.sum_cons, List.sum_nil, flux]
        rw [chi_at, chi_in hc, chi_out hc, chi_at, chi_at, chi_at]
        have e1 : r (inS i) (at' c.a i) * (b2 (X i c.a) - b2 (X i c.a || X i c.b)) ≤ 0 := Int.mul_nonpos_of_nonneg_of_nonpos g1 (by have := b2_le (a := X i c.a) (b := X i c.a || X i c.b) (fun h => by simp [h]); omega)
        have e2 : r (at' c.a (i + 1)) (outS i) * (b2 (u i && (X (i + 1) c.a && X (i + 1) c.b)) - b2 (X (i + 1) c.a)) ≤ 0 := Int.mul_nonpos_of_nonneg_of_nonpos g2 (by have := b2_le (a := u i && (X (i + 1) c.a && X (i + 1) c.b)) (b := X (i + 1) c.a) (fun h => by simp at h; exact h.2.1); omega)
        have e3 : r (inS i) (at' c.b i) * (b2 (X i c.b) - b2 (X i c.a || X i c.b)) ≤ 0 := Int.mul_nonpos_of_nonneg_of_nonpos g3 (by have := b2_le (a := X i c.b) (b := X i c.a || X i c.b) (fun h => by simp [h]); omega)
        have e4 : r (at' c.b (i + 1)) (outS i) * (b2 (u i && (X (i + 1) c.a && X (i + 1) c.b)) - b2 (X (i + 1) c.b)) ≤ 0 := Int.mul_nonpos_of_nonneg_of_nonpos g4 (by have := b2_le (a := u i && (X (i + 1) c.a && X (i + 1) c.b)) (b := X (i + 1) c.b) (fun h => by simp at h; exact h.2.2); omega)
        have e5 : r (outS i) (inS i) * (b2 (X i c.a || X i c.b) - b2 (u i && (X (i + 1) c.a && X (i + 1) c.b))) ≤ ((if (false || !u i) = true then 0 else penC c (X i) (X (i + 1)) : Nat) : Int) := by
          cases hui : u i with
          | false =>
            have := hu i hi hd hui
            have h0 : r (outS i) (inS i) = 0 := by omega
            rw [h0]; simp
          | true =>
            simp only [Bool.true_and, Bool.not_true, Bool.or_false, Bool.false_eq_true, if_false]
            unfold penC
            have hle : r (outS i) (inS i) ≤ 1 := by omega
            cases hm : (X i c.a || X i c.b) <;> cases hn : (X (i + 1) c.a && X (i + 1) c.b) <;> simp [b2] <;> omega
        omega
  rw [show ((k : Int) * (1 - 0)) = k by omega] at hb
  rw [hb] at key
  exact Int.ofNat_le.1 key

/-- Where no way more can be found, a cut is full. -/
theorem flow_ge (f : FlowOk (baseA n l d l.length) r k (at' s 0) (at' t l.length)) (hp : ∀ (i : Nat) (c : Kl), l[i]? = some c → (0 ≤ c.a ∧ c.a < n) ∧ (0 ≤ c.b ∧ c.b < n)) (hl : l.length < 1000) (hst : s ≠ t) (hs : 0 ≤ s ∧ s < n) (ht : 0 ≤ t ∧ t < n)
    {R : Sp → Bool} (h0 : R (at' s 0) = true) (h1 : R (at' t l.length) = false)
    (hR : ∀ a ∈ baseA n l d l.length, (R a.1 = true → R a.2.1 = false → r a.1 a.2.1 = 0) ∧ (R a.2.1 = true → R a.1 = false → r a.2.1 a.1 = 0)) :
    k = GM 1000 t (maskL l d) (fun p => p == s) := by
  have hle : ∀ X : Nat → Int → Bool, (∀ i, i < l.length → SubX (X i) (X (i + 1))) → X 0 s = true → X l.length t = false → k ≤ penS (maskL l d) X := by
    intro X hX h0 h1
    have := flow_le f (u := fun _ => true) (fun i _ _ h => by cases h) hX h0 h1
    simpa using this
  have hX0 : (fun p => p == s) t = false := by simpa using Ne.symm hst
  have hlen := GM_len (K := 1000) (t := t) (cs := maskL l d) (X := fun p => p == s) hX0
  rw [maskL_len] at hlen
  obtain ⟨Xs, e0, hs', he, hpn⟩ := GM_seq (K := 1000) (t := t) (maskL l d) (fun p => p == s) (by omega)
  have hm := seq_mono hs'
  rw [maskL_len] at he hm
  have k1 := hle Xs hm (by rw [e0]; simp) he
  rw [hpn] at k1
  -- the cut of what is reached
  have hb := f.bal fun x => b2 (R x)
  rw [net_base] at hb
  simp only [h0, h1] at hb
  rw [show ((k : Int) * (b2 true - b2 false)) = k by simp [b2]] at hb
  have term : ∀ a ∈ baseA n l d l.length, 0 ≤ flux r (fun x => b2 (R x)) a ∧ (R a.1 = true → R a.2.1 = false → flux r (fun x => b2 (R x)) a = a.2.2) := by
    intro a ha
    obtain ⟨n1, n2, n3⟩ := f.nn a ha
    obtain ⟨r1, r2⟩ := hR a ha
    rw [show flux r (fun x => b2 (R x)) a = r a.2.1 a.1 * (b2 (R a.1) - b2 (R a.2.1)) from rfl]
    cases hu : R a.1 with
    | false =>
      cases hv : R a.2.1 with
      | false => simp [b2]
      | true => have := r2 hv hu; simp [b2, this]
    | true =>
      cases hv : R a.2.1 with
      | false => have := r1 hu hv; simp [b2]; omega
      | true => simp [b2]
  have pos : ∀ i, i < l.length → ∀ x ∈ (chunk n l d i).map (flux r fun x => b2 (R x)), 0 ≤ x := by
    intro i hi x hx
    obtain ⟨a, ha, rfl⟩ := List.mem_map.1 hx
    exact (term a (mem_chunk hi ha)).1
  have big : ∀ i, i < l.length → net (chunk n l d i) r (fun x => b2 (R x)) ≤ k := by
    intro i hi
    rw [← hb]
    have h2 : ∀ m, m ≤ l.length → i < m → net (chunk n l d i) r (fun x => b2 (R x)) ≤ sumI m fun i => net (chunk n l d i) r fun x => b2 (R x) := by
      intro m
      induction m with
      | zero => intro _ h; omega
      | succ m ih =>
        intro hm1 him
        rw [sumI_succ]
        have hnn : ∀ m, m ≤ l.length → 0 ≤ sumI m fun i => net (chunk n l d i) r fun x => b2 (R x) := by
          intro m
          induction m with
          | zero => intro _; simp [sumI]
          | succ m ih => intro h; rw [sumI_succ]; have := ih (by omega); have := sum_nonneg (pos m (by omega)); unfold net at *; omega
        by_cases e : i = m
        · subst e; have := hnn i (by omega); omega
        · have := ih (by omega) (by omega); have := sum_nonneg (pos m (by omega)); unfold net at *; omega
    exact h2 _ (Nat.le_refl _) hi
  have mono : ∀ i, i < l.length → ∀ p : Int, 0 ≤ p → p < n → R (at' p i) = true → R (at' p (i + 1)) = true := by
    intro i hi p hp0 hp1 hr
    refine Classical.byContradiction fun hno => ?_
    have hv : R (at' p (i + 1)) = false := by simpa using hno
    obtain ⟨c, hc⟩ : ∃ c, l[i]? = some c := ⟨_, List.getElem?_eq_getElem hi⟩
    have ha : (at' p i, at' p (i + 1), (1000 : Int)) ∈ chunk n l d i := by
      unfold chunk
      simp only [hc]
      refine List.mem_append_left _ (List.mem_map.2 ⟨p.toNat, List.mem_range.2 (by omega), ?_⟩)
      rw [show ((p.toNat : Nat) : Int) = p by omega]
    have h2 := (term _ (mem_chunk hi ha)).2 hr hv
    have h3 := sum_mem (pos i hi) (List.mem_map.2 ⟨_, ha, rfl⟩)
    rw [h2] at h3
    have h4 := big i hi
    unfold net at h4
    simp only at h3
    omega
  have hX : ∀ i, i < l.length → SubX (fun p => R (at' p i) && decide (0 ≤ p ∧ p < n)) (fun p => R (at' p (i + 1)) && decide (0 ≤ p ∧ p < n)) := by
    intro i hi p h
    simp only [Bool.and_eq_true, decide_eq_true_eq] at h ⊢
    exact ⟨mono i hi p h.2.1 h.2.2 h.1, h.2⟩
  have hG := GM_penS (K := 1000) (t := t) (maskL l d) (fun i p => R (at' p i) && decide (0 ≤ p ∧ p < n)) (fun i hi => hX i (by rwa [maskL_len] at hi)) (by rw [maskL_len]; simp [h1])
  have hG0 := GM_mono (K := 1000) (t := t) (maskL l d) (X := fun p => p == s) (Y := fun p => R (at' p 0) && decide (0 ≤ p ∧ p < n)) (fun p hp => by
    rw [beq_iff_eq] at hp
    subst hp
    simp [h0, hs])
  rw [penS_mask] at hG
  have hS : ((sumR l.length fun i => match l[i]? with
    | some c => if d i then 0 else penC c (fun p => R (at' p i) && decide (0 ≤ p ∧ p < n)) (fun p => R (at' p (i + 1)) && decide (0 ≤ p ∧ p < n))
    | none => 0 : Nat) : Int) ≤ k := by
    rw [← hb]
    refine sumI_ge fun i hi => ?_
    obtain ⟨c, hc⟩ : ∃ c, l[i]? = some c := ⟨_, List.getElem?_eq_getElem hi⟩
    obtain ⟨pa, pb⟩ := hp i c hc
    simp only [hc]
    have p0 : 0 ≤ net (chunk n l d i) r (fun x => b2 (R x)) := sum_nonneg (pos i hi)
    cases hd : d i with
    | true => simp only [if_true]; exact p0
    | false =>
      simp only [Bool.false_eq_true, if_false]
      have cut : ∀ u v : Sp, (u, v, (1 : Int)) ∈ gates c i → R u = true → R v = false → (1 : Int) ≤ net (chunk n l d i) r (fun x => b2 (R x)) := by
        intro u v hg hu hv
        have ha : (u, v, (1 : Int)) ∈ chunk n l d i := by
          unfold chunk
          simp only [hc, hd, Bool.false_eq_true, if_false]
          exact List.mem_append_right _ hg
        have h2 := (term _ (mem_chunk hi ha)).2 hu hv
        have h3 := sum_mem (pos i hi) (List.mem_map.2 ⟨_, ha, rfl⟩)
        rw [h2] at h3
        exact h3
      unfold penC
      split
      · rename_i hc1
        simp only [pa, pb, and_self, decide_true, Bool.and_true, Bool.and_eq_true, Bool.or_eq_true, Bool.not_eq_true'] at hc1
        obtain ⟨hin, hout⟩ := hc1
        show (1 : Int) ≤ _
        cases h2 : R (inS i) with
        | false =>
          rcases hin with h | h
          · exact cut _ _ (by simp [gates]) h h2
          · exact cut (at' c.b i) (inS i) (by simp [gates]) h h2
        | true =>
          cases h3 : R (outS i) with
          | false => exact cut (inS i) (outS i) (by simp [gates]) h2 h3
          | true =>
            cases h4 : R (at' c.a (i + 1)) with
            | false => exact cut (outS i) (at' c.a (i + 1)) (by simp [gates]) h3 h4
            | true =>
              rw [h4] at hout
              simp only [Bool.true_and] at hout
              exact cut (outS i) (at' c.b (i + 1)) (by simp [gates]) h3 hout
      · exact p0
  have : GM 1000 t (maskL l d) (fun p => p == s) ≤ k := by
    refine Nat.le_trans hG0 (Nat.le_trans hG ?_)
    exact Int.ofNat_le.1 hS
  omega

end
end Go.AM

end
