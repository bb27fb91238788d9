/- The staged forms of functions 3, 5, 6, 7, 8, 14, 23, 24, 29, 30, 31, 32, 55, 60, 69, 70, 91, and what calls of these answer. -/
import Derived.Test.YtnhmgokjijlhbaaSx
namespace Go.AM
open Go.Proofs

noncomputable def f3 (rec : Rec) (_k : Nat) (v0 : Value) (n0 : Int) (h0 : H) : Option (Value × H) :=
  calls rec h0 18 [v0] fun v1 h1 =>
  calls rec h1 17 [v1] fun v2 h2 =>
  ext v2 0 fun _ =>
  ext v2 1 fun v4 =>
  asI .i64 v4 fun n1 =>
  ifB (not (eq n1 0)) (
    ifB (eq n1 2) (
      calls rec h2 19 [] fun v5 h3 =>
      asB v5 fun q0 =>
      some ((.bool q0), h3)) (
      ifB (eq n1 4) (
        calls rec h2 19 [] fun v6 h4 =>
        asB v6 fun q1 =>
        some ((.bool q1), h4)) (
        some ((.bool false), h2)))) (
    len v0 fun n2 =>
    nz (wr .u64 n2) (
      calls rec h2 18 [v0] fun v7 h5 =>
      six v7 (wr .i64 (rem .u64 (wr .u64 n0) (wr .u64 n2))) 1 fun b0 b1 =>
      ld Try.prog h5 3 b0 b1 fun v8 =>
      asI .i64 v8 fun n3 =>
      six v7 (wr .i64 (rem .u64 (wr .u64 n0) (wr .u64 n2))) 1 fun b2 b3 =>
      st Try.prog h5 3 b2 b3 (.int .i64 (add .i64 n3 1)) fun h6 =>
      calls rec h6 17 [v7] fun v9 h7 =>
      ext v9 0 fun _ =>
      ext v9 1 fun v11 =>
      asI .i64 v11 fun n4 =>
      ifB (not (eq n4 0)) (
        ifB (not (eq n4 2)) (
          some ((.bool false), h7)) (
          len v0 fun n5 =>
          ifB (lt n5 2) (
            calls rec h7 19 [] fun v12 h8 =>
            asB v12 fun q2 =>
            some ((.bool q2), h8)) (
            sli Try.prog h7 22 v0 none (some (.int .i64 (wr .i64 (rem .u64 (wr .u64 n0) (wr .u64 n2))))) none fun v13 =>
            calls rec h7 18 [v13] fun v14 h9 =>
            sli Try.prog h9 22 v0 (some (.int .i64 (add .i64 (wr .i64 (rem .u64 (wr .u64 n0) (wr .u64 n2))) 1))) none none fun v15 =>
            ck (fres v0 (nx h7) (same h9 h7)) (
              app Try.prog h9 22 22 v14 v15 fun v16 h10 =>
              calls rec h10 17 [v16] fun v17 h11 =>
              ext v17 0 fun _ =>
              ext v17 1 fun v19 =>
              asI .i64 v19 fun n6 =>
              ifB (eq n6 0) (
                calls rec h11 19 [] fun v20 h12 =>
                asB v20 fun q3 =>
                some ((.bool q3), h12)) (
                some ((.bool false), h11)))))) (
        len v0 fun n7 =>
        ifB (lt n7 2) (
          calls rec h7 19 [] fun v21 h13 =>
          asB v21 fun q4 =>
          some ((.bool q4), h13)) (
          sli Try.prog h7 22 v0 none (some (.int .i64 (wr .i64 (rem .u64 (wr .u64 n0) (wr .u64 n2))))) none fun v22 =>
          calls rec h7 18 [v22] fun v23 h14 =>
          sli Try.prog h14 22 v0 (some (.int .i64 (add .i64 (wr .i64 (rem .u64 (wr .u64 n0) (wr .u64 n2))) 1))) none none fun v24 =>
          ck (fres v0 (nx h7) (same h14 h7)) (
            app Try.prog h14 22 22 v23 v24 fun v25 h15 =>
            calls rec h15 17 [v25] fun v26 h16 =>
            ext v26 0 fun _ =>
            ext v26 1 fun v28 =>
            asI .i64 v28 fun n8 =>
            ifB (eq n8 0) (
              calls rec h16 19 [] fun v29 h17 =>
              asB v29 fun q5 =>
              some ((.bool q5), h17)) (
              some ((.bool false), h16)))))))

theorem e3 (rec : Rec) (k : Nat) (v0 : Value) (n0 : Int) (h : H) : bodyT Try.prog E0 SC (XC Try.prog rec k) 3 (Value × H) [.opq v0, .int .i64 n0] h (fun v h => some (v, h)) = f3 rec k v0 n0 h := by kernel_rfl
theorem t3 {k : Nat} {v0 : Value} {n0 : Int} {h h1 : H} {v : Value} (hh : f3 rn k v0 n0 h = some (v, h1)) : rn 3 #[v0, .int .i64 n0] h = some (v, trunc Try.prog h h1 v) :=
  run_of_bodyT (args := [.opq v0, .int .i64 n0]) rfl ((e3 _ _ _ _ _).trans hh)
theorem p3 {k : Nat} {v0 : Value} {n0 : Int} {h h1 : H} {v : Value} (hh : f3 rn k v0 n0 h = some (v, h1)) (hp : plainO v = true) (x : Ext h h1) : rn 3 #[v0, .int .i64 n0] h = some (v, h) := by rw [t3 hh, trunc_pure hp x]
theorem x3 {k : Nat} {v0 : Value} {n0 : Int} {h h1 : H} {v : Value} (hh : f3 rn k v0 n0 h = some (v, h1)) (hp : plainO v = false) : rn 3 #[v0, .int .i64 n0] h = some (v, h1) := by rw [t3 hh, trunc_not hp]

noncomputable def f5 (rec : Rec) (_k : Nat) (v0 : Value) (h0 : H) : Option (Value × H) :=
  calls rec h0 18 [v0] fun v1 h1 =>
  calls rec h1 20 [v1] fun v2 h2 =>
  ext v2 0 fun v3 =>
  ext v2 1 fun v4 =>
  asI .i64 v4 fun n0 =>
  al h2 31 [(.int .i64 0), (.int .i64 0)] fun h3 =>
  st Try.prog h3 31 (nx h2) 0 v3 fun h4 =>
  calls rec h4 18 [v0] fun v5 h5 =>
  calls rec h5 17 [v5] fun v6 h6 =>
  ext v6 0 fun _ =>
  ext v6 1 fun v8 =>
  asI .i64 v8 fun n1 =>
  ifB (not (eq n0 0)) (
    ifB (eq n0 2) (
      ifB (eq n1 2) (
        calls rec h6 19 [] fun v9 h7 =>
        asB v9 fun q0 =>
        some ((.bool q0), h7)) (
        some ((.bool false), h6))) (
      some ((.bool false), h6))) (
    ifB (not (eq n1 0)) (
      ifB (not (eq n1 4)) (
        some ((.bool false), h6)) (
        ld Try.prog h6 3 (nx h2) (off 0 1) fun v10 =>
        asI .i64 v10 fun n2 =>
        ifB (lt n2 1) (
          some ((.bool false), h6)) (
          ld Try.prog h6 3 (nx h2) 0 fun v11 =>
          asI .i64 v11 fun n3 =>
          ifB (lt n3 1) (
            some ((.bool false), h6)) (
            ld Try.prog h6 3 (nx h2) (off 0 1) fun v12 =>
            asI .i64 v12 fun n4 =>
            ifB (lt 1048576 n4) (
              some ((.bool false), h6)) (
              ld Try.prog h6 3 (nx h2) 0 fun v13 =>
              asI .i64 v13 fun n5 =>
              ifB (lt 1048576 n5) (
                some ((.bool false), h6)) (
                ifB (eq n1 0) (
                  calls rec h6 23 [(.int .i64 1), (.int .i64 1), (pt (nx h2) 0)] fun v14 h8 =>
                  asB v14 fun q1 =>
                  ifB q1 (
                    calls rec h8 19 [] fun v15 h9 =>
                    asB v15 fun q2 =>
                    some ((.bool q2), h9)) (
                    some ((.bool false), h8))) (
                  calls rec h6 23 [(.int .i64 1), (.int .i64 2), (pt (nx h2) 0)] fun v16 h10 =>
                  asB v16 fun q3 =>
                  ifB (not q3) (
                    len v0 fun n6 =>
                    ifB (lt 3 n6) (
                      len v0 fun n7 =>
                      ifB (not (eq n7 2)) (
                        len v0 fun n8 =>
                        ifB (not (eq n8 1)) (
                          calls rec h10 19 [] fun v17 h11 =>
                          asB v17 fun q4 =>
                          some ((.bool q4), h11)) (
                          some ((.bool false), h10))) (
                        calls rec h10 23 [(.int .i64 1), (.int .i64 1), (pt (nx h2) 0)] fun v18 h12 =>
                        asB v18 fun q5 =>
                        ifB (not q5) (
                          len v0 fun n9 =>
                          ifB (not (eq n9 1)) (
                            calls rec h12 19 [] fun v19 h13 =>
                            asB v19 fun q6 =>
                            some ((.bool q6), h13)) (
                            some ((.bool false), h12))) (
                          some ((.bool false), h12)))) (
                      calls rec h10 23 [(.int .i64 5), (.int .i64 6), (pt (nx h2) 0)] fun v20 h14 =>
                      asB v20 fun q7 =>
                      ifB (not q7) (
                        len v0 fun n10 =>
                        ifB (not (eq n10 2)) (
                          len v0 fun n11 =>
                          ifB (not (eq n11 1)) (
                            calls rec h14 19 [] fun v21 h15 =>
                            asB v21 fun q8 =>
                            some ((.bool q8), h15)) (
                            some ((.bool false), h14))) (
                          calls rec h14 23 [(.int .i64 1), (.int .i64 1), (pt (nx h2) 0)] fun v22 h16 =>
                          asB v22 fun q9 =>
                          ifB (not q9) (
                            len v0 fun n12 =>
                            ifB (not (eq n12 1)) (
                              calls rec h16 19 [] fun v23 h17 =>
                              asB v23 fun q10 =>
                              some ((.bool q10), h17)) (
                              some ((.bool false), h16))) (
                            some ((.bool false), h16)))) (
                        some ((.bool false), h14)))) (
                    some ((.bool false), h10))))))))) (
      ld Try.prog h6 3 (nx h2) (off 0 1) fun v24 =>
      asI .i64 v24 fun n13 =>
      ifB (lt n13 1) (
        some ((.bool false), h6)) (
        ld Try.prog h6 3 (nx h2) 0 fun v25 =>
        asI .i64 v25 fun n14 =>
        ifB (lt n14 1) (
          some ((.bool false), h6)) (
          ld Try.prog h6 3 (nx h2) (off 0 1) fun v26 =>
          asI .i64 v26 fun n15 =>
          ifB (lt 1048576 n15) (
            some ((.bool false), h6)) (
            ld Try.prog h6 3 (nx h2) 0 fun v27 =>
            asI .i64 v27 fun n16 =>
            ifB (lt 1048576 n16) (
              some ((.bool false), h6)) (
              ifB (eq n1 0) (
                calls rec h6 23 [(.int .i64 1), (.int .i64 1), (pt (nx h2) 0)] fun v28 h18 =>
                asB v28 fun q11 =>
                ifB q11 (
                  calls rec h18 19 [] fun v29 h19 =>
                  asB v29 fun q12 =>
                  some ((.bool q12), h19)) (
                  some ((.bool false), h18))) (
                calls rec h6 23 [(.int .i64 1), (.int .i64 2), (pt (nx h2) 0)] fun v30 h20 =>
                asB v30 fun q13 =>
                ifB (not q13) (
                  len v0 fun n17 =>
                  ifB (lt 3 n17) (
                    len v0 fun n18 =>
                    ifB (not (eq n18 2)) (
                      len v0 fun n19 =>
                      ifB (not (eq n19 1)) (
                        calls rec h20 19 [] fun v31 h21 =>
                        asB v31 fun q14 =>
                        some ((.bool q14), h21)) (
                        some ((.bool false), h20))) (
                      calls rec h20 23 [(.int .i64 1), (.int .i64 1), (pt (nx h2) 0)] fun v32 h22 =>
                      asB v32 fun q15 =>
                      ifB (not q15) (
                        len v0 fun n20 =>
                        ifB (not (eq n20 1)) (
                          calls rec h22 19 [] fun v33 h23 =>
                          asB v33 fun q16 =>
                          some ((.bool q16), h23)) (
                          some ((.bool false), h22))) (
                        some ((.bool false), h22)))) (
                    calls rec h20 23 [(.int .i64 5), (.int .i64 6), (pt (nx h2) 0)] fun v34 h24 =>
                    asB v34 fun q17 =>
                    ifB (not q17) (
                      len v0 fun n21 =>
                      ifB (not (eq n21 2)) (
                        len v0 fun n22 =>
                        ifB (not (eq n22 1)) (
                          calls rec h24 19 [] fun v35 h25 =>
                          asB v35 fun q18 =>
                          some ((.bool q18), h25)) (
                          some ((.bool false), h24))) (
                        calls rec h24 23 [(.int .i64 1), (.int .i64 1), (pt (nx h2) 0)] fun v36 h26 =>
                        asB v36 fun q19 =>
                        ifB (not q19) (
                          len v0 fun n23 =>
                          ifB (not (eq n23 1)) (
                            calls rec h26 19 [] fun v37 h27 =>
                            asB v37 fun q20 =>
                            some ((.bool q20), h27)) (
                            some ((.bool false), h26))) (
                          some ((.bool false), h26)))) (
                      some ((.bool false), h24)))) (
                  some ((.bool false), h20)))))))))

theorem e5 (rec : Rec) (k : Nat) (v0 : Value) (h : H) : bodyT Try.prog E0 SC (XC Try.prog rec k) 5 (Value × H) [.opq v0] h (fun v h => some (v, h)) = f5 rec k v0 h := by kernel_rfl
theorem t5 {k : Nat} {v0 : Value} {h h1 : H} {v : Value} (hh : f5 rn k v0 h = some (v, h1)) : rn 5 #[v0] h = some (v, trunc Try.prog h h1 v) :=
  run_of_bodyT (args := [.opq v0]) rfl ((e5 _ _ _ _).trans hh)
theorem p5 {k : Nat} {v0 : Value} {h h1 : H} {v : Value} (hh : f5 rn k v0 h = some (v, h1)) (hp : plainO v = true) (x : Ext h h1) : rn 5 #[v0] h = some (v, h) := by rw [t5 hh, trunc_pure hp x]
theorem x5 {k : Nat} {v0 : Value} {h h1 : H} {v : Value} (hh : f5 rn k v0 h = some (v, h1)) (hp : plainO v = false) : rn 5 #[v0] h = some (v, h1) := by rw [t5 hh, trunc_not hp]

noncomputable def f6 (rec : Rec) (_k : Nat) (v0 : Value) (h0 : H) : Option (Value × H) :=
  calls rec h0 18 [v0] fun v1 h1 =>
  calls rec h1 24 [v1] fun v2 h2 =>
  ext v2 0 fun v3 =>
  ext v2 1 fun v4 =>
  asI .i64 v4 fun n0 =>
  calls rec h2 21 [v0] fun v5 h3 =>
  asB v5 fun q0 =>
  ifB (not q0) (
    len v3 fun n1 =>
    ifB (eq n1 0) (
      ifB (eq n0 2) (
        calls rec h3 19 [] fun v6 h4 =>
        asB v6 fun q1 =>
        some ((.bool q1), h4)) (
        some ((.bool false), h3))) (
      some ((.bool false), h3))) (
    calls rec h3 25 [v0] fun v7 h5 =>
    ext v7 0 fun v8 =>
    ext v7 1 fun v9 =>
    asI .i64 v9 fun n2 =>
    calls rec h5 26 [v3, v8] fun v10 h6 =>
    asB v10 fun q2 =>
    ifB q2 (
      ifB (eq n0 n2) (
        calls rec h6 19 [] fun v11 h7 =>
        asB v11 fun q3 =>
        some ((.bool q3), h7)) (
        some ((.bool false), h6))) (
      some ((.bool false), h6)))

theorem e6 (rec : Rec) (k : Nat) (v0 : Value) (h : H) : bodyT Try.prog E0 SC (XC Try.prog rec k) 6 (Value × H) [.opq v0] h (fun v h => some (v, h)) = f6 rec k v0 h := by kernel_rfl
theorem t6 {k : Nat} {v0 : Value} {h h1 : H} {v : Value} (hh : f6 rn k v0 h = some (v, h1)) : rn 6 #[v0] h = some (v, trunc Try.prog h h1 v) :=
  run_of_bodyT (args := [.opq v0]) rfl ((e6 _ _ _ _).trans hh)
theorem p6 {k : Nat} {v0 : Value} {h h1 : H} {v : Value} (hh : f6 rn k v0 h = some (v, h1)) (hp : plainO v = true) (x : Ext h h1) : rn 6 #[v0] h = some (v, h) := by rw [t6 hh, trunc_pure hp x]
theorem x6 {k : Nat} {v0 : Value} {h h1 : H} {v : Value} (hh : f6 rn k v0 h = some (v, h1)) (hp : plainO v = false) : rn 6 #[v0] h = some (v, h1) := by rw [t6 hh, trunc_not hp]

noncomputable def f7_l1 (rec : Rec) (_k : Nat) (v0 : Value) (v1 : Value) (n3 : Int) (ws0 : List Value) (h5 : H) : Option (Ex × List Value × H) :=
  asI .i64 (gv ws0 2) fun n4 =>
  ifB (lt n4 n3) (
    calls rec h5 18 [v0] fun v8 h6 =>
    calls rec h6 18 [v1] fun v9 h7 =>
    calls rec h7 28 [v8, v9, gv ws0 2] fun v10 h8 =>
    ext v10 0 fun v11 =>
    ext v10 1 fun v12 =>
    asI .i64 v12 fun n5 =>
    ifB (not (eq n5 0)) (
      ifB (not (eq n5 4)) (
        out .ret [(.bool false), gv ws0 1, gv ws0 2] h8) (
        asI .i64 (gv ws0 2) fun n6 =>
        out .normal [gv ws0 0, gv ws0 1, (.int .i64 (add .i64 n6 1))] h8)) (
      calls rec h8 18 [v0] fun v13 h9 =>
      calls rec h9 27 [v13, v11] fun v14 h10 =>
      ext v14 0 fun v15 =>
      asI .i64 v15 fun n7 =>
      ext v14 1 fun v16 =>
      asI .i64 v16 fun n8 =>
      ifB (not (eq n8 0)) (
        out .ret [(.bool false), gv ws0 1, gv ws0 2] h10) (
        ifB (lt n7 (-1)) (
          out .ret [(.bool false), gv ws0 1, gv ws0 2] h10) (
          ifB (lt n7 0) (
            asI .i64 (gv ws0 2) fun n9 =>
            out .normal [gv ws0 0, (.int .i64 (-1)), (.int .i64 (add .i64 n9 1))] h10) (
            asI .i64 (gv ws0 1) fun n10 =>
            ifB (lt n10 0) (
              asI .i64 (gv ws0 2) fun n11 =>
              out .normal [gv ws0 0, (.int .i64 (-1)), (.int .i64 (add .i64 n11 1))] h10) (
              asI .i64 (gv ws0 1) fun n12 =>
              asI .i64 (gv ws0 2) fun n13 =>
              out .normal [gv ws0 0, (.int .i64 (imax n12 (add .i64 n7 1))), (.int .i64 (add .i64 n13 1))] h10)))))) (
    out (.exit 0) [gv ws0 0, gv ws0 1, gv ws0 2] h5)

noncomputable def f7 (rec : Rec) (k : Nat) (v0 : Value) (v1 : Value) (n0 : Int) (h0 : H) : Option (Value × H) :=
  calls rec h0 18 [v0] fun v2 h1 =>
  calls rec h1 18 [v1] fun v3 h2 =>
  calls rec h2 27 [v2, v3] fun v4 h3 =>
  ext v4 0 fun v5 =>
  asI .i64 v5 fun n1 =>
  ext v4 1 fun v6 =>
  asI .i64 v6 fun n2 =>
  ifB (not (eq n2 0)) (
    ifB (eq n2 2) (
      calls rec h3 19 [] fun v7 h4 =>
      asB v7 fun q0 =>
      some ((.bool q0), h4)) (
      some ((.bool false), h3))) (
    len v0 fun n3 =>
    lp k (f7_l1 rec k v0 v1 n3) [(.bool false), (.int .i64 0), (.int .i64 0)] h3 fun e0 ws1 h11 =>
    onE e0 0 (
      len v0 fun n14 =>
      nz (wr .u64 n14) (
        calls rec h11 18 [v1] fun v17 h12 =>
        six v17 (wr .i64 (rem .u64 (wr .u64 n0) (wr .u64 n14))) 1 fun b0 b1 =>
        ld Try.prog h12 3 b0 b1 fun v18 =>
        asI .i64 v18 fun n15 =>
        six v0 (wr .i64 (rem .u64 (wr .u64 n0) (wr .u64 n14))) 1 fun b2 b3 =>
        ld Try.prog h12 3 b2 b3 fun v19 =>
        asI .i64 v19 fun n16 =>
        six v17 (wr .i64 (rem .u64 (wr .u64 n0) (wr .u64 n14))) 1 fun b4 b5 =>
        st Try.prog h12 3 b4 b5 (.int .i64 (imin (add .i64 n15 1) n16)) fun h13 =>
        calls rec h13 18 [v0] fun v20 h14 =>
        calls rec h14 27 [v20, v17] fun v21 h15 =>
        ext v21 0 fun v22 =>
        asI .i64 v22 fun n17 =>
        ext v21 1 fun v23 =>
        asI .i64 v23 fun n18 =>
        asI .i64 (gv ws1 1) fun n19 =>
        ifB (eq n1 n19) (
          ifB (eq n18 0) (
            ifB (lt n17 0) (
              calls rec h15 19 [] fun v24 h16 =>
              asB v24 fun q1 =>
              some ((.bool q1), h16)) (
              ifB (le 0 n1) (
                ifB (le n1 n17) (
                  calls rec h15 19 [] fun v25 h17 =>
                  asB v25 fun q2 =>
                  some ((.bool q2), h17)) (
                  some ((.bool false), h15))) (
                some ((.bool false), h15)))) (
            some ((.bool false), h15))) (
          some ((.bool false), h15)))) (
      onR e0 (
        some (gv ws1 0, h11))))

theorem e7 (rec : Rec) (k : Nat) (v0 : Value) (v1 : Value) (n0 : Int) (h : H) : bodyT Try.prog E0 SC (XC Try.prog rec k) 7 (Value × H) [.opq v0, .opq v1, .int .i64 n0] h (fun v h => some (v, h)) = f7 rec k v0 v1 n0 h := by kernel_rfl
theorem t7 {k : Nat} {v0 : Value} {v1 : Value} {n0 : Int} {h h1 : H} {v : Value} (hh : f7 rn k v0 v1 n0 h = some (v, h1)) : rn 7 #[v0, v1, .int .i64 n0] h = some (v, trunc Try.prog h h1 v) :=
  run_of_bodyT (args := [.opq v0, .opq v1, .int .i64 n0]) rfl ((e7 _ _ _ _ _ _).trans hh)
theorem p7 {k : Nat} {v0 : Value} {v1 : Value} {n0 : Int} {h h1 : H} {v : Value} (hh : f7 rn k v0 v1 n0 h = some (v, h1)) (hp : plainO v = true) (x : Ext h h1) : rn 7 #[v0, v1, .int .i64 n0] h = some (v, h) := by rw [t7 hh, trunc_pure hp x]
theorem x7 {k : Nat} {v0 : Value} {v1 : Value} {n0 : Int} {h h1 : H} {v : Value} (hh : f7 rn k v0 v1 n0 h = some (v, h1)) (hp : plainO v = false) : rn 7 #[v0, v1, .int .i64 n0] h = some (v, h1) := by rw [t7 hh, trunc_not hp]

noncomputable def f8 (rec : Rec) (_k : Nat) (v0 : Value) (v1 : Value) (h0 : H) : Option (Value × H) :=
  calls rec h0 18 [v0] fun v2 h1 =>
  calls rec h1 17 [v2] fun v3 h2 =>
  ext v3 0 fun v4 =>
  ext v3 1 fun v5 =>
  asI .i64 v5 fun n0 =>
  calls rec h2 18 [v0] fun v6 h3 =>
  calls rec h3 30 [v1] fun v7 h4 =>
  calls rec h4 29 [v6, v7] fun v8 h5 =>
  ext v8 0 fun v9 =>
  asB v9 fun q0 =>
  ext v8 1 fun v10 =>
  asI .i64 v10 fun n1 =>
  calls rec h5 21 [v0] fun v11 h6 =>
  asB v11 fun q1 =>
  ifB (not q1) (
    len v4 fun n2 =>
    ifB (eq n2 0) (
      ifB (not q0) (
        ifB (eq n0 2) (
          ifB (eq n1 2) (
            calls rec h6 19 [] fun v12 h7 =>
            asB v12 fun q2 =>
            some ((.bool q2), h7)) (
            some ((.bool false), h6))) (
          some ((.bool false), h6))) (
        some ((.bool false), h6))) (
      some ((.bool false), h6))) (
    calls rec h6 31 [v0, v1] fun v13 h8 =>
    asB v13 fun q3 =>
    eqv Try.prog 4 (.bool q0) (.bool q3) fun q4 =>
    ifB (not q4) (
      some ((.bool false), h8)) (
      ifB (not (eq n1 0)) (
        some ((.bool false), h8)) (
        calls rec h8 19 [] fun v14 h9 =>
        asB v14 fun q5 =>
        ifB (not q5) (
          some ((.bool false), h9)) (
          calls rec h9 32 [v0] fun v15 h10 =>
          asB v15 fun q6 =>
          ifB (not q6) (
            len v4 fun n3 =>
            ifB (eq n3 0) (
              some ((.bool (eq n0 4)), h10)) (
              some ((.bool false), h10))) (
            calls rec h10 31 [v0, v4] fun v16 h11 =>
            asB v16 fun q7 =>
            ifB q7 (
              some ((.bool (eq n0 0)), h11)) (
              some ((.bool false), h11)))))))

theorem e8 (rec : Rec) (k : Nat) (v0 : Value) (v1 : Value) (h : H) : bodyT Try.prog E0 SC (XC Try.prog rec k) 8 (Value × H) [.opq v0, .opq v1] h (fun v h => some (v, h)) = f8 rec k v0 v1 h := by kernel_rfl
theorem t8 {k : Nat} {v0 : Value} {v1 : Value} {h h1 : H} {v : Value} (hh : f8 rn k v0 v1 h = some (v, h1)) : rn 8 #[v0, v1] h = some (v, trunc Try.prog h h1 v) :=
  run_of_bodyT (args := [.opq v0, .opq v1]) rfl ((e8 _ _ _ _ _).trans hh)
theorem p8 {k : Nat} {v0 : Value} {v1 : Value} {h h1 : H} {v : Value} (hh : f8 rn k v0 v1 h = some (v, h1)) (hp : plainO v = true) (x : Ext h h1) : rn 8 #[v0, v1] h = some (v, h) := by rw [t8 hh, trunc_pure hp x]
theorem x8 {k : Nat} {v0 : Value} {v1 : Value} {h h1 : H} {v : Value} (hh : f8 rn k v0 v1 h = some (v, h1)) (hp : plainO v = false) : rn 8 #[v0, v1] h = some (v, h1) := by rw [t8 hh, trunc_not hp]

noncomputable def f14_l1 (rec : Rec) (_k : Nat) (v0 : Value) (v7 : Value) (n3 : Int) (ws0 : List Value) (h10 : H) : Option (Ex × List Value × H) :=
  asI .i64 (gv ws0 2) fun n4 =>
  ifB (lt n4 n3) (
    asK (gv ws0 2) fun n5 =>
    six v7 n5 1 fun b0 b1 =>
    ld Try.prog h10 3 b0 b1 fun v16 =>
    asI .i64 v16 fun n6 =>
    calls rec h10 18 [v0] fun v17 h11 =>
    calls rec h11 27 [v17, gv ws0 1] fun v18 h12 =>
    ext v18 0 fun v19 =>
    asI .i64 v19 fun n7 =>
    ext v18 1 fun v20 =>
    asI .i64 v20 fun n8 =>
    ifB (not (eq n8 0)) (
      out .ret [(.bool false), gv ws0 1, gv ws0 2] h12) (
      len v7 fun n9 =>
      asI .i64 (gv ws0 2) fun n10 =>
      ifB (not (eq n7 (sub .i64 n9 n10))) (
        out .ret [(.bool false), gv ws0 1, gv ws0 2] h12) (
        calls rec h12 18 [v0] fun v21 h13 =>
        calls rec h13 28 [v21, gv ws0 1, (.int .i64 n6)] fun v22 h14 =>
        ext v22 0 fun v23 =>
        ext v22 1 fun v24 =>
        asI .i64 v24 fun n11 =>
        ifB (not (eq n11 0)) (
          out .ret [(.bool false), v23, gv ws0 2] h14) (
          asI .i64 (gv ws0 2) fun n12 =>
          out .normal [gv ws0 0, v23, (.int .i64 (add .i64 n12 1))] h14)))) (
    out (.exit 0) [gv ws0 0, gv ws0 1, gv ws0 2] h10)

noncomputable def f14_l2 (rec : Rec) (_k : Nat) (v0 : Value) (ws1 : List Value) (n13 : Int) (ws2 : List Value) (h16 : H) : Option (Ex × List Value × H) :=
  asI .i64 (gv ws2 1) fun n14 =>
  ifB (lt n14 n13) (
    calls rec h16 18 [v0] fun v25 h17 =>
    calls rec h17 28 [v25, gv ws1 1, gv ws2 1] fun v26 h18 =>
    ext v26 0 fun _ =>
    ext v26 1 fun v28 =>
    asI .i64 v28 fun n15 =>
    ifB (not (eq n15 4)) (
      out .ret [(.bool false), gv ws2 1] h18) (
      asI .i64 (gv ws2 1) fun n16 =>
      out .normal [gv ws2 0, (.int .i64 (add .i64 n16 1))] h18)) (
    out (.exit 2) [gv ws2 0, gv ws2 1] h16)

noncomputable def f14_l3 (rec : Rec) (_k : Nat) (v0 : Value) (v7 : Value) (n18 : Int) (ws4 : List Value) (h25 : H) : Option (Ex × List Value × H) :=
  asI .i64 (gv ws4 2) fun n19 =>
  ifB (lt n19 n18) (
    asK (gv ws4 2) fun n20 =>
    six v7 n20 1 fun b2 b3 =>
    ld Try.prog h25 3 b2 b3 fun v36 =>
    asI .i64 v36 fun n21 =>
    calls rec h25 18 [v0] fun v37 h26 =>
    calls rec h26 27 [v37, gv ws4 1] fun v38 h27 =>
    ext v38 0 fun v39 =>
    asI .i64 v39 fun n22 =>
    ext v38 1 fun v40 =>
    asI .i64 v40 fun n23 =>
    ifB (not (eq n23 0)) (
      out .ret [(.bool false), gv ws4 1, gv ws4 2] h27) (
      len v7 fun n24 =>
      asI .i64 (gv ws4 2) fun n25 =>
      ifB (not (eq n22 (sub .i64 n24 n25))) (
        out .ret [(.bool false), gv ws4 1, gv ws4 2] h27) (
        calls rec h27 18 [v0] fun v41 h28 =>
        calls rec h28 28 [v41, gv ws4 1, (.int .i64 n21)] fun v42 h29 =>
        ext v42 0 fun v43 =>
        ext v42 1 fun v44 =>
        asI .i64 v44 fun n26 =>
        ifB (not (eq n26 0)) (
          out .ret [(.bool false), v43, gv ws4 2] h29) (
          asI .i64 (gv ws4 2) fun n27 =>
          out .normal [gv ws4 0, v43, (.int .i64 (add .i64 n27 1))] h29)))) (
    out (.exit 0) [gv ws4 0, gv ws4 1, gv ws4 2] h25)

noncomputable def f14_l4 (rec : Rec) (_k : Nat) (v0 : Value) (ws5 : List Value) (n28 : Int) (ws6 : List Value) (h31 : H) : Option (Ex × List Value × H) :=
  asI .i64 (gv ws6 1) fun n29 =>
  ifB (lt n29 n28) (
    calls rec h31 18 [v0] fun v45 h32 =>
    calls rec h32 28 [v45, gv ws5 1, gv ws6 1] fun v46 h33 =>
    ext v46 0 fun _ =>
    ext v46 1 fun v48 =>
    asI .i64 v48 fun n30 =>
    ifB (not (eq n30 4)) (
      out .ret [(.bool false), gv ws6 1] h33) (
      asI .i64 (gv ws6 1) fun n31 =>
      out .normal [gv ws6 0, (.int .i64 (add .i64 n31 1))] h33)) (
    out (.exit 2) [gv ws6 0, gv ws6 1] h31)

noncomputable def f14_l5 (rec : Rec) (_k : Nat) (v0 : Value) (v7 : Value) (n33 : Int) (ws8 : List Value) (h40 : H) : Option (Ex × List Value × H) :=
  asI .i64 (gv ws8 2) fun n34 =>
  ifB (lt n34 n33) (
    asK (gv ws8 2) fun n35 =>
    six v7 n35 1 fun b4 b5 =>
    ld Try.prog h40 3 b4 b5 fun v56 =>
    asI .i64 v56 fun n36 =>
    calls rec h40 18 [v0] fun v57 h41 =>
    calls rec h41 27 [v57, gv ws8 1] fun v58 h42 =>
    ext v58 0 fun v59 =>
    asI .i64 v59 fun n37 =>
    ext v58 1 fun v60 =>
    asI .i64 v60 fun n38 =>
    ifB (not (eq n38 0)) (
      out .ret [(.bool false), gv ws8 1, gv ws8 2] h42) (
      len v7 fun n39 =>
      asI .i64 (gv ws8 2) fun n40 =>
      ifB (not (eq n37 (sub .i64 n39 n40))) (
        out .ret [(.bool false), gv ws8 1, gv ws8 2] h42) (
        calls rec h42 18 [v0] fun v61 h43 =>
        calls rec h43 28 [v61, gv ws8 1, (.int .i64 n36)] fun v62 h44 =>
        ext v62 0 fun v63 =>
        ext v62 1 fun v64 =>
        asI .i64 v64 fun n41 =>
        ifB (not (eq n41 0)) (
          out .ret [(.bool false), v63, gv ws8 2] h44) (
          asI .i64 (gv ws8 2) fun n42 =>
          out .normal [gv ws8 0, v63, (.int .i64 (add .i64 n42 1))] h44)))) (
    out (.exit 0) [gv ws8 0, gv ws8 1, gv ws8 2] h40)

noncomputable def f14_l6 (rec : Rec) (_k : Nat) (v0 : Value) (ws9 : List Value) (n43 : Int) (ws10 : List Value) (h46 : H) : Option (Ex × List Value × H) :=
  asI .i64 (gv ws10 1) fun n44 =>
  ifB (lt n44 n43) (
    calls rec h46 18 [v0] fun v65 h47 =>
    calls rec h47 28 [v65, gv ws9 1, gv ws10 1] fun v66 h48 =>
    ext v66 0 fun _ =>
    ext v66 1 fun v68 =>
    asI .i64 v68 fun n45 =>
    ifB (not (eq n45 4)) (
      out .ret [(.bool false), gv ws10 1] h48) (
      asI .i64 (gv ws10 1) fun n46 =>
      out .normal [gv ws10 0, (.int .i64 (add .i64 n46 1))] h48)) (
    out (.exit 2) [gv ws10 0, gv ws10 1] h46)

noncomputable def f14_l7 (rec : Rec) (_k : Nat) (v0 : Value) (v7 : Value) (n48 : Int) (ws12 : List Value) (h55 : H) : Option (Ex × List Value × H) :=
  asI .i64 (gv ws12 2) fun n49 =>
  ifB (lt n49 n48) (
    asK (gv ws12 2) fun n50 =>
    six v7 n50 1 fun b6 b7 =>
    ld Try.prog h55 3 b6 b7 fun v76 =>
    asI .i64 v76 fun n51 =>
    calls rec h55 18 [v0] fun v77 h56 =>
    calls rec h56 27 [v77, gv ws12 1] fun v78 h57 =>
    ext v78 0 fun v79 =>
    asI .i64 v79 fun n52 =>
    ext v78 1 fun v80 =>
    asI .i64 v80 fun n53 =>
    ifB (not (eq n53 0)) (
      out .ret [(.bool false), gv ws12 1, gv ws12 2] h57) (
      len v7 fun n54 =>
      asI .i64 (gv ws12 2) fun n55 =>
      ifB (not (eq n52 (sub .i64 n54 n55))) (
        out .ret [(.bool false), gv ws12 1, gv ws12 2] h57) (
        calls rec h57 18 [v0] fun v81 h58 =>
        calls rec h58 28 [v81, gv ws12 1, (.int .i64 n51)] fun v82 h59 =>
        ext v82 0 fun v83 =>
        ext v82 1 fun v84 =>
        asI .i64 v84 fun n56 =>
        ifB (not (eq n56 0)) (
          out .ret [(.bool false), v83, gv ws12 2] h59) (
          asI .i64 (gv ws12 2) fun n57 =>
          out .normal [gv ws12 0, v83, (.int .i64 (add .i64 n57 1))] h59)))) (
    out (.exit 0) [gv ws12 0, gv ws12 1, gv ws12 2] h55)

noncomputable def f14_l8 (rec : Rec) (_k : Nat) (v0 : Value) (ws13 : List Value) (n58 : Int) (ws14 : List Value) (h61 : H) : Option (Ex × List Value × H) :=
  asI .i64 (gv ws14 1) fun n59 =>
  ifB (lt n59 n58) (
    calls rec h61 18 [v0] fun v85 h62 =>
    calls rec h62 28 [v85, gv ws13 1, gv ws14 1] fun v86 h63 =>
    ext v86 0 fun _ =>
    ext v86 1 fun v88 =>
    asI .i64 v88 fun n60 =>
    ifB (not (eq n60 4)) (
      out .ret [(.bool false), gv ws14 1] h63) (
      asI .i64 (gv ws14 1) fun n61 =>
      out .normal [gv ws14 0, (.int .i64 (add .i64 n61 1))] h63)) (
    out (.exit 2) [gv ws14 0, gv ws14 1] h61)

noncomputable def f14 (rec : Rec) (k : Nat) (v0 : Value) (h0 : H) : Option (Value × H) :=
  calls rec h0 18 [v0] fun v1 h1 =>
  calls rec h1 17 [v1] fun v2 h2 =>
  ext v2 0 fun v3 =>
  ext v2 1 fun v4 =>
  asI .i64 v4 fun n0 =>
  calls rec h2 18 [v0] fun v5 h3 =>
  calls rec h3 24 [v5] fun v6 h4 =>
  ext v6 0 fun v7 =>
  ext v6 1 fun v8 =>
  asI .i64 v8 fun n1 =>
  ifB (eq n0 2) (
    ifB (eq n1 2) (
      calls rec h4 19 [] fun v9 h5 =>
      asB v9 fun q0 =>
      some ((.bool q0), h5)) (
      some ((.bool false), h4))) (
    eqv Try.prog 4 (.bool (eq n0 0)) (.bool (eq n1 0)) fun q1 =>
    ifB q1 (
      some ((.bool false), h4)) (
      ifB (not (eq n0 0)) (
        ifB (not (eq n0 4)) (
          some ((.bool false), h4)) (
          ifB (not (eq n1 0)) (
            ifB (not (eq n1 4)) (
              some ((.bool false), h4)) (
              ifB (eq n0 0) (
                calls rec h4 18 [v0] fun v10 h6 =>
                calls rec h6 29 [v10, v3] fun v11 h7 =>
                ext v11 0 fun v12 =>
                asB v12 fun q2 =>
                ext v11 1 fun v13 =>
                asI .i64 v13 fun n2 =>
                ifB q2 (
                  ifB (eq n2 0) (
                    calls rec h7 19 [] fun v14 h8 =>
                    asB v14 fun q3 =>
                    some ((.bool q3), h8)) (
                    some ((.bool false), h7))) (
                  some ((.bool false), h7))) (
                calls rec h4 18 [v0] fun v15 h9 =>
                len v7 fun n3 =>
                lp k (f14_l1 rec k v0 v7 n3) [(.bool false), v15, (.int .i64 0)] h9 fun e0 ws1 h15 =>
                onE e0 0 (
                  len v0 fun n13 =>
                  lp k (f14_l2 rec k v0 ws1 n13) [gv ws1 0, (.int .i64 0)] h15 fun e1 ws3 h19 =>
                  onE e1 2 (
                    calls rec h19 19 [] fun v29 h20 =>
                    asB v29 fun q4 =>
                    some ((.bool q4), h20)) (
                    onR e1 (
                      some (gv ws3 0, h19)))) (
                  onR e0 (
                    some (gv ws1 0, h15)))))) (
            ifB (eq n0 0) (
              calls rec h4 18 [v0] fun v30 h21 =>
              calls rec h21 29 [v30, v3] fun v31 h22 =>
              ext v31 0 fun v32 =>
              asB v32 fun q5 =>
              ext v31 1 fun v33 =>
              asI .i64 v33 fun n17 =>
              ifB q5 (
                ifB (eq n17 0) (
                  calls rec h22 19 [] fun v34 h23 =>
                  asB v34 fun q6 =>
                  some ((.bool q6), h23)) (
                  some ((.bool false), h22))) (
                some ((.bool false), h22))) (
              calls rec h4 18 [v0] fun v35 h24 =>
              len v7 fun n18 =>
              lp k (f14_l3 rec k v0 v7 n18) [(.bool false), v35, (.int .i64 0)] h24 fun e2 ws5 h30 =>
              onE e2 0 (
                len v0 fun n28 =>
                lp k (f14_l4 rec k v0 ws5 n28) [gv ws5 0, (.int .i64 0)] h30 fun e3 ws7 h34 =>
                onE e3 2 (
                  calls rec h34 19 [] fun v49 h35 =>
                  asB v49 fun q7 =>
                  some ((.bool q7), h35)) (
                  onR e3 (
                    some (gv ws7 0, h34)))) (
                onR e2 (
                  some (gv ws5 0, h30))))))) (
        ifB (not (eq n1 0)) (
          ifB (not (eq n1 4)) (
            some ((.bool false), h4)) (
            ifB (eq n0 0) (
              calls rec h4 18 [v0] fun v50 h36 =>
              calls rec h36 29 [v50, v3] fun v51 h37 =>
              ext v51 0 fun v52 =>
              asB v52 fun q8 =>
              ext v51 1 fun v53 =>
              asI .i64 v53 fun n32 =>
              ifB q8 (
                ifB (eq n32 0) (
                  calls rec h37 19 [] fun v54 h38 =>
                  asB v54 fun q9 =>
                  some ((.bool q9), h38)) (
                  some ((.bool false), h37))) (
                some ((.bool false), h37))) (
              calls rec h4 18 [v0] fun v55 h39 =>
              len v7 fun n33 =>
              lp k (f14_l5 rec k v0 v7 n33) [(.bool false), v55, (.int .i64 0)] h39 fun e4 ws9 h45 =>
              onE e4 0 (
                len v0 fun n43 =>
                lp k (f14_l6 rec k v0 ws9 n43) [gv ws9 0, (.int .i64 0)] h45 fun e5 ws11 h49 =>
                onE e5 2 (
                  calls rec h49 19 [] fun v69 h50 =>
                  asB v69 fun q10 =>
                  some ((.bool q10), h50)) (
                  onR e5 (
                    some (gv ws11 0, h49)))) (
                onR e4 (
                  some (gv ws9 0, h45)))))) (
          ifB (eq n0 0) (
            calls rec h4 18 [v0] fun v70 h51 =>
            calls rec h51 29 [v70, v3] fun v71 h52 =>
            ext v71 0 fun v72 =>
            asB v72 fun q11 =>
            ext v71 1 fun v73 =>
            asI .i64 v73 fun n47 =>
            ifB q11 (
              ifB (eq n47 0) (
                calls rec h52 19 [] fun v74 h53 =>
                asB v74 fun q12 =>
                some ((.bool q12), h53)) (
                some ((.bool false), h52))) (
              some ((.bool false), h52))) (
            calls rec h4 18 [v0] fun v75 h54 =>
            len v7 fun n48 =>
            lp k (f14_l7 rec k v0 v7 n48) [(.bool false), v75, (.int .i64 0)] h54 fun e6 ws13 h60 =>
            onE e6 0 (
              len v0 fun n58 =>
              lp k (f14_l8 rec k v0 ws13 n58) [gv ws13 0, (.int .i64 0)] h60 fun e7 ws15 h64 =>
              onE e7 2 (
                calls rec h64 19 [] fun v89 h65 =>
                asB v89 fun q13 =>
                some ((.bool q13), h65)) (
                onR e7 (
                  some (gv ws15 0, h64)))) (
              onR e6 (
                some (gv ws13 0, h60))))))))

theorem e14 (rec : Rec) (k : Nat) (v0 : Value) (h : H) : bodyT Try.prog E0 SC (XC Try.prog rec k) 14 (Value × H) [.opq v0] h (fun v h => some (v, h)) = f14 rec k v0 h := by kernel_rfl
theorem t14 {k : Nat} {v0 : Value} {h h1 : H} {v : Value} (hh : f14 rn k v0 h = some (v, h1)) : rn 14 #[v0] h = some (v, trunc Try.prog h h1 v) :=
  run_of_bodyT (args := [.opq v0]) rfl ((e14 _ _ _ _).trans hh)
theorem p14 {k : Nat} {v0 : Value} {h h1 : H} {v : Value} (hh : f14 rn k v0 h = some (v, h1)) (hp : plainO v = true) (x : Ext h h1) : rn 14 #[v0] h = some (v, h) := by rw [t14 hh, trunc_pure hp x]
theorem x14 {k : Nat} {v0 : Value} {h h1 : H} {v : Value} (hh : f14 rn k v0 h = some (v, h1)) (hp : plainO v = false) : rn 14 #[v0] h = some (v, h1) := by rw [t14 hh, trunc_not hp]

noncomputable def f23 (_rec : Rec) (_k : Nat) (n0 : Int) (n1 : Int) (v0 : Value) (h0 : H) : Option (Value × H) :=
  asP v0 fun b0 b1 =>
  ld Try.prog h0 3 b0 b1 fun v1 =>
  asI .i64 v1 fun n2 =>
  asP v0 fun b2 b3 =>
  ld Try.prog h0 3 b2 (off b3 1) fun v2 =>
  asI .i64 v2 fun n3 =>
  some ((.bool (le (mul .i64 n2 n1) (mul .i64 n3 n0))), h0)

theorem e23 (rec : Rec) (k : Nat) (n0 : Int) (n1 : Int) (v0 : Value) (h : H) : bodyT Try.prog E0 SC (XC Try.prog rec k) 23 (Value × H) [.int .i64 n0, .int .i64 n1, .opq v0] h (fun v h => some (v, h)) = f23 rec k n0 n1 v0 h := by kernel_rfl
theorem t23 {k : Nat} {n0 : Int} {n1 : Int} {v0 : Value} {h h1 : H} {v : Value} (hh : f23 rn k n0 n1 v0 h = some (v, h1)) : rn 23 #[.int .i64 n0, .int .i64 n1, v0] h = some (v, trunc Try.prog h h1 v) :=
  run_of_bodyT (args := [.int .i64 n0, .int .i64 n1, .opq v0]) rfl ((e23 _ _ _ _ _ _).trans hh)
theorem p23 {k : Nat} {n0 : Int} {n1 : Int} {v0 : Value} {h h1 : H} {v : Value} (hh : f23 rn k n0 n1 v0 h = some (v, h1)) (hp : plainO v = true) (x : Ext h h1) : rn 23 #[.int .i64 n0, .int .i64 n1, v0] h = some (v, h) := by rw [t23 hh, trunc_pure hp x]
theorem x23 {k : Nat} {n0 : Int} {n1 : Int} {v0 : Value} {h h1 : H} {v : Value} (hh : f23 rn k n0 n1 v0 h = some (v, h1)) (hp : plainO v = false) : rn 23 #[.int .i64 n0, .int .i64 n1, v0] h = some (v, h1) := by rw [t23 hh, trunc_not hp]

noncomputable def f24_l1 (rec : Rec) (_k : Nat) (h2 : H) (h5 : H) (ws0 : List Value) (h9 : H) : Option (Ex × List Value × H) :=
  ld Try.prog h9 70 (nx h2) 0 fun v9 =>
  nil v9 (
    asP v9 fun b4 b5 =>
    ld Try.prog h9 22 b4 (off b5 2) fun v10 =>
    ld Try.prog h9 3 (nx h5) 0 fun v11 =>
    asI .i64 v11 fun n3 =>
    six v10 n3 1 fun b6 b7 =>
    ld Try.prog h9 3 b6 b7 fun v12 =>
    asI .i64 v12 fun n4 =>
    ifB (lt 0 n4) (
      ld Try.prog h9 70 (nx h2) 0 fun v13 =>
      nil v13 (
        asP v13 fun b8 b9 =>
        ld Try.prog h9 60 b8 (off b9 1) fun v14 =>
        ld Try.prog h9 3 (nx h5) 0 fun v15 =>
        asI .i64 v15 fun n5 =>
        six v14 n5 1 fun b10 b11 =>
        ld Try.prog h9 22 b10 b11 fun v16 =>
        calls rec h9 60 [v16, (.func (.func 61) #[] #[(pt (nx h2) 0), (pt (nx h5) 0)])] fun v17 h10 =>
        asI .i64 v17 fun n6 =>
        bls Try.prog h10 22 1 [(0, (.int .i64 n6))] fun v18 h11 =>
        app Try.prog h11 22 22 (gv ws0 0) v18 fun v19 h12 =>
        ld Try.prog h12 70 (nx h2) 0 fun v20 =>
        nil v20 (
          asP v20 fun b12 b13 =>
          ld Try.prog h12 60 b12 (off b13 1) fun v21 =>
          ld Try.prog h12 3 (nx h5) 0 fun v22 =>
          asI .i64 v22 fun n7 =>
          six v21 n7 1 fun b14 b15 =>
          ld Try.prog h12 22 b14 b15 fun v23 =>
          six v23 n6 1 fun b16 b17 =>
          ld Try.prog h12 3 b16 b17 fun v24 =>
          asI .i64 v24 fun n8 =>
          st Try.prog h12 3 (nx h5) 0 (.int .i64 n8) fun h13 =>
          out .normal [v19] h13))) (
      out (.exit 0) [gv ws0 0] h9))

noncomputable def f24 (rec : Rec) (k : Nat) (v0 : Value) (h0 : H) : Option (Value × H) :=
  calls rec h0 53 [v0] fun v1 h1 =>
  asB v1 fun q0 =>
  ifB (not q0) (
    some ((.tuple #[(.slice none 0 0), (.int .i64 2)]), h1)) (
    calls rec h1 54 [v0] fun v2 h2 =>
    al h2 70 [(.pointer none)] fun h3 =>
    st Try.prog h3 70 (nx h2) 0 v2 fun h4 =>
    calls rec h4 59 [v0] fun v3 h5 =>
    asI .i64 v3 fun n0 =>
    al h5 3 [(.int .i64 0)] fun h6 =>
    st Try.prog h6 3 (nx h5) 0 (.int .i64 n0) fun h7 =>
    ld Try.prog h7 70 (nx h2) 0 fun v4 =>
    nil v4 (
      asP v4 fun b0 b1 =>
      ld Try.prog h7 22 b0 (off b1 2) fun v5 =>
      ld Try.prog h7 3 (nx h5) 0 fun v6 =>
      asI .i64 v6 fun n1 =>
      six v5 n1 1 fun b2 b3 =>
      ld Try.prog h7 3 b2 b3 fun v7 =>
      asI .i64 v7 fun n2 =>
      ifB (lt n2 0) (
        some ((.tuple #[(.slice none 0 0), (.int .i64 4)]), h7)) (
        bls Try.prog h7 22 0 [] fun v8 h8 =>
        lp k (f24_l1 rec k h2 h5) [v8] h8 fun e0 ws1 h14 =>
        onE e0 0 (
          some ((.tuple #[gv ws1 0, (.int .i64 0)]), h14)) (
          none))))

theorem e24 (rec : Rec) (k : Nat) (v0 : Value) (h : H) : bodyT Try.prog E0 SC (XC Try.prog rec k) 24 (Value × H) [.opq v0] h (fun v h => some (v, h)) = f24 rec k v0 h := by kernel_rfl
theorem t24 {k : Nat} {v0 : Value} {h h1 : H} {v : Value} (hh : f24 rn k v0 h = some (v, h1)) : rn 24 #[v0] h = some (v, trunc Try.prog h h1 v) :=
  run_of_bodyT (args := [.opq v0]) rfl ((e24 _ _ _ _).trans hh)
theorem p24 {k : Nat} {v0 : Value} {h h1 : H} {v : Value} (hh : f24 rn k v0 h = some (v, h1)) (hp : plainO v = true) (x : Ext h h1) : rn 24 #[v0] h = some (v, h) := by rw [t24 hh, trunc_pure hp x]
theorem x24 {k : Nat} {v0 : Value} {h h1 : H} {v : Value} (hh : f24 rn k v0 h = some (v, h1)) (hp : plainO v = false) : rn 24 #[v0] h = some (v, h1) := by rw [t24 hh, trunc_not hp]

noncomputable def f29_l1 (rec : Rec) (_k : Nat) (v0 : Value) (v1 : Value) (n1 : Int) (ws0 : List Value) (h3 : H) : Option (Ex × List Value × H) :=
  asI .i64 (gv ws0 2) fun n2 =>
  ifB (lt n2 n1) (
    asK (gv ws0 2) fun n3 =>
    six v0 n3 1 fun b0 b1 =>
    ld Try.prog h3 3 b0 b1 fun v4 =>
    asI .i64 v4 fun n4 =>
    calls rec h3 69 [v1, gv ws0 2] fun v5 h4 =>
    asI .i64 v5 fun n5 =>
    ifB (eq n5 0) (
      out .ret [(.bool false), (.int .i64 0), gv ws0 2] h4) (
      ifB (lt n4 n5) (
        out .ret [(.bool false), (.int .i64 0), gv ws0 2] h4) (
        asI .i64 (gv ws0 2) fun n6 =>
        out .normal [gv ws0 0, gv ws0 1, (.int .i64 (add .i64 n6 1))] h4))) (
    out (.exit 0) [gv ws0 0, gv ws0 1, gv ws0 2] h3)

noncomputable def f29 (rec : Rec) (k : Nat) (v0 : Value) (v1 : Value) (h0 : H) : Option (Value × H) :=
  calls rec h0 53 [v0] fun v2 h1 =>
  asB v2 fun q0 =>
  ifB (not q0) (
    some ((.tuple #[(.bool false), (.int .i64 2)]), h1)) (
    len v0 fun n0 =>
    calls rec h1 68 [v1, (.int .i64 n0), (.int .i64 4000)] fun v3 h2 =>
    asB v3 fun q1 =>
    ifB (not q1) (
      some ((.tuple #[(.bool false), (.int .i64 0)]), h2)) (
      len v0 fun n1 =>
      lp k (f29_l1 rec k v0 v1 n1) [(.bool false), (.int .i64 0), (.int .i64 0)] h2 fun e0 ws1 h5 =>
      onE e0 0 (
        some ((.tuple #[(.bool true), (.int .i64 0)]), h5)) (
        onR e0 (
          some ((.tuple #[gv ws1 0, gv ws1 1]), h5)))))

theorem e29 (rec : Rec) (k : Nat) (v0 : Value) (v1 : Value) (h : H) : bodyT Try.prog E0 SC (XC Try.prog rec k) 29 (Value × H) [.opq v0, .opq v1] h (fun v h => some (v, h)) = f29 rec k v0 v1 h := by kernel_rfl
theorem t29 {k : Nat} {v0 : Value} {v1 : Value} {h h1 : H} {v : Value} (hh : f29 rn k v0 v1 h = some (v, h1)) : rn 29 #[v0, v1] h = some (v, trunc Try.prog h h1 v) :=
  run_of_bodyT (args := [.opq v0, .opq v1]) rfl ((e29 _ _ _ _ _).trans hh)
theorem p29 {k : Nat} {v0 : Value} {v1 : Value} {h h1 : H} {v : Value} (hh : f29 rn k v0 v1 h = some (v, h1)) (hp : plainO v = true) (x : Ext h h1) : rn 29 #[v0, v1] h = some (v, h) := by rw [t29 hh, trunc_pure hp x]
theorem x29 {k : Nat} {v0 : Value} {v1 : Value} {h h1 : H} {v : Value} (hh : f29 rn k v0 v1 h = some (v, h1)) (hp : plainO v = false) : rn 29 #[v0, v1] h = some (v, h1) := by rw [t29 hh, trunc_not hp]

noncomputable def f30 (rec : Rec) (_k : Nat) (v0 : Value) (h0 : H) : Option (Value × H) :=
  len v0 fun n0 =>
  sli Try.prog h0 22 v0 none (some (.int .i64 (imin n0 20100))) none fun v1 =>
  calls rec h0 56 [v1] fun v2 h1 =>
  some (v2, h1)

theorem e30 (rec : Rec) (k : Nat) (v0 : Value) (h : H) : bodyT Try.prog E0 SC (XC Try.prog rec k) 30 (Value × H) [.opq v0] h (fun v h => some (v, h)) = f30 rec k v0 h := by kernel_rfl
theorem t30 {k : Nat} {v0 : Value} {h h1 : H} {v : Value} (hh : f30 rn k v0 h = some (v, h1)) : rn 30 #[v0] h = some (v, trunc Try.prog h h1 v) :=
  run_of_bodyT (args := [.opq v0]) rfl ((e30 _ _ _ _).trans hh)
theorem p30 {k : Nat} {v0 : Value} {h h1 : H} {v : Value} (hh : f30 rn k v0 h = some (v, h1)) (hp : plainO v = true) (x : Ext h h1) : rn 30 #[v0] h = some (v, h) := by rw [t30 hh, trunc_pure hp x]
theorem x30 {k : Nat} {v0 : Value} {h h1 : H} {v : Value} (hh : f30 rn k v0 h = some (v, h1)) (hp : plainO v = false) : rn 30 #[v0] h = some (v, h1) := by rw [t30 hh, trunc_not hp]

noncomputable def f31_l1 (_rec : Rec) (_k : Nat) (v0 : Value) (v1 : Value) (n2 : Int) (ws0 : List Value) (h1 : H) : Option (Ex × List Value × H) :=
  asI .i64 (gv ws0 1) fun n3 =>
  ifB (lt n3 n2) (
    asK (gv ws0 1) fun n4 =>
    six v1 n4 1 fun b0 b1 =>
    ld Try.prog h1 3 b0 b1 fun v2 =>
    asI .i64 v2 fun n5 =>
    ifB (lt n5 0) (
      out .ret [(.bool false), gv ws0 1] h1) (
      len v0 fun n6 =>
      ifB (le n6 n5) (
        out .ret [(.bool false), gv ws0 1] h1) (
        asI .i64 (gv ws0 1) fun n7 =>
        out .normal [gv ws0 0, (.int .i64 (add .i64 n7 1))] h1))) (
    out (.exit 0) [gv ws0 0, gv ws0 1] h1)

noncomputable def f31_l2 (rec : Rec) (_k : Nat) (v0 : Value) (v1 : Value) (n8 : Int) (ws2 : List Value) (h3 : H) : Option (Ex × List Value × H) :=
  asI .i64 (gv ws2 1) fun n9 =>
  ifB (lt n9 n8) (
    asK (gv ws2 1) fun n10 =>
    six v0 n10 1 fun b2 b3 =>
    ld Try.prog h3 3 b2 b3 fun v3 =>
    asI .i64 v3 fun n11 =>
    calls rec h3 70 [v1, gv ws2 1] fun v4 h4 =>
    asI .i64 v4 fun n12 =>
    ifB (lt n11 n12) (
      out .ret [(.bool false), gv ws2 1] h4) (
      asI .i64 (gv ws2 1) fun n13 =>
      out .normal [gv ws2 0, (.int .i64 (add .i64 n13 1))] h4)) (
    out (.exit 2) [gv ws2 0, gv ws2 1] h3)

noncomputable def f31 (rec : Rec) (k : Nat) (v0 : Value) (v1 : Value) (h0 : H) : Option (Value × H) :=
  len v1 fun n0 =>
  ifB (lt n0 1) (
    some ((.bool false), h0)) (
    len v1 fun n1 =>
    ifB (lt 4000 n1) (
      some ((.bool false), h0)) (
      len v1 fun n2 =>
      lp k (f31_l1 rec k v0 v1 n2) [(.bool false), (.int .i64 0)] h0 fun e0 ws1 h2 =>
      onE e0 0 (
        len v0 fun n8 =>
        lp k (f31_l2 rec k v0 v1 n8) [gv ws1 0, (.int .i64 0)] h2 fun e1 ws3 h5 =>
        onE e1 2 (
          some ((.bool true), h5)) (
          onR e1 (
            some (gv ws3 0, h5)))) (
        onR e0 (
          some (gv ws1 0, h2)))))

theorem e31 (rec : Rec) (k : Nat) (v0 : Value) (v1 : Value) (h : H) : bodyT Try.prog E0 SC (XC Try.prog rec k) 31 (Value × H) [.opq v0, .opq v1] h (fun v h => some (v, h)) = f31 rec k v0 v1 h := by kernel_rfl
theorem t31 {k : Nat} {v0 : Value} {v1 : Value} {h h1 : H} {v : Value} (hh : f31 rn k v0 v1 h = some (v, h1)) : rn 31 #[v0, v1] h = some (v, trunc Try.prog h h1 v) :=
  run_of_bodyT (args := [.opq v0, .opq v1]) rfl ((e31 _ _ _ _ _).trans hh)
theorem p31 {k : Nat} {v0 : Value} {v1 : Value} {h h1 : H} {v : Value} (hh : f31 rn k v0 v1 h = some (v, h1)) (hp : plainO v = true) (x : Ext h h1) : rn 31 #[v0, v1] h = some (v, h) := by rw [t31 hh, trunc_pure hp x]
theorem x31 {k : Nat} {v0 : Value} {v1 : Value} {h h1 : H} {v : Value} (hh : f31 rn k v0 v1 h = some (v, h1)) (hp : plainO v = false) : rn 31 #[v0, v1] h = some (v, h1) := by rw [t31 hh, trunc_not hp]

noncomputable def f32 (rec : Rec) (_k : Nat) (v0 : Value) (h0 : H) : Option (Value × H) :=
  calls rec h0 34 [v0, v0] fun v1 h1 =>
  asI .i64 v1 fun n0 =>
  some ((.bool (lt n0 0)), h1)

theorem e32 (rec : Rec) (k : Nat) (v0 : Value) (h : H) : bodyT Try.prog E0 SC (XC Try.prog rec k) 32 (Value × H) [.opq v0] h (fun v h => some (v, h)) = f32 rec k v0 h := by kernel_rfl
theorem t32 {k : Nat} {v0 : Value} {h h1 : H} {v : Value} (hh : f32 rn k v0 h = some (v, h1)) : rn 32 #[v0] h = some (v, trunc Try.prog h h1 v) :=
  run_of_bodyT (args := [.opq v0]) rfl ((e32 _ _ _ _).trans hh)
theorem p32 {k : Nat} {v0 : Value} {h h1 : H} {v : Value} (hh : f32 rn k v0 h = some (v, h1)) (hp : plainO v = true) (x : Ext h h1) : rn 32 #[v0] h = some (v, h) := by rw [t32 hh, trunc_pure hp x]
theorem x32 {k : Nat} {v0 : Value} {h h1 : H} {v : Value} (hh : f32 rn k v0 h = some (v, h1)) (hp : plainO v = false) : rn 32 #[v0] h = some (v, h1) := by rw [t32 hh, trunc_not hp]

noncomputable def f55_l1 (rec : Rec) (_k : Nat) (h0 : H) (h2 : H) (ws0 : List Value) (h4 : H) : Option (Ex × List Value × H) :=
  lok Try.prog h4 105 (.map (some (nx h2))) (gv ws0 2) true fun v7 =>
  ext v7 0 fun v8 =>
  asI .i64 v8 fun n2 =>
  ext v7 1 fun v9 =>
  asB v9 fun q0 =>
  ifB q0 (
    sli Try.prog h4 22 (gv ws0 1) (some (.int .i64 n2)) none none fun v10 =>
    out .ret [v10, gv ws0 1, gv ws0 2] h4) (
    len (gv ws0 1) fun n3 =>
    mup Try.prog h4 105 (.map (some (nx h2))) (gv ws0 2) (.int .i64 n3) fun h5 =>
    ld Try.prog h5 70 (nx h0) 0 fun v11 =>
    nil v11 (
      asP v11 fun b6 b7 =>
      ld Try.prog h5 60 b6 (off b7 1) fun v12 =>
      asK (gv ws0 2) fun n4 =>
      six v12 n4 1 fun b8 b9 =>
      ld Try.prog h5 22 b8 b9 fun v13 =>
      calls rec h5 60 [v13, (.func (.func 91) #[] #[(pt (nx h0) 0)])] fun v14 h6 =>
      asI .i64 v14 fun n5 =>
      bls Try.prog h6 22 1 [(0, (.int .i64 n5))] fun v15 h7 =>
      app Try.prog h7 22 22 (gv ws0 1) v15 fun v16 h8 =>
      ld Try.prog h8 70 (nx h0) 0 fun v17 =>
      nil v17 (
        asP v17 fun b10 b11 =>
        ld Try.prog h8 60 b10 (off b11 1) fun v18 =>
        asK (gv ws0 2) fun n6 =>
        six v18 n6 1 fun b12 b13 =>
        ld Try.prog h8 22 b12 b13 fun v19 =>
        six v19 n5 1 fun b14 b15 =>
        ld Try.prog h8 3 b14 b15 fun v20 =>
        asI .i64 v20 fun n7 =>
        out .normal [gv ws0 0, v16, (.int .i64 n7)] h8)))

noncomputable def f55 (rec : Rec) (k : Nat) (v0 : Value) (h0 : H) : Option (Value × H) :=
  bx h0 70 v0 fun h1 =>
  ld Try.prog h1 70 (nx h0) 0 fun v1 =>
  nil v1 (
    asP v1 fun b0 b1 =>
    ld Try.prog h1 69 b0 b1 fun v2 =>
    calls rec h1 59 [v2] fun v3 h2 =>
    asI .i64 v3 fun n0 =>
    ld Try.prog h2 70 (nx h0) 0 fun v4 =>
    nil v4 (
      asP v4 fun b2 b3 =>
      ld Try.prog h2 22 b2 (off b3 2) fun v5 =>
      six v5 n0 1 fun b4 b5 =>
      ld Try.prog h2 3 b4 b5 fun v6 =>
      asI .i64 v6 fun n1 =>
      ifB (le 0 n1) (
        some ((.slice none 0 0), h2)) (
        mkm h2 fun h3 =>
        lp k (f55_l1 rec k h0 h2) [(.slice none 0 0), (.slice none 0 0), (.int .i64 n0)] h3 fun e0 ws1 h9 =>
        onR e0 (
          some (gv ws1 0, h9)))))

theorem e55 (rec : Rec) (k : Nat) (v0 : Value) (h : H) : bodyT Try.prog E0 SC (XC Try.prog rec k) 55 (Value × H) [.opq v0] h (fun v h => some (v, h)) = f55 rec k v0 h := by kernel_rfl
theorem t55 {k : Nat} {v0 : Value} {h h1 : H} {v : Value} (hh : f55 rn k v0 h = some (v, h1)) : rn 55 #[v0] h = some (v, trunc Try.prog h h1 v) :=
  run_of_bodyT (args := [.opq v0]) rfl ((e55 _ _ _ _).trans hh)
theorem p55 {k : Nat} {v0 : Value} {h h1 : H} {v : Value} (hh : f55 rn k v0 h = some (v, h1)) (hp : plainO v = true) (x : Ext h h1) : rn 55 #[v0] h = some (v, h) := by rw [t55 hh, trunc_pure hp x]
theorem x55 {k : Nat} {v0 : Value} {h h1 : H} {v : Value} (hh : f55 rn k v0 h = some (v, h1)) (hp : plainO v = false) : rn 55 #[v0] h = some (v, h1) := by rw [t55 hh, trunc_not hp]

noncomputable def f60_l1 (rec : Rec) (_k : Nat) (v0 : Value) (v1 : Value) (n0 : Int) (ws0 : List Value) (h1 : H) : Option (Ex × List Value × H) :=
  asI .i64 (gv ws0 1) fun n1 =>
  ifB (lt n1 n0) (
    asK (gv ws0 1) fun n2 =>
    six v0 n2 1 fun b0 b1 =>
    ld Try.prog h1 3 b0 b1 fun v2 =>
    asI .i64 v2 fun n3 =>
    callsV rec h1 v1 [(.int .i64 n3)] fun v3 h2 =>
    asB v3 fun q0 =>
    ifB q0 (
      out .ret [gv ws0 1, gv ws0 1] h2) (
      asI .i64 (gv ws0 1) fun n4 =>
      out .normal [gv ws0 0, (.int .i64 (add .i64 n4 1))] h2)) (
    out (.exit 0) [gv ws0 0, gv ws0 1] h1)

noncomputable def f60 (rec : Rec) (k : Nat) (v0 : Value) (v1 : Value) (h0 : H) : Option (Value × H) :=
  len v0 fun n0 =>
  lp k (f60_l1 rec k v0 v1 n0) [(.int .i64 0), (.int .i64 0)] h0 fun e0 ws1 h3 =>
  onE e0 0 (
    some ((.int .i64 (-1)), h3)) (
    onR e0 (
      some (gv ws1 0, h3)))

theorem e60 (rec : Rec) (k : Nat) (v0 : Value) (v1 : Value) (h : H) : bodyT Try.prog E0 SC (XC Try.prog rec k) 60 (Value × H) [.opq v0, .opq v1] h (fun v h => some (v, h)) = f60 rec k v0 v1 h := by kernel_rfl
theorem t60 {k : Nat} {v0 : Value} {v1 : Value} {h h1 : H} {v : Value} (hh : f60 rn k v0 v1 h = some (v, h1)) : rn 60 #[v0, v1] h = some (v, trunc Try.prog h h1 v) :=
  run_of_bodyT (args := [.opq v0, .opq v1]) rfl ((e60 _ _ _ _ _).trans hh)
theorem p60 {k : Nat} {v0 : Value} {v1 : Value} {h h1 : H} {v : Value} (hh : f60 rn k v0 v1 h = some (v, h1)) (hp : plainO v = true) (x : Ext h h1) : rn 60 #[v0, v1] h = some (v, h) := by rw [t60 hh, trunc_pure hp x]
theorem x60 {k : Nat} {v0 : Value} {v1 : Value} {h h1 : H} {v : Value} (hh : f60 rn k v0 v1 h = some (v, h1)) (hp : plainO v = false) : rn 60 #[v0, v1] h = some (v, h1) := by rw [t60 hh, trunc_not hp]

noncomputable def f69_l1 (_rec : Rec) (_k : Nat) (v0 : Value) (n0 : Int) (n1 : Int) (ws0 : List Value) (h1 : H) : Option (Ex × List Value × H) :=
  asI .i64 (gv ws0 2) fun n2 =>
  ifB (lt n2 (mul .i64 2 n1)) (
    len v0 fun n3 =>
    asI .i64 (gv ws0 2) fun n4 =>
    nz n3 (
      six v0 (rem .i64 n4 n3) 1 fun b0 b1 =>
      ld Try.prog h1 3 b0 b1 fun v1 =>
      asI .i64 v1 fun n5 =>
      ifB (eq n5 n0) (
        asI .i64 (gv ws0 1) fun n6 =>
        ifB (le 0 n6) (
          asI .i64 (gv ws0 2) fun n7 =>
          asI .i64 (gv ws0 1) fun n8 =>
          asI .i64 (gv ws0 0) fun n9 =>
          asI .i64 (gv ws0 2) fun n10 =>
          out .normal [(.int .i64 (imax n9 (sub .i64 n7 n8))), gv ws0 2, (.int .i64 (add .i64 n10 1))] h1) (
          asI .i64 (gv ws0 2) fun n11 =>
          out .normal [gv ws0 0, gv ws0 2, (.int .i64 (add .i64 n11 1))] h1)) (
        asI .i64 (gv ws0 2) fun n12 =>
        out .normal [gv ws0 0, gv ws0 1, (.int .i64 (add .i64 n12 1))] h1))) (
    out (.exit 0) [gv ws0 0, gv ws0 1, gv ws0 2] h1)

noncomputable def f69 (rec : Rec) (k : Nat) (v0 : Value) (n0 : Int) (h0 : H) : Option (Value × H) :=
  len v0 fun n1 =>
  lp k (f69_l1 rec k v0 n0 n1) [(.int .i64 0), (.int .i64 (-1)), (.int .i64 0)] h0 fun e0 ws1 h2 =>
  onE e0 0 (
    some (gv ws1 0, h2)) (
    none)

theorem e69 (rec : Rec) (k : Nat) (v0 : Value) (n0 : Int) (h : H) : bodyT Try.prog E0 SC (XC Try.prog rec k) 69 (Value × H) [.opq v0, .int .i64 n0] h (fun v h => some (v, h)) = f69 rec k v0 n0 h := by kernel_rfl
theorem t69 {k : Nat} {v0 : Value} {n0 : Int} {h h1 : H} {v : Value} (hh : f69 rn k v0 n0 h = some (v, h1)) : rn 69 #[v0, .int .i64 n0] h = some (v, trunc Try.prog h h1 v) :=
  run_of_bodyT (args := [.opq v0, .int .i64 n0]) rfl ((e69 _ _ _ _ _).trans hh)
theorem p69 {k : Nat} {v0 : Value} {n0 : Int} {h h1 : H} {v : Value} (hh : f69 rn k v0 n0 h = some (v, h1)) (hp : plainO v = true) (x : Ext h h1) : rn 69 #[v0, .int .i64 n0] h = some (v, h) := by rw [t69 hh, trunc_pure hp x]
theorem x69 {k : Nat} {v0 : Value} {n0 : Int} {h h1 : H} {v : Value} (hh : f69 rn k v0 n0 h = some (v, h1)) (hp : plainO v = false) : rn 69 #[v0, .int .i64 n0] h = some (v, h1) := by rw [t69 hh, trunc_not hp]

noncomputable def f70_l2 (_rec : Rec) (_k : Nat) (v0 : Value) (n0 : Int) (n2 : Int) (ws1 : List Value) (h2 : H) : Option (Ex × List Value × H) :=
  asI .i64 (gv ws1 3) fun n3 =>
  ifB (lt n3 n2) (
    asK (gv ws1 3) fun n4 =>
    six v0 n4 1 fun b0 b1 =>
    ld Try.prog h2 3 b0 b1 fun v1 =>
    asI .i64 v1 fun n5 =>
    asI .i64 (gv ws1 0) fun n6 =>
    ifB (eq n5 n0) (
      asI .i64 (gv ws1 1) fun n7 =>
      asI .i64 (gv ws1 3) fun n8 =>
      out .normal [(.int .i64 0), (.int .i64 (imax n7 (add .i64 n6 1))), (.bool true), (.int .i64 (add .i64 n8 1))] h2) (
      asI .i64 (gv ws1 3) fun n9 =>
      out .normal [(.int .i64 (add .i64 n6 1)), gv ws1 1, gv ws1 2, (.int .i64 (add .i64 n9 1))] h2)) (
    out (.exit 2) [gv ws1 0, gv ws1 1, gv ws1 2, gv ws1 3] h2)

noncomputable def f70_l1 (rec : Rec) (k : Nat) (v0 : Value) (n0 : Int) (ws0 : List Value) (h1 : H) : Option (Ex × List Value × H) :=
  asI .i64 (gv ws0 3) fun n1 =>
  ifB (lt n1 2) (
    len v0 fun n2 =>
    lp k (f70_l2 rec k v0 n0 n2) [gv ws0 0, gv ws0 1, gv ws0 2, (.int .i64 0)] h1 fun e0 ws2 h3 =>
    onE e0 2 (
      asI .i64 (gv ws0 3) fun n10 =>
      out .normal [gv ws2 0, gv ws2 1, gv ws2 2, (.int .i64 (add .i64 n10 1))] h3) (
      none)) (
    out (.exit 0) [gv ws0 0, gv ws0 1, gv ws0 2, gv ws0 3] h1)

noncomputable def f70 (rec : Rec) (k : Nat) (v0 : Value) (n0 : Int) (h0 : H) : Option (Value × H) :=
  lp k (f70_l1 rec k v0 n0) [(.int .i64 0), (.int .i64 0), (.bool false), (.int .i64 0)] h0 fun e1 ws3 h4 =>
  onE e1 0 (
    asB (gv ws3 2) fun q0 =>
    ifB (not q0) (
      some ((.int .i64 1073741824), h4)) (
      some (gv ws3 1, h4))) (
    none)

theorem e70 (rec : Rec) (k : Nat) (v0 : Value) (n0 : Int) (h : H) : bodyT Try.prog E0 SC (XC Try.prog rec k) 70 (Value × H) [.opq v0, .int .i64 n0] h (fun v h => some (v, h)) = f70 rec k v0 n0 h := by kernel_rfl
theorem t70 {k : Nat} {v0 : Value} {n0 : Int} {h h1 : H} {v : Value} (hh : f70 rn k v0 n0 h = some (v, h1)) : rn 70 #[v0, .int .i64 n0] h = some (v, trunc Try.prog h h1 v) :=
  run_of_bodyT (args := [.opq v0, .int .i64 n0]) rfl ((e70 _ _ _ _ _).trans hh)
theorem p70 {k : Nat} {v0 : Value} {n0 : Int} {h h1 : H} {v : Value} (hh : f70 rn k v0 n0 h = some (v, h1)) (hp : plainO v = true) (x : Ext h h1) : rn 70 #[v0, .int .i64 n0] h = some (v, h) := by rw [t70 hh, trunc_pure hp x]
theorem x70 {k : Nat} {v0 : Value} {n0 : Int} {h h1 : H} {v : Value} (hh : f70 rn k v0 n0 h = some (v, h1)) (hp : plainO v = false) : rn 70 #[v0, .int .i64 n0] h = some (v, h1) := by rw [t70 hh, trunc_not hp]

noncomputable def f91 (_rec : Rec) (_k : Nat) (n0 : Int) (v0 : Value) (h0 : H) : Option (Value × H) :=
  ifB (not (eq n0 (-1))) (
    asP v0 fun b0 b1 =>
    ld Try.prog h0 70 b0 b1 fun v1 =>
    nil v1 (
      asP v1 fun b2 b3 =>
      ld Try.prog h0 22 b2 (off b3 2) fun v2 =>
      six v2 n0 1 fun b4 b5 =>
      ld Try.prog h0 3 b4 b5 fun v3 =>
      asI .i64 v3 fun n1 =>
      some ((.bool (lt n1 0)), h0))) (
    some ((.bool false), h0))

theorem e91 (rec : Rec) (k : Nat) (n0 : Int) (v0 : Value) (h : H) : bodyT Try.prog E0 SC (XC Try.prog rec k) 91 (Value × H) [.int .i64 n0, .opq v0] h (fun v h => some (v, h)) = f91 rec k n0 v0 h := by kernel_rfl
theorem t91 {k : Nat} {n0 : Int} {v0 : Value} {h h1 : H} {v : Value} (hh : f91 rn k n0 v0 h = some (v, h1)) : rn 91 #[.int .i64 n0, v0] h = some (v, trunc Try.prog h h1 v) :=
  run_of_bodyT (args := [.int .i64 n0, .opq v0]) rfl ((e91 _ _ _ _ _).trans hh)
theorem p91 {k : Nat} {n0 : Int} {v0 : Value} {h h1 : H} {v : Value} (hh : f91 rn k n0 v0 h = some (v, h1)) (hp : plainO v = true) (x : Ext h h1) : rn 91 #[.int .i64 n0, v0] h = some (v, h) := by rw [t91 hh, trunc_pure hp x]
theorem x91 {k : Nat} {n0 : Int} {v0 : Value} {h h1 : H} {v : Value} (hh : f91 rn k n0 v0 h = some (v, h1)) (hp : plainO v = false) : rn 91 #[.int .i64 n0, v0] h = some (v, h1) := by rw [t91 hh, trunc_not hp]

end Go.AM
