/- The staged forms of functions 5, 6, 27, 28, 29, 30, 31, 32, 75, and what calls of these answer. -/
import Derived.Test.YtakhklelgcfgjaaDoorSx
namespace Go.AM
open Go.Proofs

noncomputable def f5 (rec : Rec) (_k : Nat) (v0 : Value) (v1 : Value) (h0 : H) : Option (Value × H) :=
  calls rec h0 18 [v0] fun v2 h1 =>
  calls rec h1 27 [v2] fun v3 h2 =>
  ext v3 0 fun v4 =>
  ext v3 1 fun v5 =>
  asI .i64 v5 fun n0 =>
  calls rec h2 18 [v0] fun v6 h3 =>
  calls rec h3 29 [v1] fun v7 h4 =>
  calls rec h4 28 [v6, v7] fun v8 h5 =>
  ext v8 0 fun v9 =>
  asB v9 fun q0 =>
  ext v8 1 fun v10 =>
  asI .i64 v10 fun n1 =>
  calls rec h5 19 [v0] fun v11 h6 =>
  asB v11 fun q1 =>
  ifB (not q1) (
    len v4 fun n2 =>
    ifB (eq n2 0) (
      ifB (not q0) (
        ifB (eq n0 2) (
          ifB (eq n1 2) (
            calls rec h6 20 [] fun v12 h7 =>
            asB v12 fun q2 =>
            some ((.bool q2), h7)) (
            some ((.bool false), h6))) (
          some ((.bool false), h6))) (
        some ((.bool false), h6))) (
      some ((.bool false), h6))) (
    calls rec h6 30 [v0, v1] fun v13 h8 =>
    asB v13 fun q3 =>
    eqv Tryd.prog 4 (.bool q0) (.bool q3) fun q4 =>
    ifB (not q4) (
      some ((.bool false), h8)) (
      ifB (not (eq n1 0)) (
        some ((.bool false), h8)) (
        calls rec h8 20 [] fun v14 h9 =>
        asB v14 fun q5 =>
        ifB (not q5) (
          some ((.bool false), h9)) (
          calls rec h9 31 [v0] fun v15 h10 =>
          asB v15 fun q6 =>
          ifB (not q6) (
            len v4 fun n3 =>
            ifB (eq n3 0) (
              some ((.bool (eq n0 4)), h10)) (
              some ((.bool false), h10))) (
            ifB (eq n0 0) (
              calls rec h10 32 [v4] fun v16 h11 =>
              calls rec h11 30 [v0, v16] fun v17 h12 =>
              asB v17 fun q7 =>
              some ((.bool q7), h12)) (
              some ((.bool false), h10)))))))

theorem e5 (rec : Rec) (k : Nat) (v0 : Value) (v1 : Value) (h : H) : bodyT Tryd.prog E0 SC (XC Tryd.prog rec k) 5 (Value × H) [.opq v0, .opq v1] h (fun v h => some (v, h)) = f5 rec k v0 v1 h := by kernel_rfl
theorem t5 {k : Nat} {v0 : Value} {v1 : Value} {h h1 : H} {v : Value} (hh : f5 rn k v0 v1 h = some (v, h1)) : rn 5 #[v0, v1] h = some (v, trunc Tryd.prog h h1 v) :=
  run_of_bodyT (args := [.opq v0, .opq v1]) rfl ((e5 _ _ _ _ _).trans hh)
theorem p5 {k : Nat} {v0 : Value} {v1 : Value} {h h1 : H} {v : Value} (hh : f5 rn k v0 v1 h = some (v, h1)) (hp : plainO v = true) (x : Ext h h1) : rn 5 #[v0, v1] h = some (v, h) := by rw [t5 hh, trunc_pure hp x]
theorem x5 {k : Nat} {v0 : Value} {v1 : Value} {h h1 : H} {v : Value} (hh : f5 rn k v0 v1 h = some (v, h1)) (hp : plainO v = false) : ∃ h2, rn 5 #[v0, v1] h = some (v, h2) ∧ Sm h1 h2 ∧ (Ext h h1 → Exw h h2) := trunc_cell hp (t5 hh)
theorem y5 {k : Nat} {v0 : Value} {v1 : Value} {h : H} {v : Value} (hh : f5 rn k v0 v1 h = some (v, h)) : rn 5 #[v0, v1] h = some (v, h) := by rw [t5 hh, trunc_self]

noncomputable def f6 (rec : Rec) (_k : Nat) (v0 : Value) (v1 : Value) (h0 : H) : Option (Value × H) :=
  calls rec h0 18 [v0] fun v2 h1 =>
  calls rec h1 27 [v2] fun v3 h2 =>
  ext v3 0 fun v4 =>
  ext v3 1 fun v5 =>
  asI .i64 v5 fun n0 =>
  calls rec h2 18 [v0] fun v6 h3 =>
  calls rec h3 23 [v6] fun v7 h4 =>
  ext v7 0 fun v8 =>
  ext v7 1 fun v9 =>
  asI .i64 v9 fun n1 =>
  calls rec h4 18 [v0] fun v10 h5 =>
  calls rec h5 29 [v1] fun v11 h6 =>
  calls rec h6 28 [v10, v11] fun v12 h7 =>
  ext v12 0 fun v13 =>
  asB v13 fun q0 =>
  ext v12 1 fun v14 =>
  asI .i64 v14 fun n2 =>
  ifB (not (eq n1 0)) (
    ifB (eq n0 2) (
      ifB (eq n1 2) (
        ifB (eq n2 2) (
          calls rec h7 20 [] fun v15 h8 =>
          asB v15 fun q1 =>
          some ((.bool q1), h8)) (
          some ((.bool false), h7))) (
        some ((.bool false), h7))) (
      some ((.bool false), h7))) (
    len v8 fun n3 =>
    ifB (eq n3 0) (
      len v0 fun n4 =>
      nn n4 (
        calls rec h7 33 [v0, (.int .i64 (sub .i64 (shl .i64 1 n4) 1)), (.int .i64 0)] fun v16 h9 =>
        asI .i64 v16 fun n5 =>
        len v0 fun n6 =>
        nn n6 (
          ifB (not (eq n2 0)) (
            some ((.bool false), h9)) (
            eqv Tryd.prog 4 (.bool (eq n0 0)) (.bool (eq n5 (sub .i64 (shl .i64 1 n6) 1))) fun q2 =>
            ifB (not q2) (
              some ((.bool false), h9)) (
              ifB (not (eq n0 0)) (
                ifB (not (eq n0 4)) (
                  some ((.bool false), h9)) (
                  ifB q0 (
                    ifB (not (eq n5 (sub .i64 (shl .i64 1 n6) 1))) (
                      some ((.bool false), h9)) (
                      ifB (not (eq n5 (sub .i64 (shl .i64 1 n6) 1))) (
                        calls rec h9 20 [] fun v17 h10 =>
                        asB v17 fun q3 =>
                        some ((.bool q3), h10)) (
                        calls rec h9 18 [v0] fun v18 h11 =>
                        calls rec h11 28 [v18, v4] fun v19 h12 =>
                        ext v19 0 fun v20 =>
                        asB v20 fun q4 =>
                        ext v19 1 fun v21 =>
                        asI .i64 v21 fun n7 =>
                        ifB q4 (
                          ifB (eq n7 0) (
                            calls rec h12 20 [] fun v22 h13 =>
                            asB v22 fun q5 =>
                            some ((.bool q5), h13)) (
                            some ((.bool false), h12))) (
                          some ((.bool false), h12))))) (
                    ifB (not (eq n5 (sub .i64 (shl .i64 1 n6) 1))) (
                      calls rec h9 20 [] fun v23 h14 =>
                      asB v23 fun q6 =>
                      some ((.bool q6), h14)) (
                      calls rec h9 18 [v0] fun v24 h15 =>
                      calls rec h15 28 [v24, v4] fun v25 h16 =>
                      ext v25 0 fun v26 =>
                      asB v26 fun q7 =>
                      ext v25 1 fun v27 =>
                      asI .i64 v27 fun n8 =>
                      ifB q7 (
                        ifB (eq n8 0) (
                          calls rec h16 20 [] fun v28 h17 =>
                          asB v28 fun q8 =>
                          some ((.bool q8), h17)) (
                          some ((.bool false), h16))) (
                        some ((.bool false), h16)))))) (
                ifB q0 (
                  ifB (not (eq n5 (sub .i64 (shl .i64 1 n6) 1))) (
                    some ((.bool false), h9)) (
                    ifB (not (eq n5 (sub .i64 (shl .i64 1 n6) 1))) (
                      calls rec h9 20 [] fun v29 h18 =>
                      asB v29 fun q9 =>
                      some ((.bool q9), h18)) (
                      calls rec h9 18 [v0] fun v30 h19 =>
                      calls rec h19 28 [v30, v4] fun v31 h20 =>
                      ext v31 0 fun v32 =>
                      asB v32 fun q10 =>
                      ext v31 1 fun v33 =>
                      asI .i64 v33 fun n9 =>
                      ifB q10 (
                        ifB (eq n9 0) (
                          calls rec h20 20 [] fun v34 h21 =>
                          asB v34 fun q11 =>
                          some ((.bool q11), h21)) (
                          some ((.bool false), h20))) (
                        some ((.bool false), h20))))) (
                  ifB (not (eq n5 (sub .i64 (shl .i64 1 n6) 1))) (
                    calls rec h9 20 [] fun v35 h22 =>
                    asB v35 fun q12 =>
                    some ((.bool q12), h22)) (
                    calls rec h9 18 [v0] fun v36 h23 =>
                    calls rec h23 28 [v36, v4] fun v37 h24 =>
                    ext v37 0 fun v38 =>
                    asB v38 fun q13 =>
                    ext v37 1 fun v39 =>
                    asI .i64 v39 fun n10 =>
                    ifB q13 (
                      ifB (eq n10 0) (
                        calls rec h24 20 [] fun v40 h25 =>
                        asB v40 fun q14 =>
                        some ((.bool q14), h25)) (
                        some ((.bool false), h24))) (
                      some ((.bool false), h24)))))))))) (
      ifB (not (eq n2 0)) (
        some ((.bool false), h7)) (
        eqv Tryd.prog 4 (.bool (eq n0 0)) (.bool false) fun q15 =>
        ifB (not q15) (
          some ((.bool false), h7)) (
          ifB (not (eq n0 0)) (
            ifB (not (eq n0 4)) (
              some ((.bool false), h7)) (
              ifB q0 (
                some ((.bool false), h7)) (
                calls rec h7 20 [] fun v41 h26 =>
                asB v41 fun q16 =>
                some ((.bool q16), h26)))) (
            ifB q0 (
              some ((.bool false), h7)) (
              calls rec h7 20 [] fun v42 h27 =>
              asB v42 fun q17 =>
              some ((.bool q17), h27)))))))

theorem e6 (rec : Rec) (k : Nat) (v0 : Value) (v1 : Value) (h : H) : bodyT Tryd.prog E0 SC (XC Tryd.prog rec k) 6 (Value × H) [.opq v0, .opq v1] h (fun v h => some (v, h)) = f6 rec k v0 v1 h := by kernel_rfl
theorem t6 {k : Nat} {v0 : Value} {v1 : Value} {h h1 : H} {v : Value} (hh : f6 rn k v0 v1 h = some (v, h1)) : rn 6 #[v0, v1] h = some (v, trunc Tryd.prog h h1 v) :=
  run_of_bodyT (args := [.opq v0, .opq v1]) rfl ((e6 _ _ _ _ _).trans hh)
theorem p6 {k : Nat} {v0 : Value} {v1 : Value} {h h1 : H} {v : Value} (hh : f6 rn k v0 v1 h = some (v, h1)) (hp : plainO v = true) (x : Ext h h1) : rn 6 #[v0, v1] h = some (v, h) := by rw [t6 hh, trunc_pure hp x]
theorem x6 {k : Nat} {v0 : Value} {v1 : Value} {h h1 : H} {v : Value} (hh : f6 rn k v0 v1 h = some (v, h1)) (hp : plainO v = false) : ∃ h2, rn 6 #[v0, v1] h = some (v, h2) ∧ Sm h1 h2 ∧ (Ext h h1 → Exw h h2) := trunc_cell hp (t6 hh)
theorem y6 {k : Nat} {v0 : Value} {v1 : Value} {h : H} {v : Value} (hh : f6 rn k v0 v1 h = some (v, h)) : rn 6 #[v0, v1] h = some (v, h) := by rw [t6 hh, trunc_self]

noncomputable def f27_l1 (_rec : Rec) (_k : Nat) (h8 : H) (h12 : H) (v13 : Value) (n2 : Int) (ws0 : List Value) (h19 : H) : Option (Ex × List Value × H) :=
  asI .i64 (gv ws0 1) fun n3 =>
  ifB (lt n3 n2) (
    asK (gv ws0 1) fun n4 =>
    six v13 n4 2 fun b0 b1 =>
    ld Tryd.prog h19 32 b0 b1 fun v14 =>
    al h19 32 [(.int .i64 0), (.int .i64 0)] fun h20 =>
    st Tryd.prog h20 32 (nx h19) 0 v14 fun h21 =>
    aix 2 0 (
      ld Tryd.prog h21 3 (nx h19) (at_ 0 0 1) fun v15 =>
      asI .i64 v15 fun n5 =>
      aix 2 1 (
        ld Tryd.prog h21 3 (nx h19) (at_ 0 1 1) fun v16 =>
        asI .i64 v16 fun n6 =>
        ld Tryd.prog h21 87 (nx h8) 0 fun v17 =>
        lok Tryd.prog h21 87 v17 (.int .i64 n5) false fun v18 =>
        asI .i64 v18 fun n7 =>
        ld Tryd.prog h21 87 (nx h8) 0 fun v19 =>
        lok Tryd.prog h21 87 v19 (.int .i64 n6) false fun v20 =>
        asI .i64 v20 fun n8 =>
        ifB (lt n8 n7) (
          ld Tryd.prog h21 87 (nx h12) 0 fun v21 =>
          lok Tryd.prog h21 87 v21 (.int .i64 n5) false fun v22 =>
          asI .i64 v22 fun n9 =>
          ifB (eq n9 n6) (
            bld Tryd.prog 92 [(0, (.int .i64 n6)), (1, (.int .i64 n5))] fun v23 =>
            bls Tryd.prog h21 38 1 [(0, v23)] fun v24 h22 =>
            app Tryd.prog h22 38 38 (gv ws0 0) v24 fun v25 h23 =>
            asI .i64 (gv ws0 1) fun n10 =>
            out .normal [v25, (.int .i64 (add .i64 n10 1))] h23) (
            bld Tryd.prog 92 [(0, (.int .i64 n5)), (1, (.int .i64 n6))] fun v26 =>
            bls Tryd.prog h21 38 1 [(0, v26)] fun v27 h24 =>
            app Tryd.prog h24 38 38 (gv ws0 0) v27 fun v28 h25 =>
            asI .i64 (gv ws0 1) fun n11 =>
            out .normal [v28, (.int .i64 (add .i64 n11 1))] h25)) (
          ld Tryd.prog h21 87 (nx h12) 0 fun v29 =>
          lok Tryd.prog h21 87 v29 (.int .i64 n6) false fun v30 =>
          asI .i64 v30 fun n12 =>
          ifB (eq n12 n5) (
            bld Tryd.prog 92 [(0, (.int .i64 n5)), (1, (.int .i64 n6))] fun v31 =>
            bls Tryd.prog h21 38 1 [(0, v31)] fun v32 h26 =>
            app Tryd.prog h26 38 38 (gv ws0 0) v32 fun v33 h27 =>
            asI .i64 (gv ws0 1) fun n13 =>
            out .normal [v33, (.int .i64 (add .i64 n13 1))] h27) (
            bld Tryd.prog 92 [(0, (.int .i64 n6)), (1, (.int .i64 n5))] fun v34 =>
            bls Tryd.prog h21 38 1 [(0, v34)] fun v35 h28 =>
            app Tryd.prog h28 38 38 (gv ws0 0) v35 fun v36 h29 =>
            asI .i64 (gv ws0 1) fun n14 =>
            out .normal [v36, (.int .i64 (add .i64 n14 1))] h29))))) (
    out (.exit 0) [gv ws0 0, gv ws0 1] h19)

noncomputable def f27 (rec : Rec) (k : Nat) (v0 : Value) (h0 : H) : Option (Value × H) :=
  calls rec h0 63 [v0] fun v1 h1 =>
  ext v1 0 fun v2 =>
  ext v1 1 fun v3 =>
  asB v3 fun q0 =>
  al h1 78 [(.slice none 0 0)] fun h2 =>
  st Tryd.prog h2 78 (nx h1) 0 v2 fun h3 =>
  ifB (not q0) (
    some ((.tuple #[(.slice none 0 0), (.int .i64 2)]), h3)) (
    ld Tryd.prog h3 78 (nx h1) 0 fun v4 =>
    ld Tryd.prog h3 78 (nx h1) 0 fun v5 =>
    calls rec h3 65 [v5] fun v6 h4 =>
    asI .i64 v6 fun n0 =>
    ck (freq (nx h1) (nx h3) (same h4 h3)) (
      calls rec h4 64 [v4, (.int .i64 n0)] fun v7 h5 =>
      asB v7 fun q1 =>
      ifB (not q1) (
        some ((.tuple #[(.slice none 0 0), (.int .i64 4)]), h5)) (
        ld Tryd.prog h5 78 (nx h1) 0 fun v8 =>
        calls rec h5 69 [v8] fun v9 h6 =>
        len v9 fun n1 =>
        ifB (lt 0 n1) (
          some ((.tuple #[(.slice none 0 0), (.int .i64 4)]), h6)) (
          mkm h6 fun h7 =>
          mup Tryd.prog h7 87 (.map (some (nx h6))) (.int .i64 0) (.int .i64 0) fun h8 =>
          al h8 87 [(.map none)] fun h9 =>
          st Tryd.prog h9 87 (nx h8) 0 (.map (some (nx h6))) fun h10 =>
          mkm h10 fun h11 =>
          mup Tryd.prog h11 87 (.map (some (nx h10))) (.int .i64 0) (.int .i64 (-1)) fun h12 =>
          al h12 87 [(.map none)] fun h13 =>
          st Tryd.prog h13 87 (nx h12) 0 (.map (some (nx h10))) fun h14 =>
          al h14 88 [.nilFunc] fun h15 =>
          st Tryd.prog h15 88 (nx h14) 0 (.func (.func 75) #[] #[(pt (nx h1) 0), (pt (nx h8) 0), (pt (nx h12) 0), (pt (nx h14) 0)]) fun h16 =>
          ld Tryd.prog h16 88 (nx h14) 0 fun v10 =>
          callsV rec h16 v10 [(.int .i64 0)] fun _ h17 =>
          ld Tryd.prog h17 78 (nx h1) 0 fun v12 =>
          calls rec h17 77 [v12] fun v13 h18 =>
          len v13 fun n2 =>
          lp k (f27_l1 rec k h8 h12 v13 n2) [(.slice none 0 0), (.int .i64 0)] h18 fun e0 ws1 h30 =>
          onE e0 0 (
            some ((.tuple #[gv ws1 0, (.int .i64 0)]), h30)) (
            none)))))

theorem e27 (rec : Rec) (k : Nat) (v0 : Value) (h : H) : bodyT Tryd.prog E0 SC (XC Tryd.prog rec k) 27 (Value × H) [.opq v0] h (fun v h => some (v, h)) = f27 rec k v0 h := by kernel_rfl
theorem t27 {k : Nat} {v0 : Value} {h h1 : H} {v : Value} (hh : f27 rn k v0 h = some (v, h1)) : rn 27 #[v0] h = some (v, trunc Tryd.prog h h1 v) :=
  run_of_bodyT (args := [.opq v0]) rfl ((e27 _ _ _ _).trans hh)
theorem p27 {k : Nat} {v0 : Value} {h h1 : H} {v : Value} (hh : f27 rn k v0 h = some (v, h1)) (hp : plainO v = true) (x : Ext h h1) : rn 27 #[v0] h = some (v, h) := by rw [t27 hh, trunc_pure hp x]
theorem x27 {k : Nat} {v0 : Value} {h h1 : H} {v : Value} (hh : f27 rn k v0 h = some (v, h1)) (hp : plainO v = false) : ∃ h2, rn 27 #[v0] h = some (v, h2) ∧ Sm h1 h2 ∧ (Ext h h1 → Exw h h2) := trunc_cell hp (t27 hh)
theorem y27 {k : Nat} {v0 : Value} {h : H} {v : Value} (hh : f27 rn k v0 h = some (v, h)) : rn 27 #[v0] h = some (v, h) := by rw [t27 hh, trunc_self]

noncomputable def f28_l1 (_rec : Rec) (_k : Nat) (v1 : Value) (v5 : Value) (v6 : Value) (v7 : Value) (n4 : Int) (ws0 : List Value) (h5 : H) : Option (Ex × List Value × H) :=
  asI .i64 (gv ws0 2) fun n5 =>
  ifB (lt n5 n4) (
    asK (gv ws0 2) fun n6 =>
    six v1 n6 2 fun b0 b1 =>
    ld Tryd.prog h5 92 b0 b1 fun v8 =>
    al h5 92 [(.int .i64 0), (.int .i64 0)] fun h6 =>
    st Tryd.prog h6 92 (nx h5) 0 v8 fun h7 =>
    ld Tryd.prog h7 92 (nx h5) 0 fun v9 =>
    asK (gv ws0 2) fun n7 =>
    six v5 n7 2 fun b2 b3 =>
    aix 2 0 (
      ld Tryd.prog h7 3 b2 (at_ b3 0 1) fun v10 =>
      asI .i64 v10 fun n8 =>
      asK (gv ws0 2) fun n9 =>
      six v5 n9 2 fun b4 b5 =>
      aix 2 1 (
        ld Tryd.prog h7 3 b4 (at_ b5 1 1) fun v11 =>
        asI .i64 v11 fun n10 =>
        bld Tryd.prog 92 [(0, (.int .i64 n8)), (1, (.int .i64 n10))] fun v12 =>
        eqv Tryd.prog 92 v9 v12 fun q1 =>
        ifB (not q1) (
          ld Tryd.prog h7 92 (nx h5) 0 fun v13 =>
          asK (gv ws0 2) fun n11 =>
          six v5 n11 2 fun b6 b7 =>
          aix 2 1 (
            ld Tryd.prog h7 3 b6 (at_ b7 1 1) fun v14 =>
            asI .i64 v14 fun n12 =>
            asK (gv ws0 2) fun n13 =>
            six v5 n13 2 fun b8 b9 =>
            aix 2 0 (
              ld Tryd.prog h7 3 b8 (at_ b9 0 1) fun v15 =>
              asI .i64 v15 fun n14 =>
              bld Tryd.prog 92 [(0, (.int .i64 n12)), (1, (.int .i64 n14))] fun v16 =>
              eqv Tryd.prog 92 v13 v16 fun q2 =>
              ifB (not q2) (
                out .ret [(.bool false), (.int .i64 0), gv ws0 2] h7) (
                ld Tryd.prog h7 3 (nx h5) 0 fun v17 =>
                asI .i64 v17 fun n15 =>
                six v6 n15 1 fun b10 b11 =>
                ld Tryd.prog h7 3 b10 b11 fun v18 =>
                asI .i64 v18 fun n16 =>
                ld Tryd.prog h7 3 (nx h5) (off 0 1) fun v19 =>
                asI .i64 v19 fun n17 =>
                nn n17 (
                  six v6 n15 1 fun b12 b13 =>
                  st Tryd.prog h7 3 b12 b13 (.int .i64 (or .i64 n16 (shl .i64 1 n17))) fun h8 =>
                  ld Tryd.prog h8 3 (nx h5) (off 0 1) fun v20 =>
                  asI .i64 v20 fun n18 =>
                  six v7 n18 1 fun b14 b15 =>
                  ld Tryd.prog h8 3 b14 b15 fun v21 =>
                  asI .i64 v21 fun n19 =>
                  ld Tryd.prog h8 3 (nx h5) 0 fun v22 =>
                  asI .i64 v22 fun n20 =>
                  nn n20 (
                    six v7 n18 1 fun b16 b17 =>
                    st Tryd.prog h8 3 b16 b17 (.int .i64 (or .i64 n19 (shl .i64 1 n20))) fun h9 =>
                    asI .i64 (gv ws0 2) fun n21 =>
                    out .normal [gv ws0 0, gv ws0 1, (.int .i64 (add .i64 n21 1))] h9)))))) (
          ld Tryd.prog h7 3 (nx h5) 0 fun v23 =>
          asI .i64 v23 fun n22 =>
          six v6 n22 1 fun b18 b19 =>
          ld Tryd.prog h7 3 b18 b19 fun v24 =>
          asI .i64 v24 fun n23 =>
          ld Tryd.prog h7 3 (nx h5) (off 0 1) fun v25 =>
          asI .i64 v25 fun n24 =>
          nn n24 (
            six v6 n22 1 fun b20 b21 =>
            st Tryd.prog h7 3 b20 b21 (.int .i64 (or .i64 n23 (shl .i64 1 n24))) fun h10 =>
            ld Tryd.prog h10 3 (nx h5) (off 0 1) fun v26 =>
            asI .i64 v26 fun n25 =>
            six v7 n25 1 fun b22 b23 =>
            ld Tryd.prog h10 3 b22 b23 fun v27 =>
            asI .i64 v27 fun n26 =>
            ld Tryd.prog h10 3 (nx h5) 0 fun v28 =>
            asI .i64 v28 fun n27 =>
            nn n27 (
              six v7 n25 1 fun b24 b25 =>
              st Tryd.prog h10 3 b24 b25 (.int .i64 (or .i64 n26 (shl .i64 1 n27))) fun h11 =>
              asI .i64 (gv ws0 2) fun n28 =>
              out .normal [gv ws0 0, gv ws0 1, (.int .i64 (add .i64 n28 1))] h11)))))) (
    out (.exit 0) [gv ws0 0, gv ws0 1, gv ws0 2] h5)

noncomputable def f28 (rec : Rec) (k : Nat) (v0 : Value) (v1 : Value) (h0 : H) : Option (Value × H) :=
  calls rec h0 63 [v0] fun v2 h1 =>
  ext v2 0 fun v3 =>
  ext v2 1 fun v4 =>
  asB v4 fun q0 =>
  ifB (not q0) (
    some ((.tuple #[(.bool false), (.int .i64 2)]), h1)) (
    calls rec h1 77 [v3] fun v5 h2 =>
    len v1 fun n0 =>
    len v5 fun n1 =>
    ifB (not (eq n0 n1)) (
      some ((.tuple #[(.bool false), (.int .i64 0)]), h2)) (
      len v3 fun n2 =>
      mks Tryd.prog h2 22 n2 n2 fun v6 h3 =>
      len v3 fun n3 =>
      mks Tryd.prog h3 22 n3 n3 fun v7 h4 =>
      len v1 fun n4 =>
      lp k (f28_l1 rec k v1 v5 v6 v7 n4) [(.bool false), (.int .i64 0), (.int .i64 0)] h4 fun e0 ws1 h12 =>
      onE e0 0 (
        calls rec h12 65 [v3] fun v29 h13 =>
        asI .i64 v29 fun n29 =>
        calls rec h13 78 [v6, (.int .i64 0), (.int .i64 n29)] fun v30 h14 =>
        asI .i64 v30 fun n30 =>
        calls rec h14 65 [v3] fun v31 h15 =>
        asI .i64 v31 fun n31 =>
        ifB (eq n30 n31) (
          calls rec h15 65 [v3] fun v32 h16 =>
          asI .i64 v32 fun n32 =>
          calls rec h16 78 [v7, (.int .i64 0), (.int .i64 n32)] fun v33 h17 =>
          asI .i64 v33 fun n33 =>
          calls rec h17 65 [v3] fun v34 h18 =>
          asI .i64 v34 fun n34 =>
          some ((.tuple #[(.bool (eq n33 n34)), (.int .i64 0)]), h18)) (
          some ((.tuple #[(.bool false), (.int .i64 0)]), h15))) (
        onR e0 (
          some ((.tuple #[gv ws1 0, gv ws1 1]), h12)))))

theorem e28 (rec : Rec) (k : Nat) (v0 : Value) (v1 : Value) (h : H) : bodyT Tryd.prog E0 SC (XC Tryd.prog rec k) 28 (Value × H) [.opq v0, .opq v1] h (fun v h => some (v, h)) = f28 rec k v0 v1 h := by kernel_rfl
theorem t28 {k : Nat} {v0 : Value} {v1 : Value} {h h1 : H} {v : Value} (hh : f28 rn k v0 v1 h = some (v, h1)) : rn 28 #[v0, v1] h = some (v, trunc Tryd.prog h h1 v) :=
  run_of_bodyT (args := [.opq v0, .opq v1]) rfl ((e28 _ _ _ _ _).trans hh)
theorem p28 {k : Nat} {v0 : Value} {v1 : Value} {h h1 : H} {v : Value} (hh : f28 rn k v0 v1 h = some (v, h1)) (hp : plainO v = true) (x : Ext h h1) : rn 28 #[v0, v1] h = some (v, h) := by rw [t28 hh, trunc_pure hp x]
theorem x28 {k : Nat} {v0 : Value} {v1 : Value} {h h1 : H} {v : Value} (hh : f28 rn k v0 v1 h = some (v, h1)) (hp : plainO v = false) : ∃ h2, rn 28 #[v0, v1] h = some (v, h2) ∧ Sm h1 h2 ∧ (Ext h h1 → Exw h h2) := trunc_cell hp (t28 hh)
theorem y28 {k : Nat} {v0 : Value} {v1 : Value} {h : H} {v : Value} (hh : f28 rn k v0 v1 h = some (v, h)) : rn 28 #[v0, v1] h = some (v, h) := by rw [t28 hh, trunc_self]

noncomputable def f29_l1 (_rec : Rec) (_k : Nat) (v0 : Value) (n0 : Int) (ws0 : List Value) (h1 : H) : Option (Ex × List Value × H) :=
  asI .i64 (gv ws0 1) fun n1 =>
  ifB (lt n1 n0) (
    asK (gv ws0 1) fun n2 =>
    six v0 n2 2 fun b0 b1 =>
    ld Tryd.prog h1 94 b0 b1 fun v1 =>
    al h1 94 [(.int .i64 0), (.int .i64 0)] fun h2 =>
    st Tryd.prog h2 94 (nx h1) 0 v1 fun h3 =>
    asI .i64 (gv ws0 1) fun n3 =>
    ifB (lt n3 60) (
      ld Tryd.prog h3 3 (nx h1) 0 fun v2 =>
      asI .i64 v2 fun n4 =>
      ld Tryd.prog h3 3 (nx h1) (off 0 1) fun v3 =>
      asI .i64 v3 fun n5 =>
      bld Tryd.prog 92 [(0, (.int .i64 n4)), (1, (.int .i64 n5))] fun v4 =>
      bls Tryd.prog h3 38 1 [(0, v4)] fun v5 h4 =>
      app Tryd.prog h4 38 38 (gv ws0 0) v5 fun v6 h5 =>
      asI .i64 (gv ws0 1) fun n6 =>
      out .normal [v6, (.int .i64 (add .i64 n6 1))] h5) (
      asI .i64 (gv ws0 1) fun n7 =>
      out .normal [gv ws0 0, (.int .i64 (add .i64 n7 1))] h3)) (
    out (.exit 0) [gv ws0 0, gv ws0 1] h1)

noncomputable def f29 (rec : Rec) (k : Nat) (v0 : Value) (h0 : H) : Option (Value × H) :=
  len v0 fun n0 =>
  lp k (f29_l1 rec k v0 n0) [(.slice none 0 0), (.int .i64 0)] h0 fun e0 ws1 h6 =>
  onE e0 0 (
    some (gv ws1 0, h6)) (
    none)

theorem e29 (rec : Rec) (k : Nat) (v0 : Value) (h : H) : bodyT Tryd.prog E0 SC (XC Tryd.prog rec k) 29 (Value × H) [.opq v0] h (fun v h => some (v, h)) = f29 rec k v0 h := by kernel_rfl
theorem t29 {k : Nat} {v0 : Value} {h h1 : H} {v : Value} (hh : f29 rn k v0 h = some (v, h1)) : rn 29 #[v0] h = some (v, trunc Tryd.prog h h1 v) :=
  run_of_bodyT (args := [.opq v0]) rfl ((e29 _ _ _ _).trans hh)
theorem p29 {k : Nat} {v0 : Value} {h h1 : H} {v : Value} (hh : f29 rn k v0 h = some (v, h1)) (hp : plainO v = true) (x : Ext h h1) : rn 29 #[v0] h = some (v, h) := by rw [t29 hh, trunc_pure hp x]
theorem x29 {k : Nat} {v0 : Value} {h h1 : H} {v : Value} (hh : f29 rn k v0 h = some (v, h1)) (hp : plainO v = false) : ∃ h2, rn 29 #[v0] h = some (v, h2) ∧ Sm h1 h2 ∧ (Ext h h1 → Exw h h2) := trunc_cell hp (t29 hh)
theorem y29 {k : Nat} {v0 : Value} {h : H} {v : Value} (hh : f29 rn k v0 h = some (v, h)) : rn 29 #[v0] h = some (v, h) := by rw [t29 hh, trunc_self]

noncomputable def f30_l1 (_rec : Rec) (_k : Nat) (v1 : Value) (v2 : Value) (v3 : Value) (n3 : Int) (ws0 : List Value) (h3 : H) : Option (Ex × List Value × H) :=
  asI .i64 (gv ws0 1) fun n4 =>
  ifB (lt n4 n3) (
    asK (gv ws0 1) fun n5 =>
    six v1 n5 2 fun b0 b1 =>
    ld Tryd.prog h3 94 b0 b1 fun v4 =>
    al h3 94 [(.int .i64 0), (.int .i64 0)] fun h4 =>
    st Tryd.prog h4 94 (nx h3) 0 v4 fun h5 =>
    ld Tryd.prog h5 94 (nx h3) 0 fun v5 =>
    asK (gv ws0 1) fun n6 =>
    six v2 n6 2 fun b2 b3 =>
    aix 2 0 (
      ld Tryd.prog h5 3 b2 (at_ b3 0 1) fun v6 =>
      asI .i64 v6 fun n7 =>
      asK (gv ws0 1) fun n8 =>
      six v2 n8 2 fun b4 b5 =>
      aix 2 1 (
        ld Tryd.prog h5 3 b4 (at_ b5 1 1) fun v7 =>
        asI .i64 v7 fun n9 =>
        bld Tryd.prog 94 [(0, (.int .i64 n7)), (1, (.int .i64 n9))] fun v8 =>
        eqv Tryd.prog 94 v5 v8 fun q0 =>
        ifB (not q0) (
          ld Tryd.prog h5 94 (nx h3) 0 fun v9 =>
          asK (gv ws0 1) fun n10 =>
          six v2 n10 2 fun b6 b7 =>
          aix 2 1 (
            ld Tryd.prog h5 3 b6 (at_ b7 1 1) fun v10 =>
            asI .i64 v10 fun n11 =>
            asK (gv ws0 1) fun n12 =>
            six v2 n12 2 fun b8 b9 =>
            aix 2 0 (
              ld Tryd.prog h5 3 b8 (at_ b9 0 1) fun v11 =>
              asI .i64 v11 fun n13 =>
              bld Tryd.prog 94 [(0, (.int .i64 n11)), (1, (.int .i64 n13))] fun v12 =>
              eqv Tryd.prog 94 v9 v12 fun q1 =>
              ifB (not q1) (
                out .ret [(.bool false), gv ws0 1] h5) (
                ld Tryd.prog h5 3 (nx h3) 0 fun v13 =>
                asI .i64 v13 fun n14 =>
                six v3 n14 1 fun b10 b11 =>
                ld Tryd.prog h5 3 b10 b11 fun v14 =>
                asI .i64 v14 fun n15 =>
                ld Tryd.prog h5 3 (nx h3) (off 0 1) fun v15 =>
                asI .i64 v15 fun n16 =>
                nn n16 (
                  six v3 n14 1 fun b12 b13 =>
                  st Tryd.prog h5 3 b12 b13 (.int .i64 (or .i64 n15 (shl .i64 1 n16))) fun h6 =>
                  asI .i64 (gv ws0 1) fun n17 =>
                  out .normal [gv ws0 0, (.int .i64 (add .i64 n17 1))] h6))))) (
          ld Tryd.prog h5 3 (nx h3) 0 fun v16 =>
          asI .i64 v16 fun n18 =>
          six v3 n18 1 fun b14 b15 =>
          ld Tryd.prog h5 3 b14 b15 fun v17 =>
          asI .i64 v17 fun n19 =>
          ld Tryd.prog h5 3 (nx h3) (off 0 1) fun v18 =>
          asI .i64 v18 fun n20 =>
          nn n20 (
            six v3 n18 1 fun b16 b17 =>
            st Tryd.prog h5 3 b16 b17 (.int .i64 (or .i64 n19 (shl .i64 1 n20))) fun h7 =>
            asI .i64 (gv ws0 1) fun n21 =>
            out .normal [gv ws0 0, (.int .i64 (add .i64 n21 1))] h7))))) (
    out (.exit 0) [gv ws0 0, gv ws0 1] h3)

noncomputable def f30_l2 (rec : Rec) (_k : Nat) (v0 : Value) (v3 : Value) (n22 : Int) (ws2 : List Value) (h9 : H) : Option (Ex × List Value × H) :=
  asI .i64 (gv ws2 1) fun n23 =>
  ifB (lt n23 n22) (
    calls rec h9 68 [v0] fun v19 h10 =>
    asI .i64 v19 fun n24 =>
    calls rec h10 33 [v3, (.int .i64 n24), gv ws2 1] fun v20 h11 =>
    asI .i64 v20 fun n25 =>
    calls rec h11 68 [v0] fun v21 h12 =>
    asI .i64 v21 fun n26 =>
    ifB (not (eq n25 n26)) (
      out .ret [(.bool false), gv ws2 1] h12) (
      asI .i64 (gv ws2 1) fun n27 =>
      out .normal [gv ws2 0, (.int .i64 (add .i64 n27 1))] h12)) (
    out (.exit 2) [gv ws2 0, gv ws2 1] h9)

noncomputable def f30 (rec : Rec) (k : Nat) (v0 : Value) (v1 : Value) (h0 : H) : Option (Value × H) :=
  calls rec h0 71 [v0] fun v2 h1 =>
  len v1 fun n0 =>
  len v2 fun n1 =>
  ifB (not (eq n0 n1)) (
    some ((.bool false), h1)) (
    len v0 fun n2 =>
    mks Tryd.prog h1 22 n2 n2 fun v3 h2 =>
    len v1 fun n3 =>
    lp k (f30_l1 rec k v1 v2 v3 n3) [(.bool false), (.int .i64 0)] h2 fun e0 ws1 h8 =>
    onE e0 0 (
      len v0 fun n22 =>
      lp k (f30_l2 rec k v0 v3 n22) [gv ws1 0, (.int .i64 0)] h8 fun e1 ws3 h13 =>
      onE e1 2 (
        some ((.bool true), h13)) (
        onR e1 (
          some (gv ws3 0, h13)))) (
      onR e0 (
        some (gv ws1 0, h8))))

theorem e30 (rec : Rec) (k : Nat) (v0 : Value) (v1 : Value) (h : H) : bodyT Tryd.prog E0 SC (XC Tryd.prog rec k) 30 (Value × H) [.opq v0, .opq v1] h (fun v h => some (v, h)) = f30 rec k v0 v1 h := by kernel_rfl
theorem t30 {k : Nat} {v0 : Value} {v1 : Value} {h h1 : H} {v : Value} (hh : f30 rn k v0 v1 h = some (v, h1)) : rn 30 #[v0, v1] h = some (v, trunc Tryd.prog h h1 v) :=
  run_of_bodyT (args := [.opq v0, .opq v1]) rfl ((e30 _ _ _ _ _).trans hh)
theorem p30 {k : Nat} {v0 : Value} {v1 : Value} {h h1 : H} {v : Value} (hh : f30 rn k v0 v1 h = some (v, h1)) (hp : plainO v = true) (x : Ext h h1) : rn 30 #[v0, v1] h = some (v, h) := by rw [t30 hh, trunc_pure hp x]
theorem x30 {k : Nat} {v0 : Value} {v1 : Value} {h h1 : H} {v : Value} (hh : f30 rn k v0 v1 h = some (v, h1)) (hp : plainO v = false) : ∃ h2, rn 30 #[v0, v1] h = some (v, h2) ∧ Sm h1 h2 ∧ (Ext h h1 → Exw h h2) := trunc_cell hp (t30 hh)
theorem y30 {k : Nat} {v0 : Value} {v1 : Value} {h : H} {v : Value} (hh : f30 rn k v0 v1 h = some (v, h)) : rn 30 #[v0, v1] h = some (v, h) := by rw [t30 hh, trunc_self]

noncomputable def f31 (rec : Rec) (_k : Nat) (v0 : Value) (h0 : H) : Option (Value × H) :=
  calls rec h0 68 [v0] fun v1 h1 =>
  asI .i64 v1 fun n0 =>
  calls rec h1 67 [v0, (.int .i64 n0)] fun v2 h2 =>
  asB v2 fun q0 =>
  ifB q0 (
    calls rec h2 25 [v0] fun v3 h3 =>
    len v3 fun n1 =>
    some ((.bool (eq n1 0)), h3)) (
    some ((.bool false), h2))

theorem e31 (rec : Rec) (k : Nat) (v0 : Value) (h : H) : bodyT Tryd.prog E0 SC (XC Tryd.prog rec k) 31 (Value × H) [.opq v0] h (fun v h => some (v, h)) = f31 rec k v0 h := by kernel_rfl
theorem t31 {k : Nat} {v0 : Value} {h h1 : H} {v : Value} (hh : f31 rn k v0 h = some (v, h1)) : rn 31 #[v0] h = some (v, trunc Tryd.prog h h1 v) :=
  run_of_bodyT (args := [.opq v0]) rfl ((e31 _ _ _ _).trans hh)
theorem p31 {k : Nat} {v0 : Value} {h h1 : H} {v : Value} (hh : f31 rn k v0 h = some (v, h1)) (hp : plainO v = true) (x : Ext h h1) : rn 31 #[v0] h = some (v, h) := by rw [t31 hh, trunc_pure hp x]
theorem x31 {k : Nat} {v0 : Value} {h h1 : H} {v : Value} (hh : f31 rn k v0 h = some (v, h1)) (hp : plainO v = false) : ∃ h2, rn 31 #[v0] h = some (v, h2) ∧ Sm h1 h2 ∧ (Ext h h1 → Exw h h2) := trunc_cell hp (t31 hh)
theorem y31 {k : Nat} {v0 : Value} {h : H} {v : Value} (hh : f31 rn k v0 h = some (v, h)) : rn 31 #[v0] h = some (v, h) := by rw [t31 hh, trunc_self]

noncomputable def f32_l1 (_rec : Rec) (_k : Nat) (v0 : Value) (n0 : Int) (ws0 : List Value) (h1 : H) : Option (Ex × List Value × H) :=
  asI .i64 (gv ws0 1) fun n1 =>
  ifB (lt n1 n0) (
    asK (gv ws0 1) fun n2 =>
    six v0 n2 2 fun b0 b1 =>
    ld Tryd.prog h1 92 b0 b1 fun v1 =>
    al h1 92 [(.int .i64 0), (.int .i64 0)] fun h2 =>
    st Tryd.prog h2 92 (nx h1) 0 v1 fun h3 =>
    ld Tryd.prog h3 3 (nx h1) 0 fun v2 =>
    asI .i64 v2 fun n3 =>
    ld Tryd.prog h3 3 (nx h1) (off 0 1) fun v3 =>
    asI .i64 v3 fun n4 =>
    bld Tryd.prog 94 [(0, (.int .i64 n3)), (1, (.int .i64 n4))] fun v4 =>
    bls Tryd.prog h3 37 1 [(0, v4)] fun v5 h4 =>
    app Tryd.prog h4 37 37 (gv ws0 0) v5 fun v6 h5 =>
    asI .i64 (gv ws0 1) fun n5 =>
    out .normal [v6, (.int .i64 (add .i64 n5 1))] h5) (
    out (.exit 0) [gv ws0 0, gv ws0 1] h1)

noncomputable def f32 (rec : Rec) (k : Nat) (v0 : Value) (h0 : H) : Option (Value × H) :=
  len v0 fun n0 =>
  lp k (f32_l1 rec k v0 n0) [(.slice none 0 0), (.int .i64 0)] h0 fun e0 ws1 h6 =>
  onE e0 0 (
    some (gv ws1 0, h6)) (
    none)

theorem e32 (rec : Rec) (k : Nat) (v0 : Value) (h : H) : bodyT Tryd.prog E0 SC (XC Tryd.prog rec k) 32 (Value × H) [.opq v0] h (fun v h => some (v, h)) = f32 rec k v0 h := by kernel_rfl
theorem t32 {k : Nat} {v0 : Value} {h h1 : H} {v : Value} (hh : f32 rn k v0 h = some (v, h1)) : rn 32 #[v0] h = some (v, trunc Tryd.prog h h1 v) :=
  run_of_bodyT (args := [.opq v0]) rfl ((e32 _ _ _ _).trans hh)
theorem p32 {k : Nat} {v0 : Value} {h h1 : H} {v : Value} (hh : f32 rn k v0 h = some (v, h1)) (hp : plainO v = true) (x : Ext h h1) : rn 32 #[v0] h = some (v, h) := by rw [t32 hh, trunc_pure hp x]
theorem x32 {k : Nat} {v0 : Value} {h h1 : H} {v : Value} (hh : f32 rn k v0 h = some (v, h1)) (hp : plainO v = false) : ∃ h2, rn 32 #[v0] h = some (v, h2) ∧ Sm h1 h2 ∧ (Ext h h1 → Exw h h2) := trunc_cell hp (t32 hh)
theorem y32 {k : Nat} {v0 : Value} {h : H} {v : Value} (hh : f32 rn k v0 h = some (v, h)) : rn 32 #[v0] h = some (v, h) := by rw [t32 hh, trunc_self]

noncomputable def f75_l1 (rec : Rec) (_k : Nat) (n0 : Int) (v1 : Value) (v2 : Value) (v3 : Value) (v6 : Value) (n2 : Int) (ws0 : List Value) (h2 : H) : Option (Ex × List Value × H) :=
  asI .i64 (gv ws0 0) fun n3 =>
  ifB (lt n3 n2) (
    asK (gv ws0 0) fun n4 =>
    six v6 n4 1 fun b4 b5 =>
    ld Tryd.prog h2 3 b4 b5 fun v7 =>
    asI .i64 v7 fun n5 =>
    asP v1 fun b6 b7 =>
    ld Tryd.prog h2 87 b6 b7 fun v8 =>
    lok Tryd.prog h2 87 v8 (.int .i64 n5) true fun v9 =>
    ext v9 0 fun v10 =>
    asI .i64 v10 fun _ =>
    ext v9 1 fun v11 =>
    asB v11 fun q0 =>
    ifB (not q0) (
      asP v1 fun _ _ =>
      asP v1 fun b10 b11 =>
      ld Tryd.prog h2 87 b10 b11 fun v12 =>
      asP v2 fun b12 _ =>
      asP v2 fun b14 b15 =>
      ld Tryd.prog h2 87 b14 b15 fun v13 =>
      asP v1 fun _ _ =>
      asP v1 fun b18 b19 =>
      ld Tryd.prog h2 87 b18 b19 fun v14 =>
      mlen h2 v14 fun n7 =>
      mup Tryd.prog h2 87 v12 (.int .i64 n5) (.int .i64 n7) fun h3 =>
      ck (frew b12 v12 (nx h2)) (
        mup Tryd.prog h3 87 v13 (.int .i64 n5) (.int .i64 n0) fun h4 =>
        asP v3 fun b20 b21 =>
        ld Tryd.prog h4 88 b20 b21 fun v15 =>
        callsV rec h4 v15 [(.int .i64 n5)] fun _ h5 =>
        asI .i64 (gv ws0 0) fun n8 =>
        out .normal [(.int .i64 (add .i64 n8 1))] h5)) (
      asI .i64 (gv ws0 0) fun n9 =>
      out .normal [(.int .i64 (add .i64 n9 1))] h2)) (
    out (.exit 0) [gv ws0 0] h2)

noncomputable def f75 (rec : Rec) (k : Nat) (n0 : Int) (v0 : Value) (v1 : Value) (v2 : Value) (v3 : Value) (h0 : H) : Option (Value × H) :=
  asP v0 fun b0 b1 =>
  ld Tryd.prog h0 78 b0 b1 fun v4 =>
  six v4 n0 1 fun b2 b3 =>
  ld Tryd.prog h0 3 b2 b3 fun v5 =>
  asI .i64 v5 fun n1 =>
  calls rec h0 76 [(.int .i64 n1)] fun v6 h1 =>
  len v6 fun n2 =>
  lp k (f75_l1 rec k n0 v1 v2 v3 v6 n2) [(.int .i64 0)] h1 fun e0 _ h6 =>
  onE e0 0 (
    some (undef, h6)) (
    none)

theorem e75 (rec : Rec) (k : Nat) (n0 : Int) (v0 : Value) (v1 : Value) (v2 : Value) (v3 : Value) (h : H) : bodyT Tryd.prog E0 SC (XC Tryd.prog rec k) 75 (Value × H) [.int .i64 n0, .opq v0, .opq v1, .opq v2, .opq v3] h (fun v h => some (v, h)) = f75 rec k n0 v0 v1 v2 v3 h := by kernel_rfl
theorem t75 {k : Nat} {n0 : Int} {v0 : Value} {v1 : Value} {v2 : Value} {v3 : Value} {h h1 : H} {v : Value} (hh : f75 rn k n0 v0 v1 v2 v3 h = some (v, h1)) : rn 75 #[.int .i64 n0, v0, v1, v2, v3] h = some (v, trunc Tryd.prog h h1 v) :=
  run_of_bodyT (args := [.int .i64 n0, .opq v0, .opq v1, .opq v2, .opq v3]) rfl ((e75 _ _ _ _ _ _ _ _).trans hh)
theorem p75 {k : Nat} {n0 : Int} {v0 : Value} {v1 : Value} {v2 : Value} {v3 : Value} {h h1 : H} {v : Value} (hh : f75 rn k n0 v0 v1 v2 v3 h = some (v, h1)) (hp : plainO v = true) (x : Ext h h1) : rn 75 #[.int .i64 n0, v0, v1, v2, v3] h = some (v, h) := by rw [t75 hh, trunc_pure hp x]
theorem x75 {k : Nat} {n0 : Int} {v0 : Value} {v1 : Value} {v2 : Value} {v3 : Value} {h h1 : H} {v : Value} (hh : f75 rn k n0 v0 v1 v2 v3 h = some (v, h1)) (hp : plainO v = false) : ∃ h2, rn 75 #[.int .i64 n0, v0, v1, v2, v3] h = some (v, h2) ∧ Sm h1 h2 ∧ (Ext h h1 → Exw h h2) := trunc_cell hp (t75 hh)
theorem y75 {k : Nat} {n0 : Int} {v0 : Value} {v1 : Value} {v2 : Value} {v3 : Value} {h : H} {v : Value} (hh : f75 rn k n0 v0 v1 v2 v3 h = some (v, h)) : rn 75 #[.int .i64 n0, v0, v1, v2, v3] h = some (v, h) := by rw [t75 hh, trunc_self]

end Go.AM
