/- The staged forms of functions 11, 12, 48, 49, 50, 51, 53, 94, 95, 96, 110, and what calls of these answer. -/
import Derived.Test.YtakhklelgcfgjaaDoorSx
namespace Go.AM
open Go.Proofs

noncomputable def f11_l3 (_rec : Rec) (_k : Nat) (v3 : Value) (ws0 : List Value) (ws1 : List Value) (n8 : Int) (ws2 : List Value) (h11 : H) : Option (Ex × List Value × H) :=
  asI .i64 (gv ws2 1) fun n9 =>
  ifB (lt n9 n8) (
    asK (gv ws2 1) fun n10 =>
    six v3 n10 1 fun b0 b1 =>
    ld Tryd.prog h11 3 b0 b1 fun v15 =>
    asI .i64 v15 fun n11 =>
    asK (gv ws0 1) fun n12 =>
    nn n12 (
      asK (gv ws1 1) fun n13 =>
      nn n13 (
        asI .i64 (gv ws2 0) fun n14 =>
        asI .i64 (gv ws2 1) fun n15 =>
        out .normal [(.int .i64 (add .i64 n14 (mul .i64 (and .i64 (shr .i64 n11 n12) 1) (and .i64 (shr .i64 n11 n13) 1)))), (.int .i64 (add .i64 n15 1))] h11))) (
    out (.exit 4) [gv ws2 0, gv ws2 1] h11)

noncomputable def f11_l2 (rec : Rec) (k : Nat) (v0 : Value) (v3 : Value) (v11 : Value) (ws0 : List Value) (ws1 : List Value) (h10 : H) : Option (Ex × List Value × H) :=
  asI .i64 (gv ws1 1) fun n6 =>
  asI .i64 (gv ws0 1) fun n7 =>
  ifB (lt n6 n7) (
    len v3 fun n8 =>
    lp k (f11_l3 rec k v3 ws0 ws1 n8) [(.int .i64 0), (.int .i64 0)] h10 fun e0 ws3 h12 =>
    onE e0 4 (
      asK (gv ws0 1) fun n16 =>
      six v0 n16 1 fun b2 b3 =>
      ld Tryd.prog h12 3 b2 b3 fun v16 =>
      asI .i64 v16 fun n17 =>
      asK (gv ws1 1) fun n18 =>
      nn n18 (
        ifB (eq (and .i64 (shr .i64 n17 n18) 1) 1) (
          asI .i64 (gv ws3 0) fun n19 =>
          ifB (not (eq n19 1)) (
            out .ret [(.bool false), gv ws1 1] h12) (
            asI .i64 (gv ws3 0) fun n20 =>
            ifB (lt 1 n20) (
              out .ret [(.bool false), gv ws1 1] h12) (
              asI .i64 (gv ws3 0) fun n21 =>
              ifB (eq n21 1) (
                asK (gv ws0 1) fun n22 =>
                nn n22 (
                  asK (gv ws1 1) fun n23 =>
                  nn n23 (
                    calls rec h12 49 [v3, (.int .i64 (or .i64 (shl .i64 1 n22) (shl .i64 1 n23)))] fun v17 h13 =>
                    asB v17 fun q2 =>
                    bld Tryd.prog 32 [(0, gv ws1 1), (1, gv ws0 1)] fun v18 =>
                    calls rec h13 50 [v11, v18] fun v19 h14 =>
                    asB v19 fun q3 =>
                    eqv Tryd.prog 4 (.bool q2) (.bool q3) fun q4 =>
                    ifB (not q4) (
                      out .ret [(.bool false), gv ws1 1] h14) (
                      asI .i64 (gv ws1 1) fun n24 =>
                      out .normal [gv ws1 0, (.int .i64 (add .i64 n24 1))] h14)))) (
                bld Tryd.prog 32 [(0, gv ws1 1), (1, gv ws0 1)] fun v20 =>
                calls rec h12 50 [v11, v20] fun v21 h15 =>
                asB v21 fun q5 =>
                eqv Tryd.prog 4 (.bool false) (.bool q5) fun q6 =>
                ifB (not q6) (
                  out .ret [(.bool false), gv ws1 1] h15) (
                  asI .i64 (gv ws1 1) fun n25 =>
                  out .normal [gv ws1 0, (.int .i64 (add .i64 n25 1))] h15))))) (
          asI .i64 (gv ws3 0) fun n26 =>
          ifB (lt 1 n26) (
            out .ret [(.bool false), gv ws1 1] h12) (
            asI .i64 (gv ws3 0) fun n27 =>
            ifB (eq n27 1) (
              asK (gv ws0 1) fun n28 =>
              nn n28 (
                asK (gv ws1 1) fun n29 =>
                nn n29 (
                  calls rec h12 49 [v3, (.int .i64 (or .i64 (shl .i64 1 n28) (shl .i64 1 n29)))] fun v22 h16 =>
                  asB v22 fun q7 =>
                  bld Tryd.prog 32 [(0, gv ws1 1), (1, gv ws0 1)] fun v23 =>
                  calls rec h16 50 [v11, v23] fun v24 h17 =>
                  asB v24 fun q8 =>
                  eqv Tryd.prog 4 (.bool q7) (.bool q8) fun q9 =>
                  ifB (not q9) (
                    out .ret [(.bool false), gv ws1 1] h17) (
                    asI .i64 (gv ws1 1) fun n30 =>
                    out .normal [gv ws1 0, (.int .i64 (add .i64 n30 1))] h17)))) (
              bld Tryd.prog 32 [(0, gv ws1 1), (1, gv ws0 1)] fun v25 =>
              calls rec h12 50 [v11, v25] fun v26 h18 =>
              asB v26 fun q10 =>
              eqv Tryd.prog 4 (.bool false) (.bool q10) fun q11 =>
              ifB (not q11) (
                out .ret [(.bool false), gv ws1 1] h18) (
                asI .i64 (gv ws1 1) fun n31 =>
                out .normal [gv ws1 0, (.int .i64 (add .i64 n31 1))] h18)))))) (
      none)) (
    out (.exit 2) [gv ws1 0, gv ws1 1] h10)

noncomputable def f11_l1 (rec : Rec) (k : Nat) (v0 : Value) (v3 : Value) (v11 : Value) (n4 : Int) (ws0 : List Value) (h9 : H) : Option (Ex × List Value × H) :=
  asI .i64 (gv ws0 1) fun n5 =>
  ifB (lt n5 n4) (
    lp k (f11_l2 rec k v0 v3 v11 ws0) [gv ws0 0, (.int .i64 0)] h9 fun e1 ws4 h19 =>
    onE e1 2 (
      asI .i64 (gv ws0 1) fun n32 =>
      out .normal [gv ws4 0, (.int .i64 (add .i64 n32 1))] h19) (
      onR e1 (
        out .ret [gv ws4 0, gv ws0 1] h19))) (
    out (.exit 0) [gv ws0 0, gv ws0 1] h9)

noncomputable def f11_l5 (_rec : Rec) (_k : Nat) (n1 : Int) (n36 : Int) (v28 : Value) (n37 : Int) (ws7 : List Value) (h22 : H) : Option (Ex × List Value × H) :=
  asI .i64 (gv ws7 1) fun n38 =>
  ifB (lt n38 n37) (
    asK (gv ws7 1) fun n39 =>
    six v28 n39 1 fun b6 b7 =>
    ld Tryd.prog h22 3 b6 b7 fun v29 =>
    asI .i64 v29 fun n40 =>
    ifB (not (eq (and .i64 n36 n40) 0)) (
      ifB (not (eq (and .i64 (and .i64 n36 n40) (sub .i64 (and .i64 n36 n40) 1)) 0)) (
        out .ret [(.bool false), gv ws7 1] h22) (
        ifB (not (eq (andNot .i64 (and .i64 n36 n40) n1) 0)) (
          out .ret [(.bool false), gv ws7 1] h22) (
          asI .i64 (gv ws7 1) fun n41 =>
          out .normal [gv ws7 0, (.int .i64 (add .i64 n41 1))] h22))) (
      asI .i64 (gv ws7 1) fun n42 =>
      out .normal [gv ws7 0, (.int .i64 (add .i64 n42 1))] h22)) (
    out (.exit 8) [gv ws7 0, gv ws7 1] h22)

noncomputable def f11_l4 (rec : Rec) (k : Nat) (v3 : Value) (n1 : Int) (n33 : Int) (ws6 : List Value) (h21 : H) : Option (Ex × List Value × H) :=
  asI .i64 (gv ws6 1) fun n34 =>
  ifB (lt n34 n33) (
    asK (gv ws6 1) fun n35 =>
    six v3 n35 1 fun b4 b5 =>
    ld Tryd.prog h21 3 b4 b5 fun v27 =>
    asI .i64 v27 fun n36 =>
    sli Tryd.prog h21 22 v3 none (some (gv ws6 1)) none fun v28 =>
    len v28 fun n37 =>
    lp k (f11_l5 rec k n1 n36 v28 n37) [gv ws6 0, (.int .i64 0)] h21 fun e3 ws8 h23 =>
    onE e3 8 (
      asI .i64 (gv ws6 1) fun n43 =>
      out .normal [gv ws8 0, (.int .i64 (add .i64 n43 1))] h23) (
      onR e3 (
        out .ret [gv ws8 0, gv ws6 1] h23))) (
    out (.exit 6) [gv ws6 0, gv ws6 1] h21)

noncomputable def f11 (rec : Rec) (k : Nat) (v0 : Value) (h0 : H) : Option (Value × H) :=
  calls rec h0 18 [v0] fun v1 h1 =>
  calls rec h1 44 [v1] fun v2 h2 =>
  ext v2 0 fun v3 =>
  ext v2 1 fun v4 =>
  asI .i64 v4 fun n0 =>
  calls rec h2 18 [v0] fun v5 h3 =>
  calls rec h3 24 [v5] fun v6 h4 =>
  ext v6 0 fun v7 =>
  asI .i64 v7 fun n1 =>
  ext v6 1 fun v8 =>
  asI .i64 v8 fun n2 =>
  calls rec h4 18 [v0] fun v9 h5 =>
  calls rec h5 23 [v9] fun v10 h6 =>
  ext v10 0 fun v11 =>
  ext v10 1 fun v12 =>
  asI .i64 v12 fun n3 =>
  ifB (not (eq n0 0)) (
    ifB (eq n0 2) (
      ifB (eq n2 2) (
        ifB (eq n3 2) (
          calls rec h6 20 [] fun v13 h7 =>
          asB v13 fun q0 =>
          some ((.bool q0), h7)) (
          some ((.bool false), h6))) (
        some ((.bool false), h6))) (
      some ((.bool false), h6))) (
    ifB (not (eq n2 0)) (
      some ((.bool false), h6)) (
      ifB (not (eq n3 0)) (
        some ((.bool false), h6)) (
        calls rec h6 48 [v3] fun v14 h8 =>
        asB v14 fun q1 =>
        ifB (not q1) (
          some ((.bool false), h8)) (
          len v0 fun n4 =>
          lp k (f11_l1 rec k v0 v3 v11 n4) [(.bool false), (.int .i64 0)] h8 fun e2 ws5 h20 =>
          onE e2 0 (
            len v3 fun n33 =>
            lp k (f11_l4 rec k v3 n1 n33) [gv ws5 0, (.int .i64 0)] h20 fun e4 ws9 h24 =>
            onE e4 6 (
              calls rec h24 20 [] fun v30 h25 =>
              asB v30 fun q12 =>
              some ((.bool q12), h25)) (
              onR e4 (
                some (gv ws9 0, h24)))) (
            onR e2 (
              some (gv ws5 0, h20)))))))

theorem e11 (rec : Rec) (k : Nat) (v0 : Value) (h : H) : bodyT Tryd.prog E0 SC (XC Tryd.prog rec k) 11 (Value × H) [.opq v0] h (fun v h => some (v, h)) = f11 rec k v0 h := by kernel_rfl
theorem t11 {k : Nat} {v0 : Value} {h h1 : H} {v : Value} (hh : f11 rn k v0 h = some (v, h1)) : rn 11 #[v0] h = some (v, trunc Tryd.prog h h1 v) :=
  run_of_bodyT (args := [.opq v0]) rfl ((e11 _ _ _ _).trans hh)
theorem p11 {k : Nat} {v0 : Value} {h h1 : H} {v : Value} (hh : f11 rn k v0 h = some (v, h1)) (hp : plainO v = true) (x : Ext h h1) : rn 11 #[v0] h = some (v, h) := by rw [t11 hh, trunc_pure hp x]
theorem x11 {k : Nat} {v0 : Value} {h h1 : H} {v : Value} (hh : f11 rn k v0 h = some (v, h1)) (hp : plainO v = false) : ∃ h2, rn 11 #[v0] h = some (v, h2) ∧ Sm h1 h2 ∧ (Ext h h1 → Exw h h2) := trunc_cell hp (t11 hh)
theorem y11 {k : Nat} {v0 : Value} {h : H} {v : Value} (hh : f11 rn k v0 h = some (v, h)) : rn 11 #[v0] h = some (v, h) := by rw [t11 hh, trunc_self]

noncomputable def f12_l1 (rec : Rec) (_k : Nat) (v0 : Value) (h0 : H) (h2 : H) (v6 : Value) (n5 : Int) (ws0 : List Value) (h8 : H) : Option (Ex × List Value × H) :=
  asI .i64 (gv ws0 0) fun n6 =>
  ifB (lt n6 n5) (
    asK (gv ws0 0) fun n7 =>
    six v0 n7 1 fun b0 b1 =>
    ld Tryd.prog h8 3 b0 b1 fun v7 =>
    asI .i64 v7 fun n8 =>
    ld Tryd.prog h8 3 (nx h0) 0 fun v8 =>
    asI .i64 v8 fun n9 =>
    asI .i64 (gv ws0 0) fun n10 =>
    ld Tryd.prog h8 3 (nx h2) 0 fun v9 =>
    asI .i64 v9 fun n11 =>
    nz n11 (
      calls rec h8 51 [(.int .i64 n8), (pt (nx h0) 0), (pt (nx h2) 0)] fun v10 h9 =>
      asI .i64 v10 fun n12 =>
      ck (freq (nx h2) (nx h8) (same h9 h8)) (
        ck (freq (nx h0) (nx h8) (same h9 h8)) (
          six v6 (rem .i64 (add .i64 n10 n9) n11) 1 fun b2 b3 =>
          st Tryd.prog h9 3 b2 b3 (.int .i64 n12) fun h10 =>
          asI .i64 (gv ws0 0) fun n13 =>
          out .normal [(.int .i64 (add .i64 n13 1))] h10)))) (
    out (.exit 0) [gv ws0 0] h8)

noncomputable def f12_l2 (rec : Rec) (_k : Nat) (h0 : H) (h2 : H) (v13 : Value) (v17 : Value) (n31 : Int) (ws2 : List Value) (h29 : H) : Option (Ex × List Value × H) :=
  asI .i64 (gv ws2 1) fun n32 =>
  ifB (lt n32 n31) (
    asK (gv ws2 1) fun n33 =>
    six v13 n33 2 fun b4 b5 =>
    ld Tryd.prog h29 32 b4 b5 fun v44 =>
    al h29 32 [(.int .i64 0), (.int .i64 0)] fun h30 =>
    st Tryd.prog h30 32 (nx h29) 0 v44 fun h31 =>
    ld Tryd.prog h31 32 (nx h29) 0 fun v45 =>
    calls rec h31 53 [v45, (pt (nx h0) 0), (pt (nx h2) 0)] fun v46 h32 =>
    calls rec h32 50 [v17, v46] fun v47 h33 =>
    asB v47 fun q2 =>
    ifB (not q2) (
      out .ret [(.bool false), gv ws2 1] h33) (
      asI .i64 (gv ws2 1) fun n34 =>
      out .normal [gv ws2 0, (.int .i64 (add .i64 n34 1))] h33)) (
    out (.exit 2) [gv ws2 0, gv ws2 1] h29)

noncomputable def f12_l3 (rec : Rec) (_k : Nat) (h0 : H) (h2 : H) (v37 : Value) (v41 : Value) (n35 : Int) (ws4 : List Value) (h35 : H) : Option (Ex × List Value × H) :=
  asI .i64 (gv ws4 1) fun n36 =>
  ifB (lt n36 n35) (
    asK (gv ws4 1) fun n37 =>
    six v37 n37 2 fun b6 b7 =>
    ld Tryd.prog h35 32 b6 b7 fun v48 =>
    al h35 32 [(.int .i64 0), (.int .i64 0)] fun h36 =>
    st Tryd.prog h36 32 (nx h35) 0 v48 fun h37 =>
    ld Tryd.prog h37 32 (nx h35) 0 fun v49 =>
    calls rec h37 53 [v49, (pt (nx h0) 0), (pt (nx h2) 0)] fun v50 h38 =>
    calls rec h38 50 [v41, v50] fun v51 h39 =>
    asB v51 fun q3 =>
    ifB (not q3) (
      out .ret [(.bool false), gv ws4 1] h39) (
      asI .i64 (gv ws4 1) fun n38 =>
      out .normal [gv ws4 0, (.int .i64 (add .i64 n38 1))] h39)) (
    out (.exit 4) [gv ws4 0, gv ws4 1] h35)

noncomputable def f12_l4 (rec : Rec) (_k : Nat) (h0 : H) (h2 : H) (v29 : Value) (v33 : Value) (n39 : Int) (ws6 : List Value) (h41 : H) : Option (Ex × List Value × H) :=
  asI .i64 (gv ws6 1) fun n40 =>
  ifB (lt n40 n39) (
    asK (gv ws6 1) fun n41 =>
    six v29 n41 1 fun b8 b9 =>
    ld Tryd.prog h41 3 b8 b9 fun v52 =>
    asI .i64 v52 fun n42 =>
    calls rec h41 51 [(.int .i64 n42), (pt (nx h0) 0), (pt (nx h2) 0)] fun v53 h42 =>
    asI .i64 v53 fun n43 =>
    calls rec h42 49 [v33, (.int .i64 n43)] fun v54 h43 =>
    asB v54 fun q4 =>
    ifB (not q4) (
      out .ret [(.bool false), gv ws6 1] h43) (
      asI .i64 (gv ws6 1) fun n44 =>
      out .normal [gv ws6 0, (.int .i64 (add .i64 n44 1))] h43)) (
    out (.exit 6) [gv ws6 0, gv ws6 1] h41)

noncomputable def f12 (rec : Rec) (k : Nat) (v0 : Value) (n0 : Int) (h0 : H) : Option (Value × H) :=
  bx h0 3 (.int .i64 n0) fun h1 =>
  calls rec h1 19 [v0] fun v1 h2 =>
  asB v1 fun q0 =>
  ifB (not q0) (
    calls rec h2 20 [] fun v2 h3 =>
    asB v2 fun q1 =>
    some ((.bool q1), h3)) (
    len v0 fun n1 =>
    al h2 3 [(.int .i64 0)] fun h4 =>
    st Tryd.prog h4 3 (nx h2) 0 (.int .i64 n1) fun h5 =>
    ld Tryd.prog h5 3 (nx h0) 0 fun v3 =>
    asI .i64 v3 fun n2 =>
    ld Tryd.prog h5 3 (nx h2) 0 fun v4 =>
    asI .i64 v4 fun n3 =>
    nz (wr .u64 n3) (
      st Tryd.prog h5 3 (nx h0) 0 (.int .i64 (wr .i64 (rem .u64 (wr .u64 n2) (wr .u64 n3)))) fun h6 =>
      ld Tryd.prog h6 3 (nx h2) 0 fun v5 =>
      asI .i64 v5 fun n4 =>
      mks Tryd.prog h6 23 n4 n4 fun v6 h7 =>
      len v0 fun n5 =>
      lp k (f12_l1 rec k v0 h0 h2 v6 n5) [(.int .i64 0)] h7 fun e0 _ h11 =>
      onE e0 0 (
        calls rec h11 18 [v0] fun v11 h12 =>
        calls rec h12 23 [v11] fun v12 h13 =>
        ext v12 0 fun v13 =>
        ext v12 1 fun v14 =>
        asI .i64 v14 fun n14 =>
        calls rec h13 52 [v6] fun v15 h14 =>
        calls rec h14 23 [v15] fun v16 h15 =>
        ext v16 0 fun v17 =>
        ext v16 1 fun v18 =>
        asI .i64 v18 fun n15 =>
        calls rec h15 18 [v0] fun v19 h16 =>
        calls rec h16 24 [v19] fun v20 h17 =>
        ext v20 0 fun v21 =>
        asI .i64 v21 fun n16 =>
        ext v20 1 fun v22 =>
        asI .i64 v22 fun n17 =>
        calls rec h17 52 [v6] fun v23 h18 =>
        calls rec h18 24 [v23] fun v24 h19 =>
        ext v24 0 fun v25 =>
        asI .i64 v25 fun n18 =>
        ext v24 1 fun v26 =>
        asI .i64 v26 fun n19 =>
        calls rec h19 18 [v0] fun v27 h20 =>
        calls rec h20 44 [v27] fun v28 h21 =>
        ext v28 0 fun v29 =>
        ext v28 1 fun v30 =>
        asI .i64 v30 fun n20 =>
        calls rec h21 52 [v6] fun v31 h22 =>
        calls rec h22 44 [v31] fun v32 h23 =>
        ext v32 0 fun v33 =>
        ext v32 1 fun v34 =>
        asI .i64 v34 fun n21 =>
        calls rec h23 18 [v0] fun v35 h24 =>
        calls rec h24 17 [v35] fun v36 h25 =>
        ext v36 0 fun v37 =>
        ext v36 1 fun v38 =>
        asI .i64 v38 fun n22 =>
        calls rec h25 52 [v6] fun v39 h26 =>
        calls rec h26 17 [v39] fun v40 h27 =>
        ext v40 0 fun v41 =>
        ext v40 1 fun v42 =>
        asI .i64 v42 fun n23 =>
        ifB (not (eq n14 0)) (
          some ((.bool false), h27)) (
          ifB (not (eq n15 0)) (
            some ((.bool false), h27)) (
            ifB (not (eq n17 0)) (
              some ((.bool false), h27)) (
              ifB (not (eq n19 0)) (
                some ((.bool false), h27)) (
                ifB (not (eq n20 0)) (
                  some ((.bool false), h27)) (
                  ifB (not (eq n21 0)) (
                    some ((.bool false), h27)) (
                    ifB (not (eq n22 0)) (
                      some ((.bool false), h27)) (
                      ifB (not (eq n23 0)) (
                        some ((.bool false), h27)) (
                        calls rec h27 51 [(.int .i64 n16), (pt (nx h0) 0), (pt (nx h2) 0)] fun v43 h28 =>
                        asI .i64 v43 fun n24 =>
                        ifB (not (eq n24 n18)) (
                          some ((.bool false), h28)) (
                          len v13 fun n25 =>
                          len v17 fun n26 =>
                          ifB (not (eq n25 n26)) (
                            some ((.bool false), h28)) (
                            len v29 fun n27 =>
                            len v33 fun n28 =>
                            ifB (not (eq n27 n28)) (
                              some ((.bool false), h28)) (
                              len v37 fun n29 =>
                              len v41 fun n30 =>
                              ifB (not (eq n29 n30)) (
                                some ((.bool false), h28)) (
                                len v13 fun n31 =>
                                lp k (f12_l2 rec k h0 h2 v13 v17 n31) [(.bool false), (.int .i64 0)] h28 fun e1 ws3 h34 =>
                                onE e1 2 (
                                  len v37 fun n35 =>
                                  lp k (f12_l3 rec k h0 h2 v37 v41 n35) [gv ws3 0, (.int .i64 0)] h34 fun e2 ws5 h40 =>
                                  onE e2 4 (
                                    len v29 fun n39 =>
                                    lp k (f12_l4 rec k h0 h2 v29 v33 n39) [gv ws5 0, (.int .i64 0)] h40 fun e3 ws7 h44 =>
                                    onE e3 6 (
                                      calls rec h44 20 [] fun v55 h45 =>
                                      asB v55 fun q5 =>
                                      some ((.bool q5), h45)) (
                                      onR e3 (
                                        some (gv ws7 0, h44)))) (
                                    onR e2 (
                                      some (gv ws5 0, h40)))) (
                                  onR e1 (
                                    some (gv ws3 0, h34)))))))))))))))) (
        none)))

theorem e12 (rec : Rec) (k : Nat) (v0 : Value) (n0 : Int) (h : H) : bodyT Tryd.prog E0 SC (XC Tryd.prog rec k) 12 (Value × H) [.opq v0, .int .i64 n0] h (fun v h => some (v, h)) = f12 rec k v0 n0 h := by kernel_rfl
theorem t12 {k : Nat} {v0 : Value} {n0 : Int} {h h1 : H} {v : Value} (hh : f12 rn k v0 n0 h = some (v, h1)) : rn 12 #[v0, .int .i64 n0] h = some (v, trunc Tryd.prog h h1 v) :=
  run_of_bodyT (args := [.opq v0, .int .i64 n0]) rfl ((e12 _ _ _ _ _).trans hh)
theorem p12 {k : Nat} {v0 : Value} {n0 : Int} {h h1 : H} {v : Value} (hh : f12 rn k v0 n0 h = some (v, h1)) (hp : plainO v = true) (x : Ext h h1) : rn 12 #[v0, .int .i64 n0] h = some (v, h) := by rw [t12 hh, trunc_pure hp x]
theorem x12 {k : Nat} {v0 : Value} {n0 : Int} {h h1 : H} {v : Value} (hh : f12 rn k v0 n0 h = some (v, h1)) (hp : plainO v = false) : ∃ h2, rn 12 #[v0, .int .i64 n0] h = some (v, h2) ∧ Sm h1 h2 ∧ (Ext h h1 → Exw h h2) := trunc_cell hp (t12 hh)
theorem y12 {k : Nat} {v0 : Value} {n0 : Int} {h : H} {v : Value} (hh : f12 rn k v0 n0 h = some (v, h)) : rn 12 #[v0, .int .i64 n0] h = some (v, h) := by rw [t12 hh, trunc_self]

noncomputable def f48_l1 (rec : Rec) (_k : Nat) (v0 : Value) (ws0 : List Value) (h1 : H) : Option (Ex × List Value × H) :=
  asI .i64 (gv ws0 1) fun n1 =>
  ifB (lt 0 n1) (
    asK (gv ws0 1) fun n2 =>
    six v0 n2 1 fun b0 b1 =>
    ld Tryd.prog h1 3 b0 b1 fun v1 =>
    asI .i64 v1 fun n3 =>
    asI .i64 (gv ws0 1) fun n4 =>
    six v0 (sub .i64 n4 1) 1 fun b2 b3 =>
    ld Tryd.prog h1 3 b2 b3 fun v2 =>
    asI .i64 v2 fun n5 =>
    calls rec h1 94 [(.int .i64 n3), (.int .i64 n5)] fun v3 h2 =>
    asB v3 fun q0 =>
    ifB q0 (
      out .ret [(.bool false), gv ws0 1] h2) (
      asI .i64 (gv ws0 1) fun n6 =>
      out .normal [gv ws0 0, (.int .i64 (sub .i64 n6 1))] h2)) (
    out (.exit 0) [gv ws0 0, gv ws0 1] h1)

noncomputable def f48 (rec : Rec) (k : Nat) (v0 : Value) (h0 : H) : Option (Value × H) :=
  len v0 fun n0 =>
  lp k (f48_l1 rec k v0) [(.bool false), (.int .i64 (sub .i64 n0 1))] h0 fun e0 ws1 h3 =>
  onE e0 0 (
    some ((.bool true), h3)) (
    onR e0 (
      some (gv ws1 0, h3)))

theorem e48 (rec : Rec) (k : Nat) (v0 : Value) (h : H) : bodyT Tryd.prog E0 SC (XC Tryd.prog rec k) 48 (Value × H) [.opq v0] h (fun v h => some (v, h)) = f48 rec k v0 h := by kernel_rfl
theorem t48 {k : Nat} {v0 : Value} {h h1 : H} {v : Value} (hh : f48 rn k v0 h = some (v, h1)) : rn 48 #[v0] h = some (v, trunc Tryd.prog h h1 v) :=
  run_of_bodyT (args := [.opq v0]) rfl ((e48 _ _ _ _).trans hh)
theorem p48 {k : Nat} {v0 : Value} {h h1 : H} {v : Value} (hh : f48 rn k v0 h = some (v, h1)) (hp : plainO v = true) (x : Ext h h1) : rn 48 #[v0] h = some (v, h) := by rw [t48 hh, trunc_pure hp x]
theorem x48 {k : Nat} {v0 : Value} {h h1 : H} {v : Value} (hh : f48 rn k v0 h = some (v, h1)) (hp : plainO v = false) : ∃ h2, rn 48 #[v0] h = some (v, h2) ∧ Sm h1 h2 ∧ (Ext h h1 → Exw h h2) := trunc_cell hp (t48 hh)
theorem y48 {k : Nat} {v0 : Value} {h : H} {v : Value} (hh : f48 rn k v0 h = some (v, h)) : rn 48 #[v0] h = some (v, h) := by rw [t48 hh, trunc_self]

noncomputable def f49 (rec : Rec) (_k : Nat) (v0 : Value) (n0 : Int) (h0 : H) : Option (Value × H) :=
  calls rec h0 95 [v0, (.int .i64 n0)] fun v1 h1 =>
  asI .i64 v1 fun n1 =>
  some ((.bool (le 0 n1)), h1)

theorem e49 (rec : Rec) (k : Nat) (v0 : Value) (n0 : Int) (h : H) : bodyT Tryd.prog E0 SC (XC Tryd.prog rec k) 49 (Value × H) [.opq v0, .int .i64 n0] h (fun v h => some (v, h)) = f49 rec k v0 n0 h := by kernel_rfl
theorem t49 {k : Nat} {v0 : Value} {n0 : Int} {h h1 : H} {v : Value} (hh : f49 rn k v0 n0 h = some (v, h1)) : rn 49 #[v0, .int .i64 n0] h = some (v, trunc Tryd.prog h h1 v) :=
  run_of_bodyT (args := [.opq v0, .int .i64 n0]) rfl ((e49 _ _ _ _ _).trans hh)
theorem p49 {k : Nat} {v0 : Value} {n0 : Int} {h h1 : H} {v : Value} (hh : f49 rn k v0 n0 h = some (v, h1)) (hp : plainO v = true) (x : Ext h h1) : rn 49 #[v0, .int .i64 n0] h = some (v, h) := by rw [t49 hh, trunc_pure hp x]
theorem x49 {k : Nat} {v0 : Value} {n0 : Int} {h h1 : H} {v : Value} (hh : f49 rn k v0 n0 h = some (v, h1)) (hp : plainO v = false) : ∃ h2, rn 49 #[v0, .int .i64 n0] h = some (v, h2) ∧ Sm h1 h2 ∧ (Ext h h1 → Exw h h2) := trunc_cell hp (t49 hh)
theorem y49 {k : Nat} {v0 : Value} {n0 : Int} {h : H} {v : Value} (hh : f49 rn k v0 n0 h = some (v, h)) : rn 49 #[v0, .int .i64 n0] h = some (v, h) := by rw [t49 hh, trunc_self]

noncomputable def f50 (rec : Rec) (_k : Nat) (v0 : Value) (v1 : Value) (h0 : H) : Option (Value × H) :=
  bx h0 32 v1 fun h1 =>
  ld Tryd.prog h1 32 (nx h0) 0 fun v2 =>
  calls rec h1 96 [v0, v2] fun v3 h2 =>
  asI .i64 v3 fun n0 =>
  some ((.bool (le 0 n0)), h2)

theorem e50 (rec : Rec) (k : Nat) (v0 : Value) (v1 : Value) (h : H) : bodyT Tryd.prog E0 SC (XC Tryd.prog rec k) 50 (Value × H) [.opq v0, .opq v1] h (fun v h => some (v, h)) = f50 rec k v0 v1 h := by kernel_rfl
theorem t50 {k : Nat} {v0 : Value} {v1 : Value} {h h1 : H} {v : Value} (hh : f50 rn k v0 v1 h = some (v, h1)) : rn 50 #[v0, v1] h = some (v, trunc Tryd.prog h h1 v) :=
  run_of_bodyT (args := [.opq v0, .opq v1]) rfl ((e50 _ _ _ _ _).trans hh)
theorem p50 {k : Nat} {v0 : Value} {v1 : Value} {h h1 : H} {v : Value} (hh : f50 rn k v0 v1 h = some (v, h1)) (hp : plainO v = true) (x : Ext h h1) : rn 50 #[v0, v1] h = some (v, h) := by rw [t50 hh, trunc_pure hp x]
theorem x50 {k : Nat} {v0 : Value} {v1 : Value} {h h1 : H} {v : Value} (hh : f50 rn k v0 v1 h = some (v, h1)) (hp : plainO v = false) : ∃ h2, rn 50 #[v0, v1] h = some (v, h2) ∧ Sm h1 h2 ∧ (Ext h h1 → Exw h h2) := trunc_cell hp (t50 hh)
theorem y50 {k : Nat} {v0 : Value} {v1 : Value} {h : H} {v : Value} (hh : f50 rn k v0 v1 h = some (v, h)) : rn 50 #[v0, v1] h = some (v, h) := by rw [t50 hh, trunc_self]

noncomputable def f51 (_rec : Rec) (_k : Nat) (n0 : Int) (v0 : Value) (v1 : Value) (h0 : H) : Option (Value × H) :=
  asP v0 fun _ _ =>
  asP v0 fun b2 b3 =>
  ld Tryd.prog h0 3 b2 b3 fun v2 =>
  asI .i64 v2 fun n1 =>
  nn n1 (
    asP v1 fun _ _ =>
    asP v1 fun b6 b7 =>
    ld Tryd.prog h0 3 b6 b7 fun v3 =>
    asI .i64 v3 fun n2 =>
    asP v0 fun _ _ =>
    asP v0 fun b10 b11 =>
    ld Tryd.prog h0 3 b10 b11 fun v4 =>
    asI .i64 v4 fun n3 =>
    nn (sub .i64 n2 n3) (
      asP v1 fun _ _ =>
      asP v1 fun b14 b15 =>
      ld Tryd.prog h0 3 b14 b15 fun v5 =>
      asI .i64 v5 fun n4 =>
      nn n4 (
        some ((.int .i64 (and .i64 (or .i64 (shl .i64 n0 n1) (shr .i64 n0 (sub .i64 n2 n3))) (sub .i64 (shl .i64 1 n4) 1))), h0))))

theorem e51 (rec : Rec) (k : Nat) (n0 : Int) (v0 : Value) (v1 : Value) (h : H) : bodyT Tryd.prog E0 SC (XC Tryd.prog rec k) 51 (Value × H) [.int .i64 n0, .opq v0, .opq v1] h (fun v h => some (v, h)) = f51 rec k n0 v0 v1 h := by kernel_rfl
theorem t51 {k : Nat} {n0 : Int} {v0 : Value} {v1 : Value} {h h1 : H} {v : Value} (hh : f51 rn k n0 v0 v1 h = some (v, h1)) : rn 51 #[.int .i64 n0, v0, v1] h = some (v, trunc Tryd.prog h h1 v) :=
  run_of_bodyT (args := [.int .i64 n0, .opq v0, .opq v1]) rfl ((e51 _ _ _ _ _ _).trans hh)
theorem p51 {k : Nat} {n0 : Int} {v0 : Value} {v1 : Value} {h h1 : H} {v : Value} (hh : f51 rn k n0 v0 v1 h = some (v, h1)) (hp : plainO v = true) (x : Ext h h1) : rn 51 #[.int .i64 n0, v0, v1] h = some (v, h) := by rw [t51 hh, trunc_pure hp x]
theorem x51 {k : Nat} {n0 : Int} {v0 : Value} {v1 : Value} {h h1 : H} {v : Value} (hh : f51 rn k n0 v0 v1 h = some (v, h1)) (hp : plainO v = false) : ∃ h2, rn 51 #[.int .i64 n0, v0, v1] h = some (v, h2) ∧ Sm h1 h2 ∧ (Ext h h1 → Exw h h2) := trunc_cell hp (t51 hh)
theorem y51 {k : Nat} {n0 : Int} {v0 : Value} {v1 : Value} {h : H} {v : Value} (hh : f51 rn k n0 v0 v1 h = some (v, h)) : rn 51 #[.int .i64 n0, v0, v1] h = some (v, h) := by rw [t51 hh, trunc_self]

noncomputable def f53 (_rec : Rec) (_k : Nat) (v0 : Value) (v1 : Value) (v2 : Value) (h0 : H) : Option (Value × H) :=
  bx h0 32 v0 fun h1 =>
  al h1 32 [(.int .i64 0), (.int .i64 0)] fun h2 =>
  aix 2 0 (
    ld Tryd.prog h2 3 (nx h0) (at_ 0 0 1) fun v3 =>
    asI .i64 v3 fun n0 =>
    asP v1 fun _ _ =>
    asP v1 fun b2 b3 =>
    ld Tryd.prog h2 3 b2 b3 fun v4 =>
    asI .i64 v4 fun n1 =>
    asP v2 fun _ _ =>
    asP v2 fun b6 b7 =>
    ld Tryd.prog h2 3 b6 b7 fun v5 =>
    asI .i64 v5 fun n2 =>
    nz n2 (
      aix 2 1 (
        ld Tryd.prog h2 3 (nx h0) (at_ 0 1 1) fun v6 =>
        asI .i64 v6 fun n3 =>
        asP v1 fun _ _ =>
        asP v1 fun b10 b11 =>
        ld Tryd.prog h2 3 b10 b11 fun v7 =>
        asI .i64 v7 fun n4 =>
        asP v2 fun _ _ =>
        asP v2 fun b14 b15 =>
        ld Tryd.prog h2 3 b14 b15 fun v8 =>
        asI .i64 v8 fun n5 =>
        nz n5 (
          bld Tryd.prog 32 [(0, (.int .i64 (imin (rem .i64 (add .i64 n0 n1) n2) (rem .i64 (add .i64 n3 n4) n5)))), (1, (.int .i64 (imax (rem .i64 (add .i64 n0 n1) n2) (rem .i64 (add .i64 n3 n4) n5))))] fun v9 =>
          st Tryd.prog h2 32 (nx h1) 0 v9 fun h3 =>
          ld Tryd.prog h3 32 (nx h1) 0 fun v10 =>
          some (v10, h3)))))

theorem e53 (rec : Rec) (k : Nat) (v0 : Value) (v1 : Value) (v2 : Value) (h : H) : bodyT Tryd.prog E0 SC (XC Tryd.prog rec k) 53 (Value × H) [.opq v0, .opq v1, .opq v2] h (fun v h => some (v, h)) = f53 rec k v0 v1 v2 h := by kernel_rfl
theorem t53 {k : Nat} {v0 : Value} {v1 : Value} {v2 : Value} {h h1 : H} {v : Value} (hh : f53 rn k v0 v1 v2 h = some (v, h1)) : rn 53 #[v0, v1, v2] h = some (v, trunc Tryd.prog h h1 v) :=
  run_of_bodyT (args := [.opq v0, .opq v1, .opq v2]) rfl ((e53 _ _ _ _ _ _).trans hh)
theorem p53 {k : Nat} {v0 : Value} {v1 : Value} {v2 : Value} {h h1 : H} {v : Value} (hh : f53 rn k v0 v1 v2 h = some (v, h1)) (hp : plainO v = true) (x : Ext h h1) : rn 53 #[v0, v1, v2] h = some (v, h) := by rw [t53 hh, trunc_pure hp x]
theorem x53 {k : Nat} {v0 : Value} {v1 : Value} {v2 : Value} {h h1 : H} {v : Value} (hh : f53 rn k v0 v1 v2 h = some (v, h1)) (hp : plainO v = false) : ∃ h2, rn 53 #[v0, v1, v2] h = some (v, h2) ∧ Sm h1 h2 ∧ (Ext h h1 → Exw h h2) := trunc_cell hp (t53 hh)
theorem y53 {k : Nat} {v0 : Value} {v1 : Value} {v2 : Value} {h : H} {v : Value} (hh : f53 rn k v0 v1 v2 h = some (v, h)) : rn 53 #[v0, v1, v2] h = some (v, h) := by rw [t53 hh, trunc_self]

noncomputable def f94 (rec : Rec) (_k : Nat) (n0 : Int) (n1 : Int) (h0 : H) : Option (Value × H) :=
  calls rec h0 110 [(.int .i64 n0)] fun v0 h1 =>
  asB v0 fun q0 =>
  ifB q0 (
    calls rec h1 110 [(.int .i64 n1)] fun v1 h2 =>
    asB v1 fun q1 =>
    ifB (not q1) (
      some ((.bool true), h2)) (
      some ((.bool (lt n0 n1)), h2))) (
    some ((.bool (lt n0 n1)), h1))

theorem e94 (rec : Rec) (k : Nat) (n0 : Int) (n1 : Int) (h : H) : bodyT Tryd.prog E0 SC (XC Tryd.prog rec k) 94 (Value × H) [.int .i64 n0, .int .i64 n1] h (fun v h => some (v, h)) = f94 rec k n0 n1 h := by kernel_rfl
theorem t94 {k : Nat} {n0 : Int} {n1 : Int} {h h1 : H} {v : Value} (hh : f94 rn k n0 n1 h = some (v, h1)) : rn 94 #[.int .i64 n0, .int .i64 n1] h = some (v, trunc Tryd.prog h h1 v) :=
  run_of_bodyT (args := [.int .i64 n0, .int .i64 n1]) rfl ((e94 _ _ _ _ _).trans hh)
theorem p94 {k : Nat} {n0 : Int} {n1 : Int} {h h1 : H} {v : Value} (hh : f94 rn k n0 n1 h = some (v, h1)) (hp : plainO v = true) (x : Ext h h1) : rn 94 #[.int .i64 n0, .int .i64 n1] h = some (v, h) := by rw [t94 hh, trunc_pure hp x]
theorem x94 {k : Nat} {n0 : Int} {n1 : Int} {h h1 : H} {v : Value} (hh : f94 rn k n0 n1 h = some (v, h1)) (hp : plainO v = false) : ∃ h2, rn 94 #[.int .i64 n0, .int .i64 n1] h = some (v, h2) ∧ Sm h1 h2 ∧ (Ext h h1 → Exw h h2) := trunc_cell hp (t94 hh)
theorem y94 {k : Nat} {n0 : Int} {n1 : Int} {h : H} {v : Value} (hh : f94 rn k n0 n1 h = some (v, h)) : rn 94 #[.int .i64 n0, .int .i64 n1] h = some (v, h) := by rw [t94 hh, trunc_self]

noncomputable def f95_l1 (_rec : Rec) (_k : Nat) (v0 : Value) (n0 : Int) (n1 : Int) (ws0 : List Value) (h1 : H) : Option (Ex × List Value × H) :=
  asI .i64 (gv ws0 1) fun n2 =>
  ifB (lt n2 n1) (
    asK (gv ws0 1) fun n3 =>
    six v0 n3 1 fun b0 b1 =>
    ld Tryd.prog h1 3 b0 b1 fun v1 =>
    asI .i64 v1 fun n4 =>
    ifB (eq n0 n4) (
      out .ret [gv ws0 1, gv ws0 1] h1) (
      asI .i64 (gv ws0 1) fun n5 =>
      out .normal [gv ws0 0, (.int .i64 (add .i64 n5 1))] h1)) (
    out (.exit 0) [gv ws0 0, gv ws0 1] h1)

noncomputable def f95 (rec : Rec) (k : Nat) (v0 : Value) (n0 : Int) (h0 : H) : Option (Value × H) :=
  len v0 fun n1 =>
  lp k (f95_l1 rec k v0 n0 n1) [(.int .i64 0), (.int .i64 0)] h0 fun e0 ws1 h2 =>
  onE e0 0 (
    some ((.int .i64 (-1)), h2)) (
    onR e0 (
      some (gv ws1 0, h2)))

theorem e95 (rec : Rec) (k : Nat) (v0 : Value) (n0 : Int) (h : H) : bodyT Tryd.prog E0 SC (XC Tryd.prog rec k) 95 (Value × H) [.opq v0, .int .i64 n0] h (fun v h => some (v, h)) = f95 rec k v0 n0 h := by kernel_rfl
theorem t95 {k : Nat} {v0 : Value} {n0 : Int} {h h1 : H} {v : Value} (hh : f95 rn k v0 n0 h = some (v, h1)) : rn 95 #[v0, .int .i64 n0] h = some (v, trunc Tryd.prog h h1 v) :=
  run_of_bodyT (args := [.opq v0, .int .i64 n0]) rfl ((e95 _ _ _ _ _).trans hh)
theorem p95 {k : Nat} {v0 : Value} {n0 : Int} {h h1 : H} {v : Value} (hh : f95 rn k v0 n0 h = some (v, h1)) (hp : plainO v = true) (x : Ext h h1) : rn 95 #[v0, .int .i64 n0] h = some (v, h) := by rw [t95 hh, trunc_pure hp x]
theorem x95 {k : Nat} {v0 : Value} {n0 : Int} {h h1 : H} {v : Value} (hh : f95 rn k v0 n0 h = some (v, h1)) (hp : plainO v = false) : ∃ h2, rn 95 #[v0, .int .i64 n0] h = some (v, h2) ∧ Sm h1 h2 ∧ (Ext h h1 → Exw h h2) := trunc_cell hp (t95 hh)
theorem y95 {k : Nat} {v0 : Value} {n0 : Int} {h : H} {v : Value} (hh : f95 rn k v0 n0 h = some (v, h)) : rn 95 #[v0, .int .i64 n0] h = some (v, h) := by rw [t95 hh, trunc_self]

noncomputable def f96_l1 (_rec : Rec) (_k : Nat) (v0 : Value) (h0 : H) (n0 : Int) (ws0 : List Value) (h2 : H) : Option (Ex × List Value × H) :=
  asI .i64 (gv ws0 1) fun n1 =>
  ifB (lt n1 n0) (
    ld Tryd.prog h2 32 (nx h0) 0 fun v2 =>
    asK (gv ws0 1) fun n2 =>
    six v0 n2 2 fun b0 b1 =>
    ld Tryd.prog h2 32 b0 b1 fun v3 =>
    eqv Tryd.prog 32 v2 v3 fun q0 =>
    ifB q0 (
      out .ret [gv ws0 1, gv ws0 1] h2) (
      asI .i64 (gv ws0 1) fun n3 =>
      out .normal [gv ws0 0, (.int .i64 (add .i64 n3 1))] h2)) (
    out (.exit 0) [gv ws0 0, gv ws0 1] h2)

noncomputable def f96 (rec : Rec) (k : Nat) (v0 : Value) (v1 : Value) (h0 : H) : Option (Value × H) :=
  bx h0 32 v1 fun h1 =>
  len v0 fun n0 =>
  lp k (f96_l1 rec k v0 h0 n0) [(.int .i64 0), (.int .i64 0)] h1 fun e0 ws1 h3 =>
  onE e0 0 (
    some ((.int .i64 (-1)), h3)) (
    onR e0 (
      some (gv ws1 0, h3)))

theorem e96 (rec : Rec) (k : Nat) (v0 : Value) (v1 : Value) (h : H) : bodyT Tryd.prog E0 SC (XC Tryd.prog rec k) 96 (Value × H) [.opq v0, .opq v1] h (fun v h => some (v, h)) = f96 rec k v0 v1 h := by kernel_rfl
theorem t96 {k : Nat} {v0 : Value} {v1 : Value} {h h1 : H} {v : Value} (hh : f96 rn k v0 v1 h = some (v, h1)) : rn 96 #[v0, v1] h = some (v, trunc Tryd.prog h h1 v) :=
  run_of_bodyT (args := [.opq v0, .opq v1]) rfl ((e96 _ _ _ _ _).trans hh)
theorem p96 {k : Nat} {v0 : Value} {v1 : Value} {h h1 : H} {v : Value} (hh : f96 rn k v0 v1 h = some (v, h1)) (hp : plainO v = true) (x : Ext h h1) : rn 96 #[v0, v1] h = some (v, h) := by rw [t96 hh, trunc_pure hp x]
theorem x96 {k : Nat} {v0 : Value} {v1 : Value} {h h1 : H} {v : Value} (hh : f96 rn k v0 v1 h = some (v, h1)) (hp : plainO v = false) : ∃ h2, rn 96 #[v0, v1] h = some (v, h2) ∧ Sm h1 h2 ∧ (Ext h h1 → Exw h h2) := trunc_cell hp (t96 hh)
theorem y96 {k : Nat} {v0 : Value} {v1 : Value} {h : H} {v : Value} (hh : f96 rn k v0 v1 h = some (v, h)) : rn 96 #[v0, v1] h = some (v, h) := by rw [t96 hh, trunc_self]

noncomputable def f110 (_rec : Rec) (_k : Nat) (n0 : Int) (h0 : H) : Option (Value × H) :=
  some ((.bool (not (eq n0 n0))), h0)

theorem e110 (rec : Rec) (k : Nat) (n0 : Int) (h : H) : bodyT Tryd.prog E0 SC (XC Tryd.prog rec k) 110 (Value × H) [.int .i64 n0] h (fun v h => some (v, h)) = f110 rec k n0 h := by kernel_rfl
theorem t110 {k : Nat} {n0 : Int} {h h1 : H} {v : Value} (hh : f110 rn k n0 h = some (v, h1)) : rn 110 #[.int .i64 n0] h = some (v, trunc Tryd.prog h h1 v) :=
  run_of_bodyT (args := [.int .i64 n0]) rfl ((e110 _ _ _ _).trans hh)
theorem p110 {k : Nat} {n0 : Int} {h h1 : H} {v : Value} (hh : f110 rn k n0 h = some (v, h1)) (hp : plainO v = true) (x : Ext h h1) : rn 110 #[.int .i64 n0] h = some (v, h) := by rw [t110 hh, trunc_pure hp x]
theorem x110 {k : Nat} {n0 : Int} {h h1 : H} {v : Value} (hh : f110 rn k n0 h = some (v, h1)) (hp : plainO v = false) : ∃ h2, rn 110 #[.int .i64 n0] h = some (v, h2) ∧ Sm h1 h2 ∧ (Ext h h1 → Exw h h2) := trunc_cell hp (t110 hh)
theorem y110 {k : Nat} {n0 : Int} {h : H} {v : Value} (hh : f110 rn k n0 h = some (v, h)) : rn 110 #[.int .i64 n0] h = some (v, h) := by rw [t110 hh, trunc_self]

end Go.AM
