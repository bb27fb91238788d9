/- The staged forms of functions 7, 34, 35, 36, 37, 38, 39, 41, 81, 82, 84, and what calls of these answer. -/
import Derived.Test.YtakhklelgcfgjaaDoorSx
namespace Go.AM
open Go.Proofs

noncomputable def f7 (rec : Rec) (_k : Nat) (v0 : Value) (n0 : Int) (n1 : Int) (v1 : Value) (h0 : H) : Option (Value × H) :=
  calls rec h0 18 [v0] fun v2 h1 =>
  calls rec h1 34 [v2, (.int .i64 n0), (.int .i64 n1)] fun v3 h2 =>
  ext v3 0 fun v4 =>
  ext v3 1 fun v5 =>
  asI .i64 v5 fun n2 =>
  calls rec h2 18 [v0] fun v6 h3 =>
  calls rec h3 36 [v1] fun v7 h4 =>
  calls rec h4 35 [v6, v7] fun v8 h5 =>
  ext v8 0 fun v9 =>
  asB v9 fun q0 =>
  ext v8 1 fun v10 =>
  asI .i64 v10 fun n3 =>
  calls rec h5 19 [v0] fun v11 h6 =>
  asB v11 fun q1 =>
  ifB (not q1) (
    len v4 fun n4 =>
    ifB (eq n4 0) (
      ifB (not q0) (
        ifB (eq n2 2) (
          ifB (eq n3 2) (
            calls rec h6 20 [] fun v12 h7 =>
            asB v12 fun q2 =>
            some ((.bool q2), h7)) (
            some ((.bool false), h6))) (
          some ((.bool false), h6))) (
        some ((.bool false), h6))) (
      some ((.bool false), h6))) (
    calls rec h6 37 [v0, v1] fun v13 h8 =>
    asB v13 fun q3 =>
    eqv Tryd.prog 4 (.bool q0) (.bool q3) fun q4 =>
    ifB (not q4) (
      some ((.bool false), h8)) (
      ifB (not (eq n3 0)) (
        some ((.bool false), h8)) (
        calls rec h8 20 [] fun v14 h9 =>
        asB v14 fun q5 =>
        ifB (not q5) (
          some ((.bool false), h9)) (
          calls rec h9 38 [v0, (.int .i64 n0)] fun v15 h10 =>
          asB v15 fun q6 =>
          ifB (not q6) (
            len v4 fun n5 =>
            ifB (eq n5 0) (
              some ((.bool (eq n2 2)), h10)) (
              some ((.bool false), h10))) (
            calls rec h10 38 [v0, (.int .i64 n1)] fun v16 h11 =>
            asB v16 fun q7 =>
            ifB (not q7) (
              len v4 fun n6 =>
              ifB (eq n6 0) (
                some ((.bool (eq n2 2)), h11)) (
                some ((.bool false), h11))) (
              six v0 n0 1 fun b0 b1 =>
              ld Tryd.prog h11 3 b0 b1 fun v17 =>
              asI .i64 v17 fun n7 =>
              nn n1 (
                ifB (eq (and .i64 (shr .i64 n7 n1) 1) 0) (
                  len v4 fun n8 =>
                  ifB (eq n8 0) (
                    some ((.bool (eq n2 2)), h11)) (
                    some ((.bool false), h11))) (
                  calls rec h11 39 [v0] fun v18 h12 =>
                  asB v18 fun q8 =>
                  ifB (not q8) (
                    len v4 fun n9 =>
                    ifB (eq n9 0) (
                      some ((.bool (eq n2 5)), h12)) (
                      some ((.bool false), h12))) (
                    calls rec h12 41 [v0, (.int .i64 n0), (.int .i64 n1)] fun v19 h13 =>
                    calls rec h13 40 [v4, v19] fun v20 h14 =>
                    asB v20 fun q9 =>
                    ifB q9 (
                      some ((.bool (eq n2 0)), h14)) (
                      some ((.bool false), h14)))))))))))

theorem e7 (rec : Rec) (k : Nat) (v0 : Value) (n0 : Int) (n1 : Int) (v1 : Value) (h : H) : bodyT Tryd.prog E0 SC (XC Tryd.prog rec k) 7 (Value × H) [.opq v0, .int .i64 n0, .int .i64 n1, .opq v1] h (fun v h => some (v, h)) = f7 rec k v0 n0 n1 v1 h := by kernel_rfl
theorem t7 {k : Nat} {v0 : Value} {n0 : Int} {n1 : Int} {v1 : Value} {h h1 : H} {v : Value} (hh : f7 rn k v0 n0 n1 v1 h = some (v, h1)) : rn 7 #[v0, .int .i64 n0, .int .i64 n1, v1] h = some (v, trunc Tryd.prog h h1 v) :=
  run_of_bodyT (args := [.opq v0, .int .i64 n0, .int .i64 n1, .opq v1]) rfl ((e7 _ _ _ _ _ _ _).trans hh)
theorem p7 {k : Nat} {v0 : Value} {n0 : Int} {n1 : Int} {v1 : Value} {h h1 : H} {v : Value} (hh : f7 rn k v0 n0 n1 v1 h = some (v, h1)) (hp : plainO v = true) (x : Ext h h1) : rn 7 #[v0, .int .i64 n0, .int .i64 n1, v1] h = some (v, h) := by rw [t7 hh, trunc_pure hp x]
theorem x7 {k : Nat} {v0 : Value} {n0 : Int} {n1 : Int} {v1 : Value} {h h1 : H} {v : Value} (hh : f7 rn k v0 n0 n1 v1 h = some (v, h1)) (hp : plainO v = false) : ∃ h2, rn 7 #[v0, .int .i64 n0, .int .i64 n1, v1] h = some (v, h2) ∧ Sm h1 h2 ∧ (Ext h h1 → Exw h h2) := trunc_cell hp (t7 hh)
theorem y7 {k : Nat} {v0 : Value} {n0 : Int} {n1 : Int} {v1 : Value} {h : H} {v : Value} (hh : f7 rn k v0 n0 n1 v1 h = some (v, h)) : rn 7 #[v0, .int .i64 n0, .int .i64 n1, v1] h = some (v, h) := by rw [t7 hh, trunc_self]

noncomputable def f34 (rec : Rec) (_k : Nat) (v0 : Value) (n0 : Int) (n1 : Int) (h0 : H) : Option (Value × H) :=
  calls rec h0 63 [v0] fun v1 h1 =>
  ext v1 0 fun v2 =>
  ext v1 1 fun v3 =>
  asB v3 fun q0 =>
  ifB (not q0) (
    some ((.tuple #[(.slice none 0 0), (.int .i64 2)]), h1)) (
    calls rec h1 79 [v2, (.int .i64 n0)] fun v4 h2 =>
    asB v4 fun q1 =>
    ifB (not q1) (
      some ((.tuple #[(.slice none 0 0), (.int .i64 2)]), h2)) (
      calls rec h2 79 [v2, (.int .i64 n1)] fun v5 h3 =>
      asB v5 fun q2 =>
      ifB (not q2) (
        some ((.tuple #[(.slice none 0 0), (.int .i64 2)]), h3)) (
        calls rec h3 80 [v2, (.int .i64 n0), (.int .i64 n1)] fun v6 h4 =>
        asB v6 fun q3 =>
        ifB (not q3) (
          some ((.tuple #[(.slice none 0 0), (.int .i64 2)]), h4)) (
          calls rec h4 81 [v2] fun v7 h5 =>
          asB v7 fun q4 =>
          ifB (not q4) (
            some ((.tuple #[(.slice none 0 0), (.int .i64 5)]), h5)) (
            mkm h5 fun h6 =>
            bld Tryd.prog 99 [(0, v2), (1, (.int .i64 n1)), (2, (.map (some (nx h5))))] fun v8 =>
            bx h6 99 v8 fun h7 =>
            bls Tryd.prog h7 22 1 [(0, (.int .i64 n0))] fun v9 h8 =>
            nn n0 (
              calls rec h8 82 [(pt (nx h6) 0), v9, (.int .i64 (shl .i64 1 n0))] fun v10 h9 =>
              some ((.tuple #[v10, (.int .i64 0)]), h9)))))))

theorem e34 (rec : Rec) (k : Nat) (v0 : Value) (n0 : Int) (n1 : Int) (h : H) : bodyT Tryd.prog E0 SC (XC Tryd.prog rec k) 34 (Value × H) [.opq v0, .int .i64 n0, .int .i64 n1] h (fun v h => some (v, h)) = f34 rec k v0 n0 n1 h := by kernel_rfl
theorem t34 {k : Nat} {v0 : Value} {n0 : Int} {n1 : Int} {h h1 : H} {v : Value} (hh : f34 rn k v0 n0 n1 h = some (v, h1)) : rn 34 #[v0, .int .i64 n0, .int .i64 n1] h = some (v, trunc Tryd.prog h h1 v) :=
  run_of_bodyT (args := [.opq v0, .int .i64 n0, .int .i64 n1]) rfl ((e34 _ _ _ _ _ _).trans hh)
theorem p34 {k : Nat} {v0 : Value} {n0 : Int} {n1 : Int} {h h1 : H} {v : Value} (hh : f34 rn k v0 n0 n1 h = some (v, h1)) (hp : plainO v = true) (x : Ext h h1) : rn 34 #[v0, .int .i64 n0, .int .i64 n1] h = some (v, h) := by rw [t34 hh, trunc_pure hp x]
theorem x34 {k : Nat} {v0 : Value} {n0 : Int} {n1 : Int} {h h1 : H} {v : Value} (hh : f34 rn k v0 n0 n1 h = some (v, h1)) (hp : plainO v = false) : ∃ h2, rn 34 #[v0, .int .i64 n0, .int .i64 n1] h = some (v, h2) ∧ Sm h1 h2 ∧ (Ext h h1 → Exw h h2) := trunc_cell hp (t34 hh)
theorem y34 {k : Nat} {v0 : Value} {n0 : Int} {n1 : Int} {h : H} {v : Value} (hh : f34 rn k v0 n0 n1 h = some (v, h)) : rn 34 #[v0, .int .i64 n0, .int .i64 n1] h = some (v, h) := by rw [t34 hh, trunc_self]

noncomputable def f35_l1 (rec : Rec) (_k : Nat) (v1 : Value) (v3 : Value) (n0 : Int) (ws0 : List Value) (h2 : H) : Option (Ex × List Value × H) :=
  asI .i64 (gv ws0 3) fun n1 =>
  ifB (lt n1 n0) (
    asK (gv ws0 3) fun n2 =>
    six v1 n2 1 fun b0 b1 =>
    ld Tryd.prog h2 3 b0 b1 fun v5 =>
    asI .i64 v5 fun n3 =>
    calls rec h2 79 [v3, (.int .i64 n3)] fun v6 h3 =>
    asB v6 fun q1 =>
    ifB (not q1) (
      out .ret [(.bool false), (.int .i64 0), gv ws0 2, gv ws0 3] h3) (
      nn n3 (
        asI .i64 (gv ws0 2) fun n4 =>
        asI .i64 (gv ws0 3) fun n5 =>
        out .normal [gv ws0 0, gv ws0 1, (.int .i64 (or .i64 n4 (shl .i64 1 n3))), (.int .i64 (add .i64 n5 1))] h3))) (
    out (.exit 0) [gv ws0 0, gv ws0 1, gv ws0 2, gv ws0 3] h2)

noncomputable def f35_l2 (_rec : Rec) (_k : Nat) (v1 : Value) (v3 : Value) (ws1 : List Value) (n14 : Int) (ws2 : List Value) (h7 : H) : Option (Ex × List Value × H) :=
  asI .i64 (gv ws2 3) fun n15 =>
  ifB (lt n15 n14) (
    asK (gv ws2 3) fun n16 =>
    six v1 n16 1 fun b6 b7 =>
    ld Tryd.prog h7 3 b6 b7 fun v11 =>
    asI .i64 v11 fun n17 =>
    asI .i64 (gv ws1 2) fun n18 =>
    asI .i64 (gv ws2 2) fun n19 =>
    nn n17 (
      asI .i64 (gv ws2 3) fun n20 =>
      ifB (lt 0 n20) (
        len v1 fun n21 =>
        asI .i64 (gv ws2 3) fun n22 =>
        ifB (lt n22 (sub .i64 n21 1)) (
          six v3 n17 1 fun b8 b9 =>
          ld Tryd.prog h7 3 b8 b9 fun v12 =>
          asI .i64 v12 fun n23 =>
          asI .i64 (gv ws2 2) fun n24 =>
          ifB (eq (and .i64 n23 n24) 0) (
            out .ret [(.bool false), (.int .i64 0), gv ws2 2, gv ws2 3] h7) (
            six v3 n17 1 fun b10 b11 =>
            ld Tryd.prog h7 3 b10 b11 fun v13 =>
            asI .i64 v13 fun n25 =>
            ifB (eq (and .i64 n25 (andNot .i64 (andNot .i64 n18 n19) (shl .i64 1 n17))) 0) (
              out .ret [(.bool false), (.int .i64 0), gv ws2 2, gv ws2 3] h7) (
              nn n17 (
                asI .i64 (gv ws2 2) fun n26 =>
                asI .i64 (gv ws2 3) fun n27 =>
                out .normal [gv ws2 0, gv ws2 1, (.int .i64 (or .i64 n26 (shl .i64 1 n17))), (.int .i64 (add .i64 n27 1))] h7)))) (
          nn n17 (
            asI .i64 (gv ws2 2) fun n28 =>
            asI .i64 (gv ws2 3) fun n29 =>
            out .normal [gv ws2 0, gv ws2 1, (.int .i64 (or .i64 n28 (shl .i64 1 n17))), (.int .i64 (add .i64 n29 1))] h7))) (
        nn n17 (
          asI .i64 (gv ws2 2) fun n30 =>
          asI .i64 (gv ws2 3) fun n31 =>
          out .normal [gv ws2 0, gv ws2 1, (.int .i64 (or .i64 n30 (shl .i64 1 n17))), (.int .i64 (add .i64 n31 1))] h7)))) (
    out (.exit 2) [gv ws2 0, gv ws2 1, gv ws2 2, gv ws2 3] h7)

noncomputable def f35 (rec : Rec) (k : Nat) (v0 : Value) (v1 : Value) (h0 : H) : Option (Value × H) :=
  calls rec h0 63 [v0] fun v2 h1 =>
  ext v2 0 fun v3 =>
  ext v2 1 fun v4 =>
  asB v4 fun q0 =>
  ifB (not q0) (
    some ((.tuple #[(.bool false), (.int .i64 2)]), h1)) (
    len v1 fun n0 =>
    lp k (f35_l1 rec k v1 v3 n0) [(.bool false), (.int .i64 0), (.int .i64 0), (.int .i64 0)] h1 fun e0 ws1 h4 =>
    onE e0 0 (
      len v1 fun n6 =>
      len v3 fun n7 =>
      ifB (not (eq n6 n7)) (
        some ((.tuple #[(.bool false), (.int .i64 0)]), h4)) (
        calls rec h4 65 [v3] fun v7 h5 =>
        asI .i64 v7 fun n8 =>
        asI .i64 (gv ws1 2) fun n9 =>
        ifB (not (eq n9 n8)) (
          some ((.tuple #[(.bool false), (.int .i64 0)]), h5)) (
          len v1 fun n10 =>
          ifB (lt n10 2) (
            some ((.tuple #[(.bool false), (.int .i64 0)]), h5)) (
            six v1 0 1 fun b2 b3 =>
            ld Tryd.prog h5 3 b2 b3 fun v8 =>
            asI .i64 v8 fun n11 =>
            len v1 fun n12 =>
            six v1 (sub .i64 n12 1) 1 fun b4 b5 =>
            ld Tryd.prog h5 3 b4 b5 fun v9 =>
            asI .i64 v9 fun n13 =>
            calls rec h5 80 [v3, (.int .i64 n11), (.int .i64 n13)] fun v10 h6 =>
            asB v10 fun q2 =>
            ifB (not q2) (
              some ((.tuple #[(.bool false), (.int .i64 0)]), h6)) (
              len v1 fun n14 =>
              lp k (f35_l2 rec k v1 v3 ws1 n14) [gv ws1 0, gv ws1 1, (.int .i64 0), (.int .i64 0)] h6 fun e1 ws3 h8 =>
              onE e1 2 (
                some ((.tuple #[(.bool true), (.int .i64 0)]), h8)) (
                onR e1 (
                  some ((.tuple #[gv ws3 0, gv ws3 1]), h8)))))))) (
      onR e0 (
        some ((.tuple #[gv ws1 0, gv ws1 1]), h4))))

theorem e35 (rec : Rec) (k : Nat) (v0 : Value) (v1 : Value) (h : H) : bodyT Tryd.prog E0 SC (XC Tryd.prog rec k) 35 (Value × H) [.opq v0, .opq v1] h (fun v h => some (v, h)) = f35 rec k v0 v1 h := by kernel_rfl
theorem t35 {k : Nat} {v0 : Value} {v1 : Value} {h h1 : H} {v : Value} (hh : f35 rn k v0 v1 h = some (v, h1)) : rn 35 #[v0, v1] h = some (v, trunc Tryd.prog h h1 v) :=
  run_of_bodyT (args := [.opq v0, .opq v1]) rfl ((e35 _ _ _ _ _).trans hh)
theorem p35 {k : Nat} {v0 : Value} {v1 : Value} {h h1 : H} {v : Value} (hh : f35 rn k v0 v1 h = some (v, h1)) (hp : plainO v = true) (x : Ext h h1) : rn 35 #[v0, v1] h = some (v, h) := by rw [t35 hh, trunc_pure hp x]
theorem x35 {k : Nat} {v0 : Value} {v1 : Value} {h h1 : H} {v : Value} (hh : f35 rn k v0 v1 h = some (v, h1)) (hp : plainO v = false) : ∃ h2, rn 35 #[v0, v1] h = some (v, h2) ∧ Sm h1 h2 ∧ (Ext h h1 → Exw h h2) := trunc_cell hp (t35 hh)
theorem y35 {k : Nat} {v0 : Value} {v1 : Value} {h : H} {v : Value} (hh : f35 rn k v0 v1 h = some (v, h)) : rn 35 #[v0, v1] h = some (v, h) := by rw [t35 hh, trunc_self]

noncomputable def f36 (rec : Rec) (_k : Nat) (v0 : Value) (h0 : H) : Option (Value × H) :=
  len v0 fun n0 =>
  sli Tryd.prog h0 22 v0 none (some (.int .i64 (imin n0 16))) none fun v1 =>
  calls rec h0 83 [v1] fun v2 h1 =>
  some (v2, h1)

theorem e36 (rec : Rec) (k : Nat) (v0 : Value) (h : H) : bodyT Tryd.prog E0 SC (XC Tryd.prog rec k) 36 (Value × H) [.opq v0] h (fun v h => some (v, h)) = f36 rec k v0 h := by kernel_rfl
theorem t36 {k : Nat} {v0 : Value} {h h1 : H} {v : Value} (hh : f36 rn k v0 h = some (v, h1)) : rn 36 #[v0] h = some (v, trunc Tryd.prog h h1 v) :=
  run_of_bodyT (args := [.opq v0]) rfl ((e36 _ _ _ _).trans hh)
theorem p36 {k : Nat} {v0 : Value} {h h1 : H} {v : Value} (hh : f36 rn k v0 h = some (v, h1)) (hp : plainO v = true) (x : Ext h h1) : rn 36 #[v0] h = some (v, h) := by rw [t36 hh, trunc_pure hp x]
theorem x36 {k : Nat} {v0 : Value} {h h1 : H} {v : Value} (hh : f36 rn k v0 h = some (v, h1)) (hp : plainO v = false) : ∃ h2, rn 36 #[v0] h = some (v, h2) ∧ Sm h1 h2 ∧ (Ext h h1 → Exw h h2) := trunc_cell hp (t36 hh)
theorem y36 {k : Nat} {v0 : Value} {h : H} {v : Value} (hh : f36 rn k v0 h = some (v, h)) : rn 36 #[v0] h = some (v, h) := by rw [t36 hh, trunc_self]

noncomputable def f37_l1 (rec : Rec) (_k : Nat) (v0 : Value) (v1 : Value) (n0 : Int) (n5 : Int) (ws0 : List Value) (h2 : H) : Option (Ex × List Value × H) :=
  asI .i64 (gv ws0 2) fun n6 =>
  ifB (lt n6 n5) (
    asK (gv ws0 2) fun n7 =>
    six v1 n7 1 fun b6 b7 =>
    ld Tryd.prog h2 3 b6 b7 fun v6 =>
    asI .i64 v6 fun n8 =>
    calls rec h2 68 [v0] fun v7 h3 =>
    asI .i64 v7 fun n9 =>
    asI .i64 (gv ws0 1) fun n10 =>
    nn n8 (
      asI .i64 (gv ws0 2) fun n11 =>
      ifB (lt 0 n11) (
        asI .i64 (gv ws0 2) fun n12 =>
        ifB (lt n12 (sub .i64 n0 1)) (
          six v0 n8 1 fun b8 b9 =>
          ld Tryd.prog h3 3 b8 b9 fun v8 =>
          asI .i64 v8 fun n13 =>
          asI .i64 (gv ws0 1) fun n14 =>
          ifB (eq (and .i64 n13 n14) 0) (
            out .ret [(.bool false), gv ws0 1, gv ws0 2] h3) (
            six v0 n8 1 fun b10 b11 =>
            ld Tryd.prog h3 3 b10 b11 fun v9 =>
            asI .i64 v9 fun n15 =>
            ifB (eq (and .i64 n15 (andNot .i64 (andNot .i64 n9 n10) (shl .i64 1 n8))) 0) (
              out .ret [(.bool false), gv ws0 1, gv ws0 2] h3) (
              nn n8 (
                asI .i64 (gv ws0 1) fun n16 =>
                asI .i64 (gv ws0 2) fun n17 =>
                out .normal [gv ws0 0, (.int .i64 (or .i64 n16 (shl .i64 1 n8))), (.int .i64 (add .i64 n17 1))] h3)))) (
          nn n8 (
            asI .i64 (gv ws0 1) fun n18 =>
            asI .i64 (gv ws0 2) fun n19 =>
            out .normal [gv ws0 0, (.int .i64 (or .i64 n18 (shl .i64 1 n8))), (.int .i64 (add .i64 n19 1))] h3))) (
        nn n8 (
          asI .i64 (gv ws0 1) fun n20 =>
          asI .i64 (gv ws0 2) fun n21 =>
          out .normal [gv ws0 0, (.int .i64 (or .i64 n20 (shl .i64 1 n8))), (.int .i64 (add .i64 n21 1))] h3)))) (
    out (.exit 0) [gv ws0 0, gv ws0 1, gv ws0 2] h2)

noncomputable def f37 (rec : Rec) (k : Nat) (v0 : Value) (v1 : Value) (h0 : H) : Option (Value × H) :=
  len v1 fun n0 =>
  len v0 fun n1 =>
  calls rec h0 84 [v1, (.int .i64 n1)] fun v2 h1 =>
  asB v2 fun q0 =>
  ifB (not q0) (
    some ((.bool false), h1)) (
    ifB (lt n0 2) (
      some ((.bool false), h1)) (
      six v1 0 1 fun b0 b1 =>
      ld Tryd.prog h1 3 b0 b1 fun v3 =>
      asI .i64 v3 fun n2 =>
      six v0 n2 1 fun b2 b3 =>
      ld Tryd.prog h1 3 b2 b3 fun v4 =>
      asI .i64 v4 fun n3 =>
      six v1 (sub .i64 n0 1) 1 fun b4 b5 =>
      ld Tryd.prog h1 3 b4 b5 fun v5 =>
      asI .i64 v5 fun n4 =>
      nn n4 (
        ifB (eq (and .i64 (shr .i64 n3 n4) 1) 0) (
          some ((.bool false), h1)) (
          len v1 fun n5 =>
          lp k (f37_l1 rec k v0 v1 n0 n5) [(.bool false), (.int .i64 0), (.int .i64 0)] h1 fun e0 ws1 h4 =>
          onE e0 0 (
            some ((.bool true), h4)) (
            onR e0 (
              some (gv ws1 0, h4)))))))

theorem e37 (rec : Rec) (k : Nat) (v0 : Value) (v1 : Value) (h : H) : bodyT Tryd.prog E0 SC (XC Tryd.prog rec k) 37 (Value × H) [.opq v0, .opq v1] h (fun v h => some (v, h)) = f37 rec k v0 v1 h := by kernel_rfl
theorem t37 {k : Nat} {v0 : Value} {v1 : Value} {h h1 : H} {v : Value} (hh : f37 rn k v0 v1 h = some (v, h1)) : rn 37 #[v0, v1] h = some (v, trunc Tryd.prog h h1 v) :=
  run_of_bodyT (args := [.opq v0, .opq v1]) rfl ((e37 _ _ _ _ _).trans hh)
theorem p37 {k : Nat} {v0 : Value} {v1 : Value} {h h1 : H} {v : Value} (hh : f37 rn k v0 v1 h = some (v, h1)) (hp : plainO v = true) (x : Ext h h1) : rn 37 #[v0, v1] h = some (v, h) := by rw [t37 hh, trunc_pure hp x]
theorem x37 {k : Nat} {v0 : Value} {v1 : Value} {h h1 : H} {v : Value} (hh : f37 rn k v0 v1 h = some (v, h1)) (hp : plainO v = false) : ∃ h2, rn 37 #[v0, v1] h = some (v, h2) ∧ Sm h1 h2 ∧ (Ext h h1 → Exw h h2) := trunc_cell hp (t37 hh)
theorem y37 {k : Nat} {v0 : Value} {v1 : Value} {h : H} {v : Value} (hh : f37 rn k v0 v1 h = some (v, h)) : rn 37 #[v0, v1] h = some (v, h) := by rw [t37 hh, trunc_self]

noncomputable def f38 (_rec : Rec) (_k : Nat) (v0 : Value) (n0 : Int) (h0 : H) : Option (Value × H) :=
  ifB (le 0 n0) (
    len v0 fun n1 =>
    some ((.bool (lt n0 n1)), h0)) (
    some ((.bool false), h0))

theorem e38 (rec : Rec) (k : Nat) (v0 : Value) (n0 : Int) (h : H) : bodyT Tryd.prog E0 SC (XC Tryd.prog rec k) 38 (Value × H) [.opq v0, .int .i64 n0] h (fun v h => some (v, h)) = f38 rec k v0 n0 h := by kernel_rfl
theorem t38 {k : Nat} {v0 : Value} {n0 : Int} {h h1 : H} {v : Value} (hh : f38 rn k v0 n0 h = some (v, h1)) : rn 38 #[v0, .int .i64 n0] h = some (v, trunc Tryd.prog h h1 v) :=
  run_of_bodyT (args := [.opq v0, .int .i64 n0]) rfl ((e38 _ _ _ _ _).trans hh)
theorem p38 {k : Nat} {v0 : Value} {n0 : Int} {h h1 : H} {v : Value} (hh : f38 rn k v0 n0 h = some (v, h1)) (hp : plainO v = true) (x : Ext h h1) : rn 38 #[v0, .int .i64 n0] h = some (v, h) := by rw [t38 hh, trunc_pure hp x]
theorem x38 {k : Nat} {v0 : Value} {n0 : Int} {h h1 : H} {v : Value} (hh : f38 rn k v0 n0 h = some (v, h1)) (hp : plainO v = false) : ∃ h2, rn 38 #[v0, .int .i64 n0] h = some (v, h2) ∧ Sm h1 h2 ∧ (Ext h h1 → Exw h h2) := trunc_cell hp (t38 hh)
theorem y38 {k : Nat} {v0 : Value} {n0 : Int} {h : H} {v : Value} (hh : f38 rn k v0 n0 h = some (v, h)) : rn 38 #[v0, .int .i64 n0] h = some (v, h) := by rw [t38 hh, trunc_self]

noncomputable def f39 (rec : Rec) (_k : Nat) (v0 : Value) (h0 : H) : Option (Value × H) :=
  len v0 fun n0 =>
  ifB (le 3 n0) (
    calls rec h0 68 [v0] fun v1 h1 =>
    asI .i64 v1 fun n1 =>
    calls rec h1 67 [v0, (.int .i64 n1)] fun v2 h2 =>
    asB v2 fun q0 =>
    ifB q0 (
      calls rec h2 26 [v0] fun v3 h3 =>
      asI .i64 v3 fun n2 =>
      some ((.bool (eq n2 0)), h3)) (
      some ((.bool false), h2))) (
    some ((.bool false), h0))

theorem e39 (rec : Rec) (k : Nat) (v0 : Value) (h : H) : bodyT Tryd.prog E0 SC (XC Tryd.prog rec k) 39 (Value × H) [.opq v0] h (fun v h => some (v, h)) = f39 rec k v0 h := by kernel_rfl
theorem t39 {k : Nat} {v0 : Value} {h h1 : H} {v : Value} (hh : f39 rn k v0 h = some (v, h1)) : rn 39 #[v0] h = some (v, trunc Tryd.prog h h1 v) :=
  run_of_bodyT (args := [.opq v0]) rfl ((e39 _ _ _ _).trans hh)
theorem p39 {k : Nat} {v0 : Value} {h h1 : H} {v : Value} (hh : f39 rn k v0 h = some (v, h1)) (hp : plainO v = true) (x : Ext h h1) : rn 39 #[v0] h = some (v, h) := by rw [t39 hh, trunc_pure hp x]
theorem x39 {k : Nat} {v0 : Value} {h h1 : H} {v : Value} (hh : f39 rn k v0 h = some (v, h1)) (hp : plainO v = false) : ∃ h2, rn 39 #[v0] h = some (v, h2) ∧ Sm h1 h2 ∧ (Ext h h1 → Exw h h2) := trunc_cell hp (t39 hh)
theorem y39 {k : Nat} {v0 : Value} {h : H} {v : Value} (hh : f39 rn k v0 h = some (v, h)) : rn 39 #[v0] h = some (v, h) := by rw [t39 hh, trunc_self]

noncomputable def f41_l2 (rec : Rec) (_k : Nat) (v0 : Value) (n1 : Int) (n4 : Int) (ws1 : List Value) (h3 : H) : Option (Ex × List Value × H) :=
  asI .i64 (gv ws1 2) fun n5 =>
  ifB (lt n5 n4) (
    calls rec h3 68 [v0] fun v2 h4 =>
    asI .i64 v2 fun n6 =>
    asI .i64 (gv ws1 1) fun n7 =>
    asK (gv ws1 2) fun n8 =>
    nn n8 (
      asI .i64 (gv ws1 1) fun n9 =>
      asK (gv ws1 2) fun n10 =>
      nn n10 (
        ifB (eq (and .i64 (shr .i64 n9 n10) 1) 0) (
          asI .i64 (gv ws1 2) fun n11 =>
          ifB (not (eq n11 n1)) (
            asK (gv ws1 2) fun n12 =>
            six v0 n12 1 fun b0 b1 =>
            ld Tryd.prog h4 3 b0 b1 fun v3 =>
            asI .i64 v3 fun n13 =>
            asI .i64 (gv ws1 1) fun n14 =>
            ifB (not (eq (and .i64 n13 n14) 0)) (
              asK (gv ws1 2) fun n15 =>
              six v0 n15 1 fun b2 b3 =>
              ld Tryd.prog h4 3 b2 b3 fun v4 =>
              asI .i64 v4 fun n16 =>
              ifB (not (eq (and .i64 n16 (andNot .i64 (andNot .i64 n6 n7) (shl .i64 1 n8))) 0)) (
                calls rec h4 33 [v0, (.int .i64 (andNot .i64 (andNot .i64 n6 n7) (shl .i64 1 n8))), (.int .i64 n1)] fun v5 h5 =>
                asI .i64 v5 fun n17 =>
                ifB (eq n17 (andNot .i64 (andNot .i64 n6 n7) (shl .i64 1 n8))) (
                  bls Tryd.prog h5 22 1 [(0, gv ws1 2)] fun v6 h6 =>
                  app Tryd.prog h6 22 22 (gv ws1 0) v6 fun v7 h7 =>
                  asK (gv ws1 2) fun n18 =>
                  nn n18 (
                    asI .i64 (gv ws1 1) fun n19 =>
                    out (.exit 2) [v7, (.int .i64 (or .i64 n19 (shl .i64 1 n18))), gv ws1 2] h7)) (
                  asI .i64 (gv ws1 2) fun n20 =>
                  out .normal [gv ws1 0, gv ws1 1, (.int .i64 (add .i64 n20 1))] h5)) (
                asI .i64 (gv ws1 2) fun n21 =>
                out .normal [gv ws1 0, gv ws1 1, (.int .i64 (add .i64 n21 1))] h4)) (
              asI .i64 (gv ws1 2) fun n22 =>
              out .normal [gv ws1 0, gv ws1 1, (.int .i64 (add .i64 n22 1))] h4)) (
            asI .i64 (gv ws1 2) fun n23 =>
            out .normal [gv ws1 0, gv ws1 1, (.int .i64 (add .i64 n23 1))] h4)) (
          asI .i64 (gv ws1 2) fun n24 =>
          out .normal [gv ws1 0, gv ws1 1, (.int .i64 (add .i64 n24 1))] h4)))) (
    out (.exit 2) [gv ws1 0, gv ws1 1, gv ws1 2] h3)

noncomputable def f41_l1 (rec : Rec) (k : Nat) (v0 : Value) (n1 : Int) (ws0 : List Value) (h2 : H) : Option (Ex × List Value × H) :=
  len (gv ws0 0) fun n2 =>
  len v0 fun n3 =>
  ifB (lt n2 (sub .i64 n3 1)) (
    len v0 fun n4 =>
    lp k (f41_l2 rec k v0 n1 n4) [gv ws0 0, gv ws0 1, (.int .i64 0)] h2 fun e0 ws2 h8 =>
    onE e0 2 (
      out .normal [gv ws2 0, gv ws2 1] h8) (
      none)) (
    out (.exit 0) [gv ws0 0, gv ws0 1] h2)

noncomputable def f41 (rec : Rec) (k : Nat) (v0 : Value) (n0 : Int) (n1 : Int) (h0 : H) : Option (Value × H) :=
  bls Tryd.prog h0 22 1 [(0, (.int .i64 n0))] fun v1 h1 =>
  nn n0 (
    lp k (f41_l1 rec k v0 n1) [v1, (.int .i64 (shl .i64 1 n0))] h1 fun e1 ws3 h9 =>
    onE e1 0 (
      bls Tryd.prog h9 22 1 [(0, (.int .i64 n1))] fun v8 h10 =>
      app Tryd.prog h10 22 22 (gv ws3 0) v8 fun v9 h11 =>
      some (v9, h11)) (
      none))

theorem e41 (rec : Rec) (k : Nat) (v0 : Value) (n0 : Int) (n1 : Int) (h : H) : bodyT Tryd.prog E0 SC (XC Tryd.prog rec k) 41 (Value × H) [.opq v0, .int .i64 n0, .int .i64 n1] h (fun v h => some (v, h)) = f41 rec k v0 n0 n1 h := by kernel_rfl
theorem t41 {k : Nat} {v0 : Value} {n0 : Int} {n1 : Int} {h h1 : H} {v : Value} (hh : f41 rn k v0 n0 n1 h = some (v, h1)) : rn 41 #[v0, .int .i64 n0, .int .i64 n1] h = some (v, trunc Tryd.prog h h1 v) :=
  run_of_bodyT (args := [.opq v0, .int .i64 n0, .int .i64 n1]) rfl ((e41 _ _ _ _ _ _).trans hh)
theorem p41 {k : Nat} {v0 : Value} {n0 : Int} {n1 : Int} {h h1 : H} {v : Value} (hh : f41 rn k v0 n0 n1 h = some (v, h1)) (hp : plainO v = true) (x : Ext h h1) : rn 41 #[v0, .int .i64 n0, .int .i64 n1] h = some (v, h) := by rw [t41 hh, trunc_pure hp x]
theorem x41 {k : Nat} {v0 : Value} {n0 : Int} {n1 : Int} {h h1 : H} {v : Value} (hh : f41 rn k v0 n0 n1 h = some (v, h1)) (hp : plainO v = false) : ∃ h2, rn 41 #[v0, .int .i64 n0, .int .i64 n1] h = some (v, h2) ∧ Sm h1 h2 ∧ (Ext h h1 → Exw h h2) := trunc_cell hp (t41 hh)
theorem y41 {k : Nat} {v0 : Value} {n0 : Int} {n1 : Int} {h : H} {v : Value} (hh : f41 rn k v0 n0 n1 h = some (v, h)) : rn 41 #[v0, .int .i64 n0, .int .i64 n1] h = some (v, h) := by rw [t41 hh, trunc_self]

noncomputable def f81 (rec : Rec) (_k : Nat) (v0 : Value) (h0 : H) : Option (Value × H) :=
  len v0 fun n0 =>
  ifB (le 3 n0) (
    calls rec h0 65 [v0] fun v1 h1 =>
    asI .i64 v1 fun n1 =>
    calls rec h1 64 [v0, (.int .i64 n1)] fun v2 h2 =>
    asB v2 fun q0 =>
    ifB q0 (
      calls rec h2 65 [v0] fun v3 h3 =>
      asI .i64 v3 fun n2 =>
      calls rec h3 70 [v0, (.int .i64 n2)] fun v4 h4 =>
      asI .i64 v4 fun n3 =>
      some ((.bool (eq n3 0)), h4)) (
      some ((.bool false), h2))) (
    some ((.bool false), h0))

theorem e81 (rec : Rec) (k : Nat) (v0 : Value) (h : H) : bodyT Tryd.prog E0 SC (XC Tryd.prog rec k) 81 (Value × H) [.opq v0] h (fun v h => some (v, h)) = f81 rec k v0 h := by kernel_rfl
theorem t81 {k : Nat} {v0 : Value} {h h1 : H} {v : Value} (hh : f81 rn k v0 h = some (v, h1)) : rn 81 #[v0] h = some (v, trunc Tryd.prog h h1 v) :=
  run_of_bodyT (args := [.opq v0]) rfl ((e81 _ _ _ _).trans hh)
theorem p81 {k : Nat} {v0 : Value} {h h1 : H} {v : Value} (hh : f81 rn k v0 h = some (v, h1)) (hp : plainO v = true) (x : Ext h h1) : rn 81 #[v0] h = some (v, h) := by rw [t81 hh, trunc_pure hp x]
theorem x81 {k : Nat} {v0 : Value} {h h1 : H} {v : Value} (hh : f81 rn k v0 h = some (v, h1)) (hp : plainO v = false) : ∃ h2, rn 81 #[v0] h = some (v, h2) ∧ Sm h1 h2 ∧ (Ext h h1 → Exw h h2) := trunc_cell hp (t81 hh)
theorem y81 {k : Nat} {v0 : Value} {h : H} {v : Value} (hh : f81 rn k v0 h = some (v, h)) : rn 81 #[v0] h = some (v, h) := by rw [t81 hh, trunc_self]

noncomputable def f82_l1 (rec : Rec) (_k : Nat) (v0 : Value) (v1 : Value) (n0 : Int) (n1 : Int) (v11 : Value) (n5 : Int) (ws0 : List Value) (h5 : H) : Option (Ex × List Value × H) :=
  asI .i64 (gv ws0 1) fun n6 =>
  ifB (lt n6 n5) (
    asK (gv ws0 1) fun n7 =>
    six v11 n7 1 fun b10 b11 =>
    ld Tryd.prog h5 3 b10 b11 fun v12 =>
    asI .i64 v12 fun n8 =>
    nil v0 (
      asP v0 fun b12 b13 =>
      ld Tryd.prog h5 78 b12 b13 fun v13 =>
      six v13 n8 1 fun b14 b15 =>
      ld Tryd.prog h5 3 b14 b15 fun v14 =>
      asI .i64 v14 fun n9 =>
      ifB (eq (and .i64 n9 n0) 0) (
        asI .i64 (gv ws0 1) fun n10 =>
        out .normal [gv ws0 0, (.int .i64 (add .i64 n10 1))] h5) (
        nil v0 (
          asP v0 fun b16 b17 =>
          ld Tryd.prog h5 78 b16 b17 fun v15 =>
          six v15 n8 1 fun b18 b19 =>
          ld Tryd.prog h5 3 b18 b19 fun v16 =>
          asI .i64 v16 fun n11 =>
          ifB (eq (and .i64 n11 (andNot .i64 n1 n0)) 0) (
            asI .i64 (gv ws0 1) fun n12 =>
            out .normal [gv ws0 0, (.int .i64 (add .i64 n12 1))] h5) (
            calls rec h5 83 [v1] fun v17 h6 =>
            bls Tryd.prog h6 22 1 [(0, (.int .i64 n8))] fun v18 h7 =>
            app Tryd.prog h7 22 22 v17 v18 fun v19 h8 =>
            nn n8 (
              calls rec h8 82 [v0, v19, (.int .i64 (or .i64 n0 (shl .i64 1 n8)))] fun v20 h9 =>
              eqv Tryd.prog 22 v20 (.slice none 0 0) fun q1 =>
              ifB (not q1) (
                out .ret [v20, gv ws0 1] h9) (
                asI .i64 (gv ws0 1) fun n13 =>
                out .normal [gv ws0 0, (.int .i64 (add .i64 n13 1))] h9))))))) (
    out (.exit 0) [gv ws0 0, gv ws0 1] h5)

noncomputable def f82 (rec : Rec) (k : Nat) (v0 : Value) (v1 : Value) (n0 : Int) (h0 : H) : Option (Value × H) :=
  nil v0 (
    asP v0 fun b0 b1 =>
    ld Tryd.prog h0 78 b0 b1 fun v2 =>
    calls rec h0 65 [v2] fun v3 h1 =>
    asI .i64 v3 fun n1 =>
    nil v0 (
      asP v0 fun b2 b3 =>
      ld Tryd.prog h1 3 b2 (off b3 1) fun v4 =>
      asI .i64 v4 fun n2 =>
      nn n2 (
        ifB (eq (andNot .i64 n1 n0) (shl .i64 1 n2)) (
          nil v0 (
            asP v0 fun b4 b5 =>
            ld Tryd.prog h1 3 b4 (off b5 1) fun v5 =>
            asI .i64 v5 fun n3 =>
            bls Tryd.prog h1 22 1 [(0, (.int .i64 n3))] fun v6 h2 =>
            app Tryd.prog h2 22 22 v1 v6 fun v7 h3 =>
            some (v7, h3))) (
          nil v0 (
            asP v0 fun b6 b7 =>
            ld Tryd.prog h1 97 b6 (off b7 2) fun v8 =>
            lok Tryd.prog h1 97 v8 (.int .i64 n0) false fun v9 =>
            asB v9 fun q0 =>
            ifB q0 (
              some ((.slice none 0 0), h1)) (
              nil v0 (
                asP v0 fun b8 b9 =>
                ld Tryd.prog h1 3 b8 (off b9 1) fun v10 =>
                asI .i64 v10 fun n4 =>
                nn n4 (
                  calls rec h1 76 [(.int .i64 (andNot .i64 (andNot .i64 n1 n0) (shl .i64 1 n4)))] fun v11 h4 =>
                  len v11 fun n5 =>
                  lp k (f82_l1 rec k v0 v1 n0 n1 v11 n5) [(.slice none 0 0), (.int .i64 0)] h4 fun e0 ws1 h10 =>
                  onE e0 0 (
                    nil v0 (
                      asP v0 fun b20 b21 =>
                      ld Tryd.prog h10 97 b20 (off b21 2) fun v21 =>
                      mup Tryd.prog h10 97 v21 (.int .i64 n0) (.bool true) fun h11 =>
                      some ((.slice none 0 0), h11))) (
                    onR e0 (
                      some (gv ws1 0, h10)))))))))))

theorem e82 (rec : Rec) (k : Nat) (v0 : Value) (v1 : Value) (n0 : Int) (h : H) : bodyT Tryd.prog E0 SC (XC Tryd.prog rec k) 82 (Value × H) [.opq v0, .opq v1, .int .i64 n0] h (fun v h => some (v, h)) = f82 rec k v0 v1 n0 h := by kernel_rfl
theorem t82 {k : Nat} {v0 : Value} {v1 : Value} {n0 : Int} {h h1 : H} {v : Value} (hh : f82 rn k v0 v1 n0 h = some (v, h1)) : rn 82 #[v0, v1, .int .i64 n0] h = some (v, trunc Tryd.prog h h1 v) :=
  run_of_bodyT (args := [.opq v0, .opq v1, .int .i64 n0]) rfl ((e82 _ _ _ _ _ _).trans hh)
theorem p82 {k : Nat} {v0 : Value} {v1 : Value} {n0 : Int} {h h1 : H} {v : Value} (hh : f82 rn k v0 v1 n0 h = some (v, h1)) (hp : plainO v = true) (x : Ext h h1) : rn 82 #[v0, v1, .int .i64 n0] h = some (v, h) := by rw [t82 hh, trunc_pure hp x]
theorem x82 {k : Nat} {v0 : Value} {v1 : Value} {n0 : Int} {h h1 : H} {v : Value} (hh : f82 rn k v0 v1 n0 h = some (v, h1)) (hp : plainO v = false) : ∃ h2, rn 82 #[v0, v1, .int .i64 n0] h = some (v, h2) ∧ Sm h1 h2 ∧ (Ext h h1 → Exw h h2) := trunc_cell hp (t82 hh)
theorem y82 {k : Nat} {v0 : Value} {v1 : Value} {n0 : Int} {h : H} {v : Value} (hh : f82 rn k v0 v1 n0 h = some (v, h)) : rn 82 #[v0, v1, .int .i64 n0] h = some (v, h) := by rw [t82 hh, trunc_self]

noncomputable def f84_l1 (_rec : Rec) (_k : Nat) (v0 : Value) (n0 : Int) (n1 : Int) (ws0 : List Value) (h1 : H) : Option (Ex × List Value × H) :=
  asI .i64 (gv ws0 2) fun n2 =>
  ifB (lt n2 n1) (
    asK (gv ws0 2) fun n3 =>
    six v0 n3 1 fun b0 b1 =>
    ld Tryd.prog h1 3 b0 b1 fun v1 =>
    asI .i64 v1 fun n4 =>
    ifB (lt n4 0) (
      out .ret [(.bool false), gv ws0 1, gv ws0 2] h1) (
      ifB (le n0 n4) (
        out .ret [(.bool false), gv ws0 1, gv ws0 2] h1) (
        asI .i64 (gv ws0 1) fun n5 =>
        nn n4 (
          ifB (eq (and .i64 (shr .i64 n5 n4) 1) 1) (
            out .ret [(.bool false), gv ws0 1, gv ws0 2] h1) (
            nn n4 (
              asI .i64 (gv ws0 1) fun n6 =>
              asI .i64 (gv ws0 2) fun n7 =>
              out .normal [gv ws0 0, (.int .i64 (or .i64 n6 (shl .i64 1 n4))), (.int .i64 (add .i64 n7 1))] h1)))))) (
    out (.exit 0) [gv ws0 0, gv ws0 1, gv ws0 2] h1)

noncomputable def f84 (rec : Rec) (k : Nat) (v0 : Value) (n0 : Int) (h0 : H) : Option (Value × H) :=
  len v0 fun n1 =>
  lp k (f84_l1 rec k v0 n0 n1) [(.bool false), (.int .i64 0), (.int .i64 0)] h0 fun e0 ws1 h2 =>
  onE e0 0 (
    len v0 fun n8 =>
    some ((.bool (eq n8 n0)), h2)) (
    onR e0 (
      some (gv ws1 0, h2)))

theorem e84 (rec : Rec) (k : Nat) (v0 : Value) (n0 : Int) (h : H) : bodyT Tryd.prog E0 SC (XC Tryd.prog rec k) 84 (Value × H) [.opq v0, .int .i64 n0] h (fun v h => some (v, h)) = f84 rec k v0 n0 h := by kernel_rfl
theorem t84 {k : Nat} {v0 : Value} {n0 : Int} {h h1 : H} {v : Value} (hh : f84 rn k v0 n0 h = some (v, h1)) : rn 84 #[v0, .int .i64 n0] h = some (v, trunc Tryd.prog h h1 v) :=
  run_of_bodyT (args := [.opq v0, .int .i64 n0]) rfl ((e84 _ _ _ _ _).trans hh)
theorem p84 {k : Nat} {v0 : Value} {n0 : Int} {h h1 : H} {v : Value} (hh : f84 rn k v0 n0 h = some (v, h1)) (hp : plainO v = true) (x : Ext h h1) : rn 84 #[v0, .int .i64 n0] h = some (v, h) := by rw [t84 hh, trunc_pure hp x]
theorem x84 {k : Nat} {v0 : Value} {n0 : Int} {h h1 : H} {v : Value} (hh : f84 rn k v0 n0 h = some (v, h1)) (hp : plainO v = false) : ∃ h2, rn 84 #[v0, .int .i64 n0] h = some (v, h2) ∧ Sm h1 h2 ∧ (Ext h h1 → Exw h h2) := trunc_cell hp (t84 hh)
theorem y84 {k : Nat} {v0 : Value} {n0 : Int} {h : H} {v : Value} (hh : f84 rn k v0 n0 h = some (v, h)) : rn 84 #[v0, .int .i64 n0] h = some (v, h) := by rw [t84 hh, trunc_self]

end Go.AM
