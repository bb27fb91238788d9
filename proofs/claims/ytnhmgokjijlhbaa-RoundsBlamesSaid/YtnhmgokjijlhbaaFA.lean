/- The staged forms of functions 15, 51, 52, 85, 86, 101, and what calls of these answer. -/
import Derived.Test.YtnhmgokjijlhbaaSx
namespace Go.AM
open Go.Proofs

noncomputable def f15 (rec : Rec) (_k : Nat) (v0 : Value) (h0 : H) : Option (Value × H) :=
  bx h0 47 v0 fun h1 =>
  ld Try.prog h1 47 (nx h0) 0 fun v1 =>
  calls rec h1 37 [v1] fun v2 h2 =>
  calls rec h2 51 [v2] fun v3 h3 =>
  ext v3 0 fun v4 =>
  asI .i64 v4 fun n0 =>
  ext v3 1 fun v5 =>
  asI .i64 v5 fun n1 =>
  ld Try.prog h3 47 (nx h0) 0 fun v6 =>
  calls rec h3 38 [v6] fun v7 h4 =>
  asB v7 fun q0 =>
  ifB (not q0) (
    ifB (eq n0 0) (
      ifB (eq n1 2) (
        calls rec h4 19 [] fun v8 h5 =>
        asB v8 fun q1 =>
        some ((.bool q1), h5)) (
        some ((.bool false), h4))) (
      some ((.bool false), h4))) (
    ld Try.prog h4 47 (nx h0) 0 fun v9 =>
    calls rec h4 52 [v9] fun v10 h6 =>
    ext v10 0 fun v11 =>
    asI .i64 v11 fun n2 =>
    ext v10 1 fun v12 =>
    asI .i64 v12 fun n3 =>
    ifB (eq n0 n2) (
      ifB (eq n1 n3) (
        calls rec h6 19 [] fun v13 h7 =>
        asB v13 fun q2 =>
        some ((.bool q2), h7)) (
        some ((.bool false), h6))) (
      some ((.bool false), h6)))

theorem e15 (rec : Rec) (k : Nat) (v0 : Value) (h : H) : bodyT Try.prog E0 SC (XC Try.prog rec k) 15 (Value × H) [.opq v0] h (fun v h => some (v, h)) = f15 rec k v0 h := by kernel_rfl
theorem t15 {k : Nat} {v0 : Value} {h h1 : H} {v : Value} (hh : f15 rn k v0 h = some (v, h1)) : rn 15 #[v0] h = some (v, trunc Try.prog h h1 v) :=
  run_of_bodyT (args := [.opq v0]) rfl ((e15 _ _ _ _).trans hh)
theorem p15 {k : Nat} {v0 : Value} {h h1 : H} {v : Value} (hh : f15 rn k v0 h = some (v, h1)) (hp : plainO v = true) (x : Ext h h1) : rn 15 #[v0] h = some (v, h) := by rw [t15 hh, trunc_pure hp x]
theorem x15 {k : Nat} {v0 : Value} {h h1 : H} {v : Value} (hh : f15 rn k v0 h = some (v, h1)) (hp : plainO v = false) : rn 15 #[v0] h = some (v, h1) := by rw [t15 hh, trunc_not hp]

noncomputable def f51_l2 (rec : Rec) (_k : Nat) (h0 : H) (ws0 : List Value) (n2 : Int) (ws1 : List Value) (h4 : H) : Option (Ex × List Value × H) :=
  asI .i64 (gv ws1 2) fun n3 =>
  ifB (lt n3 (shl .i64 1 n2)) (
    asI .i64 (gv ws1 2) fun n4 =>
    calls rec h4 85 [(.int .u64 (wr .u64 n4))] fun v5 h5 =>
    asI .i64 v5 fun n5 =>
    asI .i64 (gv ws0 2) fun n6 =>
    ifB (eq n5 n6) (
      ld Try.prog h5 52 (nx h0) 0 fun v6 =>
      calls rec h5 77 [v6, gv ws1 2] fun v7 h6 =>
      eqv Try.prog 22 v7 (.slice none 0 0) fun q1 =>
      ifB q1 (
        out .ret [gv ws1 2, (.int .i64 0), gv ws1 2] h6) (
        asI .i64 (gv ws1 2) fun n7 =>
        out .normal [gv ws1 0, gv ws1 1, (.int .i64 (add .i64 n7 1))] h6)) (
      asI .i64 (gv ws1 2) fun n8 =>
      out .normal [gv ws1 0, gv ws1 1, (.int .i64 (add .i64 n8 1))] h5)) (
    out (.exit 2) [gv ws1 0, gv ws1 1, gv ws1 2] h4)

noncomputable def f51_l1 (rec : Rec) (k : Nat) (h0 : H) (ws0 : List Value) (h3 : H) : Option (Ex × List Value × H) :=
  ld Try.prog h3 50 (nx h0) (off 0 2) fun v3 =>
  len v3 fun n0 =>
  asI .i64 (gv ws0 2) fun n1 =>
  ifB (le n1 n0) (
    ld Try.prog h3 50 (nx h0) (off 0 2) fun v4 =>
    len v4 fun n2 =>
    nn n2 (
      lp k (f51_l2 rec k h0 ws0 n2) [gv ws0 0, gv ws0 1, (.int .i64 0)] h3 fun e0 ws2 h7 =>
      onE e0 2 (
        asI .i64 (gv ws0 2) fun n9 =>
        out .normal [gv ws2 0, gv ws2 1, (.int .i64 (add .i64 n9 1))] h7) (
        onR e0 (
          out .ret [gv ws2 0, gv ws2 1, gv ws0 2] h7)))) (
    out (.exit 0) [gv ws0 0, gv ws0 1, gv ws0 2] h3)

noncomputable def f51 (rec : Rec) (k : Nat) (v0 : Value) (h0 : H) : Option (Value × H) :=
  bx h0 52 v0 fun h1 =>
  ld Try.prog h1 52 (nx h0) 0 fun v1 =>
  calls rec h1 71 [v1] fun v2 h2 =>
  asB v2 fun q0 =>
  ifB (not q0) (
    some ((.tuple #[(.int .i64 0), (.int .i64 2)]), h2)) (
    lp k (f51_l1 rec k h0) [(.int .i64 0), (.int .i64 0), (.int .i64 1)] h2 fun e1 ws3 h8 =>
    onE e1 0 (
      some ((.tuple #[(.int .i64 0), (.int .i64 4)]), h8)) (
      onR e1 (
        some ((.tuple #[gv ws3 0, gv ws3 1]), h8))))

theorem e51 (rec : Rec) (k : Nat) (v0 : Value) (h : H) : bodyT Try.prog E0 SC (XC Try.prog rec k) 51 (Value × H) [.opq v0] h (fun v h => some (v, h)) = f51 rec k v0 h := by kernel_rfl
theorem t51 {k : Nat} {v0 : Value} {h h1 : H} {v : Value} (hh : f51 rn k v0 h = some (v, h1)) : rn 51 #[v0] h = some (v, trunc Try.prog h h1 v) :=
  run_of_bodyT (args := [.opq v0]) rfl ((e51 _ _ _ _).trans hh)
theorem p51 {k : Nat} {v0 : Value} {h h1 : H} {v : Value} (hh : f51 rn k v0 h = some (v, h1)) (hp : plainO v = true) (x : Ext h h1) : rn 51 #[v0] h = some (v, h) := by rw [t51 hh, trunc_pure hp x]
theorem x51 {k : Nat} {v0 : Value} {h h1 : H} {v : Value} (hh : f51 rn k v0 h = some (v, h1)) (hp : plainO v = false) : rn 51 #[v0] h = some (v, h1) := by rw [t51 hh, trunc_not hp]

noncomputable def f52_l2 (_rec : Rec) (_k : Nat)  (ws1 : List Value) (h3 : H) : Option (Ex × List Value × H) :=
  asI .i64 (gv ws1 1) fun n2 =>
  ifB (lt 0 n2) (
    asI .i64 (gv ws1 0) fun n3 =>
    asI .i64 (gv ws1 1) fun n4 =>
    asI .i64 (gv ws1 1) fun n5 =>
    out .normal [(.int .i64 (add .i64 n3 1)), (.int .i64 (and .i64 n5 (sub .i64 n4 1)))] h3) (
    out (.exit 2) [gv ws1 0, gv ws1 1] h3)

noncomputable def f52_l1 (rec : Rec) (k : Nat) (h0 : H) (n0 : Int) (ws0 : List Value) (h2 : H) : Option (Ex × List Value × H) :=
  asI .i64 (gv ws0 2) fun n1 =>
  ifB (lt n1 (shl .i64 1 n0)) (
    lp k (f52_l2 rec k) [(.int .i64 0), gv ws0 2] h2 fun e0 ws2 h4 =>
    onE e0 2 (
      asI .i64 (gv ws2 0) fun n6 =>
      asI .i64 (gv ws0 1) fun n7 =>
      ifB (le n7 n6) (
        asI .i64 (gv ws0 2) fun n8 =>
        out .normal [gv ws0 0, gv ws0 1, (.int .i64 (add .i64 n8 1))] h4) (
        ld Try.prog h4 47 (nx h0) 0 fun v2 =>
        calls rec h4 86 [v2, gv ws0 2] fun v3 h5 =>
        calls rec h5 49 [v3] fun v4 h6 =>
        ext v4 0 fun _ =>
        ext v4 1 fun v6 =>
        asI .i64 v6 fun n9 =>
        ifB (not (eq n9 0)) (
          asI .i64 (gv ws0 2) fun n10 =>
          out .normal [gv ws0 2, gv ws2 0, (.int .i64 (add .i64 n10 1))] h6) (
          asI .i64 (gv ws0 2) fun n11 =>
          out .normal [gv ws0 0, gv ws0 1, (.int .i64 (add .i64 n11 1))] h6))) (
      none)) (
    out (.exit 0) [gv ws0 0, gv ws0 1, gv ws0 2] h2)

noncomputable def f52 (rec : Rec) (k : Nat) (v0 : Value) (h0 : H) : Option (Value × H) :=
  bx h0 47 v0 fun h1 =>
  ld Try.prog h1 45 (nx h0) (off 0 2) fun v1 =>
  len v1 fun n0 =>
  nn n0 (
    lp k (f52_l1 rec k h0 n0) [(.int .i64 0), (.int .i64 99), (.int .i64 0)] h1 fun e1 ws3 h7 =>
    onE e1 0 (
      asI .i64 (gv ws3 1) fun n12 =>
      ifB (eq n12 99) (
        some ((.tuple #[(.int .i64 0), (.int .i64 4)]), h7)) (
        some ((.tuple #[gv ws3 0, (.int .i64 0)]), h7))) (
      none))

theorem e52 (rec : Rec) (k : Nat) (v0 : Value) (h : H) : bodyT Try.prog E0 SC (XC Try.prog rec k) 52 (Value × H) [.opq v0] h (fun v h => some (v, h)) = f52 rec k v0 h := by kernel_rfl
theorem t52 {k : Nat} {v0 : Value} {h h1 : H} {v : Value} (hh : f52 rn k v0 h = some (v, h1)) : rn 52 #[v0] h = some (v, trunc Try.prog h h1 v) :=
  run_of_bodyT (args := [.opq v0]) rfl ((e52 _ _ _ _).trans hh)
theorem p52 {k : Nat} {v0 : Value} {h h1 : H} {v : Value} (hh : f52 rn k v0 h = some (v, h1)) (hp : plainO v = true) (x : Ext h h1) : rn 52 #[v0] h = some (v, h) := by rw [t52 hh, trunc_pure hp x]
theorem x52 {k : Nat} {v0 : Value} {h h1 : H} {v : Value} (hh : f52 rn k v0 h = some (v, h1)) (hp : plainO v = false) : rn 52 #[v0] h = some (v, h1) := by rw [t52 hh, trunc_not hp]

noncomputable def f85 (rec : Rec) (_k : Nat) (v0 : Value) (h0 : H) : Option (Value × H) :=
  calls rec h0 101 [v0] fun v1 h1 =>
  asI .i64 v1 fun n0 =>
  some ((.int .i64 n0), h1)

theorem e85 (rec : Rec) (k : Nat) (v0 : Value) (h : H) : bodyT Try.prog E0 SC (XC Try.prog rec k) 85 (Value × H) [.opq v0] h (fun v h => some (v, h)) = f85 rec k v0 h := by kernel_rfl
theorem t85 {k : Nat} {v0 : Value} {h h1 : H} {v : Value} (hh : f85 rn k v0 h = some (v, h1)) : rn 85 #[v0] h = some (v, trunc Try.prog h h1 v) :=
  run_of_bodyT (args := [.opq v0]) rfl ((e85 _ _ _ _).trans hh)
theorem p85 {k : Nat} {v0 : Value} {h h1 : H} {v : Value} (hh : f85 rn k v0 h = some (v, h1)) (hp : plainO v = true) (x : Ext h h1) : rn 85 #[v0] h = some (v, h) := by rw [t85 hh, trunc_pure hp x]
theorem x85 {k : Nat} {v0 : Value} {h h1 : H} {v : Value} (hh : f85 rn k v0 h = some (v, h1)) (hp : plainO v = false) : rn 85 #[v0] h = some (v, h1) := by rw [t85 hh, trunc_not hp]

noncomputable def f86_l3 (_rec : Rec) (_k : Nat) (n0 : Int) (ws0 : List Value) (ws1 : List Value) (v5 : Value) (n10 : Int) (ws2 : List Value) (h6 : H) : Option (Ex × List Value × H) :=
  asI .i64 (gv ws2 1) fun n11 =>
  ifB (lt n11 n10) (
    asK (gv ws2 1) fun n12 =>
    six v5 n12 4 fun b0 b1 =>
    ld Try.prog h6 89 b0 b1 fun v6 =>
    al h6 89 [(.int .i64 0), (.int .i64 0), (.int .i64 0), (.int .i64 0)] fun h7 =>
    st Try.prog h7 89 (nx h6) 0 v6 fun h8 =>
    asK (gv ws2 1) fun n13 =>
    nn n13 (
      ifB (eq (and .i64 (shr .i64 n0 n13) 1) 1) (
        ld Try.prog h8 3 (nx h6) 0 fun v7 =>
        asI .i64 v7 fun n14 =>
        asI .i64 (gv ws1 1) fun n15 =>
        ifB (eq n14 n15) (
          ld Try.prog h8 3 (nx h6) (off 0 1) fun v8 =>
          asI .i64 v8 fun n16 =>
          asI .i64 (gv ws0 1) fun n17 =>
          nn n16 (
            ifB (eq (and .i64 (shr .i64 n17 n16) 1) 1) (
              asI .i64 (gv ws2 1) fun n18 =>
              out .normal [gv ws1 1, (.int .i64 (add .i64 n18 1))] h8) (
              ld Try.prog h8 3 (nx h6) (off 0 1) fun v9 =>
              asI .i64 v9 fun n19 =>
              asI .i64 (gv ws1 1) fun n20 =>
              ifB (eq n19 n20) (
                ld Try.prog h8 3 (nx h6) 0 fun v10 =>
                asI .i64 v10 fun n21 =>
                asI .i64 (gv ws0 1) fun n22 =>
                nn n21 (
                  ifB (eq (and .i64 (shr .i64 n22 n21) 1) 1) (
                    asI .i64 (gv ws2 1) fun n23 =>
                    out .normal [gv ws1 1, (.int .i64 (add .i64 n23 1))] h8) (
                    asI .i64 (gv ws2 1) fun n24 =>
                    out .normal [gv ws2 0, (.int .i64 (add .i64 n24 1))] h8))) (
                asI .i64 (gv ws2 1) fun n25 =>
                out .normal [gv ws2 0, (.int .i64 (add .i64 n25 1))] h8)))) (
          ld Try.prog h8 3 (nx h6) (off 0 1) fun v11 =>
          asI .i64 v11 fun n26 =>
          asI .i64 (gv ws1 1) fun n27 =>
          ifB (eq n26 n27) (
            ld Try.prog h8 3 (nx h6) 0 fun v12 =>
            asI .i64 v12 fun n28 =>
            asI .i64 (gv ws0 1) fun n29 =>
            nn n28 (
              ifB (eq (and .i64 (shr .i64 n29 n28) 1) 1) (
                asI .i64 (gv ws2 1) fun n30 =>
                out .normal [gv ws1 1, (.int .i64 (add .i64 n30 1))] h8) (
                asI .i64 (gv ws2 1) fun n31 =>
                out .normal [gv ws2 0, (.int .i64 (add .i64 n31 1))] h8))) (
            asI .i64 (gv ws2 1) fun n32 =>
            out .normal [gv ws2 0, (.int .i64 (add .i64 n32 1))] h8))) (
        asI .i64 (gv ws2 1) fun n33 =>
        out .normal [gv ws2 0, (.int .i64 (add .i64 n33 1))] h8))) (
    out (.exit 4) [gv ws2 0, gv ws2 1] h6)

noncomputable def f86_l4 (_rec : Rec) (_k : Nat) (n0 : Int) (ws0 : List Value) (ws1 : List Value) (v13 : Value) (n35 : Int) (ws4 : List Value) (h10 : H) : Option (Ex × List Value × H) :=
  asI .i64 (gv ws4 1) fun n36 =>
  ifB (lt n36 n35) (
    asK (gv ws4 1) fun n37 =>
    six v13 n37 4 fun b2 b3 =>
    ld Try.prog h10 89 b2 b3 fun v14 =>
    al h10 89 [(.int .i64 0), (.int .i64 0), (.int .i64 0), (.int .i64 0)] fun h11 =>
    st Try.prog h11 89 (nx h10) 0 v14 fun h12 =>
    asK (gv ws4 1) fun n38 =>
    nn n38 (
      ifB (eq (and .i64 (shr .i64 n0 n38) 1) 1) (
        ld Try.prog h12 3 (nx h10) 0 fun v15 =>
        asI .i64 v15 fun n39 =>
        asI .i64 (gv ws1 1) fun n40 =>
        ifB (eq n39 n40) (
          ld Try.prog h12 3 (nx h10) (off 0 1) fun v16 =>
          asI .i64 v16 fun n41 =>
          asI .i64 (gv ws0 1) fun n42 =>
          nn n41 (
            ifB (eq (and .i64 (shr .i64 n42 n41) 1) 1) (
              asI .i64 (gv ws4 1) fun n43 =>
              out .normal [gv ws1 1, (.int .i64 (add .i64 n43 1))] h12) (
              ld Try.prog h12 3 (nx h10) (off 0 1) fun v17 =>
              asI .i64 v17 fun n44 =>
              asI .i64 (gv ws1 1) fun n45 =>
              ifB (eq n44 n45) (
                ld Try.prog h12 3 (nx h10) 0 fun v18 =>
                asI .i64 v18 fun n46 =>
                asI .i64 (gv ws0 1) fun n47 =>
                nn n46 (
                  ifB (eq (and .i64 (shr .i64 n47 n46) 1) 1) (
                    asI .i64 (gv ws4 1) fun n48 =>
                    out .normal [gv ws1 1, (.int .i64 (add .i64 n48 1))] h12) (
                    asI .i64 (gv ws4 1) fun n49 =>
                    out .normal [gv ws4 0, (.int .i64 (add .i64 n49 1))] h12))) (
                asI .i64 (gv ws4 1) fun n50 =>
                out .normal [gv ws4 0, (.int .i64 (add .i64 n50 1))] h12)))) (
          ld Try.prog h12 3 (nx h10) (off 0 1) fun v19 =>
          asI .i64 v19 fun n51 =>
          asI .i64 (gv ws1 1) fun n52 =>
          ifB (eq n51 n52) (
            ld Try.prog h12 3 (nx h10) 0 fun v20 =>
            asI .i64 v20 fun n53 =>
            asI .i64 (gv ws0 1) fun n54 =>
            nn n53 (
              ifB (eq (and .i64 (shr .i64 n54 n53) 1) 1) (
                asI .i64 (gv ws4 1) fun n55 =>
                out .normal [gv ws1 1, (.int .i64 (add .i64 n55 1))] h12) (
                asI .i64 (gv ws4 1) fun n56 =>
                out .normal [gv ws4 0, (.int .i64 (add .i64 n56 1))] h12))) (
            asI .i64 (gv ws4 1) fun n57 =>
            out .normal [gv ws4 0, (.int .i64 (add .i64 n57 1))] h12))) (
        asI .i64 (gv ws4 1) fun n58 =>
        out .normal [gv ws4 0, (.int .i64 (add .i64 n58 1))] h12))) (
    out (.exit 4) [gv ws4 0, gv ws4 1] h10)

noncomputable def f86_l2 (rec : Rec) (k : Nat) (n0 : Int) (h0 : H) (ws0 : List Value) (n4 : Int) (ws1 : List Value) (h5 : H) : Option (Ex × List Value × H) :=
  asI .i64 (gv ws1 1) fun n5 =>
  ifB (lt n5 n4) (
    asI .i64 (gv ws0 1) fun n6 =>
    asK (gv ws1 1) fun n7 =>
    nn n7 (
      ifB (eq (and .i64 (shr .i64 n6 n7) 1) 1) (
        asI .i64 (gv ws1 1) fun n8 =>
        out .normal [gv ws1 0, (.int .i64 (add .i64 n8 1))] h5) (
        asI .i64 (gv ws1 0) fun n9 =>
        ifB (lt n9 0) (
          ld Try.prog h5 45 (nx h0) (off 0 2) fun v5 =>
          len v5 fun n10 =>
          lp k (f86_l3 rec k n0 ws0 ws1 v5 n10) [gv ws1 1, (.int .i64 0)] h5 fun e0 ws3 h9 =>
          onE e0 4 (
            asI .i64 (gv ws1 1) fun n34 =>
            out .normal [gv ws3 0, (.int .i64 (add .i64 n34 1))] h9) (
            none)) (
          ld Try.prog h5 45 (nx h0) (off 0 2) fun v13 =>
          len v13 fun n35 =>
          lp k (f86_l4 rec k n0 ws0 ws1 v13 n35) [gv ws1 0, (.int .i64 0)] h5 fun e1 ws5 h13 =>
          onE e1 4 (
            asI .i64 (gv ws1 1) fun n59 =>
            out .normal [gv ws5 0, (.int .i64 (add .i64 n59 1))] h13) (
            none))))) (
    out (.exit 2) [gv ws1 0, gv ws1 1] h5)

noncomputable def f86_l1 (rec : Rec) (k : Nat) (n0 : Int) (h0 : H) (v2 : Value) (ws0 : List Value) (h4 : H) : Option (Ex × List Value × H) :=
  len (gv ws0 0) fun n2 =>
  ld Try.prog h4 3 (nx h0) (off 0 1) fun v3 =>
  asI .i64 v3 fun n3 =>
  ifB (lt n2 n3) (
    ld Try.prog h4 3 (nx h0) (off 0 1) fun v4 =>
    asI .i64 v4 fun n4 =>
    lp k (f86_l2 rec k n0 h0 ws0 n4) [(.int .i64 (-1)), (.int .i64 0)] h4 fun e2 ws6 h14 =>
    onE e2 2 (
      len (gv ws0 0) fun n60 =>
      asK (gv ws6 0) fun n61 =>
      six v2 n61 1 fun b4 b5 =>
      st Try.prog h14 3 b4 b5 (.int .i64 n60) fun h15 =>
      bls Try.prog h15 22 1 [(0, gv ws6 0)] fun v21 h16 =>
      app Try.prog h16 22 22 (gv ws0 0) v21 fun v22 h17 =>
      asK (gv ws6 0) fun n62 =>
      nn n62 (
        asI .i64 (gv ws0 1) fun n63 =>
        out .normal [v22, (.int .i64 (or .i64 n63 (shl .i64 1 n62)))] h17)) (
      none)) (
    out (.exit 0) [gv ws0 0, gv ws0 1] h4)

noncomputable def f86_l5 (_rec : Rec) (_k : Nat) (n0 : Int) (v2 : Value) (h18 : H) (v26 : Value) (n66 : Int) (ws8 : List Value) (h21 : H) : Option (Ex × List Value × H) :=
  asI .i64 (gv ws8 0) fun n67 =>
  ifB (lt n67 n66) (
    asK (gv ws8 0) fun n68 =>
    six v26 n68 4 fun b6 b7 =>
    ld Try.prog h21 89 b6 b7 fun v27 =>
    al h21 89 [(.int .i64 0), (.int .i64 0), (.int .i64 0), (.int .i64 0)] fun h22 =>
    st Try.prog h22 89 (nx h21) 0 v27 fun h23 =>
    asK (gv ws8 0) fun n69 =>
    nn n69 (
      ifB (eq (and .i64 (shr .i64 n0 n69) 1) 1) (
        ld Try.prog h23 45 (nx h18) (off 0 2) fun v28 =>
        ld Try.prog h23 3 (nx h21) 0 fun v29 =>
        asI .i64 v29 fun n70 =>
        six v2 n70 1 fun b8 b9 =>
        ld Try.prog h23 3 b8 b9 fun v30 =>
        asI .i64 v30 fun n71 =>
        ld Try.prog h23 3 (nx h21) (off 0 1) fun v31 =>
        asI .i64 v31 fun n72 =>
        six v2 n72 1 fun b10 b11 =>
        ld Try.prog h23 3 b10 b11 fun v32 =>
        asI .i64 v32 fun n73 =>
        ld Try.prog h23 3 (nx h21) (off 0 2) fun v33 =>
        asI .i64 v33 fun n74 =>
        ld Try.prog h23 3 (nx h21) (off 0 3) fun v34 =>
        asI .i64 v34 fun n75 =>
        bld Try.prog 89 [(0, (.int .i64 n71)), (1, (.int .i64 n73)), (2, (.int .i64 n74)), (3, (.int .i64 n75))] fun v35 =>
        bls Try.prog h23 45 1 [(0, v35)] fun v36 h24 =>
        ck (freq (nx h18) (nx h23) (same h24 h23)) (
          app Try.prog h24 45 45 v28 v36 fun v37 h25 =>
          st Try.prog h25 45 (nx h18) (off 0 2) v37 fun h26 =>
          asI .i64 (gv ws8 0) fun n76 =>
          out .normal [(.int .i64 (add .i64 n76 1))] h26)) (
        asI .i64 (gv ws8 0) fun n77 =>
        out .normal [(.int .i64 (add .i64 n77 1))] h23))) (
    out (.exit 6) [gv ws8 0] h21)

noncomputable def f86 (rec : Rec) (k : Nat) (v0 : Value) (n0 : Int) (h0 : H) : Option (Value × H) :=
  bx h0 47 v0 fun h1 =>
  al h1 47 [(.int .i64 0), (.int .i64 0), (.slice none 0 0)] fun h2 =>
  ld Try.prog h2 3 (nx h0) (off 0 1) fun v1 =>
  asI .i64 v1 fun n1 =>
  mks Try.prog h2 22 n1 n1 fun v2 h3 =>
  lp k (f86_l1 rec k n0 h0 v2) [(.slice none 0 0), (.int .i64 0)] h3 fun e3 _ h18 =>
  onE e3 0 (
    ld Try.prog h18 3 (nx h0) 0 fun v23 =>
    asI .i64 v23 fun n64 =>
    ld Try.prog h18 3 (nx h0) (off 0 1) fun v24 =>
    asI .i64 v24 fun n65 =>
    bld Try.prog 47 [(0, (.int .i64 n64)), (1, (.int .i64 n65))] fun v25 =>
    al h18 47 [(.int .i64 0), (.int .i64 0), (.slice none 0 0)] fun h19 =>
    st Try.prog h19 47 (nx h18) 0 v25 fun h20 =>
    ld Try.prog h20 45 (nx h0) (off 0 2) fun v26 =>
    len v26 fun n66 =>
    lp k (f86_l5 rec k n0 v2 h18 v26 n66) [(.int .i64 0)] h20 fun e4 _ h27 =>
    onE e4 6 (
      ld Try.prog h27 47 (nx h18) 0 fun v38 =>
      st Try.prog h27 47 (nx h1) 0 v38 fun h28 =>
      ld Try.prog h28 47 (nx h1) 0 fun v39 =>
      some (v39, h28)) (
      none)) (
    none)

theorem e86 (rec : Rec) (k : Nat) (v0 : Value) (n0 : Int) (h : H) : bodyT Try.prog E0 SC (XC Try.prog rec k) 86 (Value × H) [.opq v0, .int .i64 n0] h (fun v h => some (v, h)) = f86 rec k v0 n0 h := by kernel_rfl
theorem t86 {k : Nat} {v0 : Value} {n0 : Int} {h h1 : H} {v : Value} (hh : f86 rn k v0 n0 h = some (v, h1)) : rn 86 #[v0, .int .i64 n0] h = some (v, trunc Try.prog h h1 v) :=
  run_of_bodyT (args := [.opq v0, .int .i64 n0]) rfl ((e86 _ _ _ _ _).trans hh)
theorem p86 {k : Nat} {v0 : Value} {n0 : Int} {h h1 : H} {v : Value} (hh : f86 rn k v0 n0 h = some (v, h1)) (hp : plainO v = true) (x : Ext h h1) : rn 86 #[v0, .int .i64 n0] h = some (v, h) := by rw [t86 hh, trunc_pure hp x]
theorem x86 {k : Nat} {v0 : Value} {n0 : Int} {h h1 : H} {v : Value} (hh : f86 rn k v0 n0 h = some (v, h1)) (hp : plainO v = false) : rn 86 #[v0, .int .i64 n0] h = some (v, h1) := by rw [t86 hh, trunc_not hp]

noncomputable def f101 (_rec : Rec) (_k : Nat) (v0 : Value) (h0 : H) : Option (Value × H) :=
  asI .u64 v0 fun n0 =>
  nn 1 (
    asI .u64 v0 fun n1 =>
    nn 2 (
      nn 4 (
        nn 8 (
          nn 16 (
            nn 32 (
              some ((.int .i64 (and .i64 (wr .i64 (add .u64 (add .u64 (add .u64 (and .u64 (add .u64 (shr .u64 (add .u64 (and .u64 (shr .u64 (add .u64 (and .u64 (shr .u64 n0 1) 6148914691236517205) (and .u64 n1 6148914691236517205)) 2) 3689348814741910323) (and .u64 (add .u64 (and .u64 (shr .u64 n0 1) 6148914691236517205) (and .u64 n1 6148914691236517205)) 3689348814741910323)) 4) (add .u64 (and .u64 (shr .u64 (add .u64 (and .u64 (shr .u64 n0 1) 6148914691236517205) (and .u64 n1 6148914691236517205)) 2) 3689348814741910323) (and .u64 (add .u64 (and .u64 (shr .u64 n0 1) 6148914691236517205) (and .u64 n1 6148914691236517205)) 3689348814741910323))) 1085102592571150095) (shr .u64 (and .u64 (add .u64 (shr .u64 (add .u64 (and .u64 (shr .u64 (add .u64 (and .u64 (shr .u64 n0 1) 6148914691236517205) (and .u64 n1 6148914691236517205)) 2) 3689348814741910323) (and .u64 (add .u64 (and .u64 (shr .u64 n0 1) 6148914691236517205) (and .u64 n1 6148914691236517205)) 3689348814741910323)) 4) (add .u64 (and .u64 (shr .u64 (add .u64 (and .u64 (shr .u64 n0 1) 6148914691236517205) (and .u64 n1 6148914691236517205)) 2) 3689348814741910323) (and .u64 (add .u64 (and .u64 (shr .u64 n0 1) 6148914691236517205) (and .u64 n1 6148914691236517205)) 3689348814741910323))) 1085102592571150095) 8)) (shr .u64 (add .u64 (and .u64 (add .u64 (shr .u64 (add .u64 (and .u64 (shr .u64 (add .u64 (and .u64 (shr .u64 n0 1) 6148914691236517205) (and .u64 n1 6148914691236517205)) 2) 3689348814741910323) (and .u64 (add .u64 (and .u64 (shr .u64 n0 1) 6148914691236517205) (and .u64 n1 6148914691236517205)) 3689348814741910323)) 4) (add .u64 (and .u64 (shr .u64 (add .u64 (and .u64 (shr .u64 n0 1) 6148914691236517205) (and .u64 n1 6148914691236517205)) 2) 3689348814741910323) (and .u64 (add .u64 (and .u64 (shr .u64 n0 1) 6148914691236517205) (and .u64 n1 6148914691236517205)) 3689348814741910323))) 1085102592571150095) (shr .u64 (and .u64 (add .u64 (shr .u64 (add .u64 (and .u64 (shr .u64 (add .u64 (and .u64 (shr .u64 n0 1) 6148914691236517205) (and .u64 n1 6148914691236517205)) 2) 3689348814741910323) (and .u64 (add .u64 (and .u64 (shr .u64 n0 1) 6148914691236517205) (and .u64 n1 6148914691236517205)) 3689348814741910323)) 4) (add .u64 (and .u64 (shr .u64 (add .u64 (and .u64 (shr .u64 n0 1) 6148914691236517205) (and .u64 n1 6148914691236517205)) 2) 3689348814741910323) (and .u64 (add .u64 (and .u64 (shr .u64 n0 1) 6148914691236517205) (and .u64 n1 6148914691236517205)) 3689348814741910323))) 1085102592571150095) 8)) 16)) (shr .u64 (add .u64 (add .u64 (and .u64 (add .u64 (shr .u64 (add .u64 (and .u64 (shr .u64 (add .u64 (and .u64 (shr .u64 n0 1) 6148914691236517205) (and .u64 n1 6148914691236517205)) 2) 3689348814741910323) (and .u64 (add .u64 (and .u64 (shr .u64 n0 1) 6148914691236517205) (and .u64 n1 6148914691236517205)) 3689348814741910323)) 4) (add .u64 (and .u64 (shr .u64 (add .u64 (and .u64 (shr .u64 n0 1) 6148914691236517205) (and .u64 n1 6148914691236517205)) 2) 3689348814741910323) (and .u64 (add .u64 (and .u64 (shr .u64 n0 1) 6148914691236517205) (and .u64 n1 6148914691236517205)) 3689348814741910323))) 1085102592571150095) (shr .u64 (and .u64 (add .u64 (shr .u64 (add .u64 (and .u64 (shr .u64 (add .u64 (and .u64 (shr .u64 n0 1) 6148914691236517205) (and .u64 n1 6148914691236517205)) 2) 3689348814741910323) (and .u64 (add .u64 (and .u64 (shr .u64 n0 1) 6148914691236517205) (and .u64 n1 6148914691236517205)) 3689348814741910323)) 4) (add .u64 (and .u64 (shr .u64 (add .u64 (and .u64 (shr .u64 n0 1) 6148914691236517205) (and .u64 n1 6148914691236517205)) 2) 3689348814741910323) (and .u64 (add .u64 (and .u64 (shr .u64 n0 1) 6148914691236517205) (and .u64 n1 6148914691236517205)) 3689348814741910323))) 1085102592571150095) 8)) (shr .u64 (add .u64 (and .u64 (add .u64 (shr .u64 (add .u64 (and .u64 (shr .u64 (add .u64 (and .u64 (shr .u64 n0 1) 6148914691236517205) (and .u64 n1 6148914691236517205)) 2) 3689348814741910323) (and .u64 (add .u64 (and .u64 (shr .u64 n0 1) 6148914691236517205) (and .u64 n1 6148914691236517205)) 3689348814741910323)) 4) (add .u64 (and .u64 (shr .u64 (add .u64 (and .u64 (shr .u64 n0 1) 6148914691236517205) (and .u64 n1 6148914691236517205)) 2) 3689348814741910323) (and .u64 (add .u64 (and .u64 (shr .u64 n0 1) 6148914691236517205) (and .u64 n1 6148914691236517205)) 3689348814741910323))) 1085102592571150095) (shr .u64 (and .u64 (add .u64 (shr .u64 (add .u64 (and .u64 (shr .u64 (add .u64 (and .u64 (shr .u64 n0 1) 6148914691236517205) (and .u64 n1 6148914691236517205)) 2) 3689348814741910323) (and .u64 (add .u64 (and .u64 (shr .u64 n0 1) 6148914691236517205) (and .u64 n1 6148914691236517205)) 3689348814741910323)) 4) (add .u64 (and .u64 (shr .u64 (add .u64 (and .u64 (shr .u64 n0 1) 6148914691236517205) (and .u64 n1 6148914691236517205)) 2) 3689348814741910323) (and .u64 (add .u64 (and .u64 (shr .u64 n0 1) 6148914691236517205) (and .u64 n1 6148914691236517205)) 3689348814741910323))) 1085102592571150095) 8)) 16)) 32))) 127)), h0)))))))

theorem e101 (rec : Rec) (k : Nat) (v0 : Value) (h : H) : bodyT Try.prog E0 SC (XC Try.prog rec k) 101 (Value × H) [.opq v0] h (fun v h => some (v, h)) = f101 rec k v0 h := by kernel_rfl
theorem t101 {k : Nat} {v0 : Value} {h h1 : H} {v : Value} (hh : f101 rn k v0 h = some (v, h1)) : rn 101 #[v0] h = some (v, trunc Try.prog h h1 v) :=
  run_of_bodyT (args := [.opq v0]) rfl ((e101 _ _ _ _).trans hh)
theorem p101 {k : Nat} {v0 : Value} {h h1 : H} {v : Value} (hh : f101 rn k v0 h = some (v, h1)) (hp : plainO v = true) (x : Ext h h1) : rn 101 #[v0] h = some (v, h) := by rw [t101 hh, trunc_pure hp x]
theorem x101 {k : Nat} {v0 : Value} {h h1 : H} {v : Value} (hh : f101 rn k v0 h = some (v, h1)) (hp : plainO v = false) : rn 101 #[v0] h = some (v, h1) := by rw [t101 hh, trunc_not hp]

end Go.AM
