/- The staged forms of functions 44, 90, 46, 91, 107, 108, 43, 40, 45, 47, 92, 9, 10, and what calls of these answer. -/
import Derived.Test.YtakhklelgcfgjaaDoorSx
namespace Go.AM
open Go.Proofs

noncomputable def f44 (rec : Rec) (_k : Nat) (v0 : Value) (h0 : H) : Option (Value × H) :=
  calls rec h0 63 [v0] fun v1 h1 =>
  ext v1 0 fun v2 =>
  ext v1 1 fun v3 =>
  asB v3 fun q0 =>
  ifB (not q0) (
    some ((.tuple #[(.slice none 0 0), (.int .i64 2)]), h1)) (
    calls rec h1 90 [v2] fun v4 h2 =>
    some ((.tuple #[v4, (.int .i64 0)]), h2))

theorem e44 (rec : Rec) (k : Nat) (v0 : Value) (h : H) : bodyT Tryd.prog E0 SC (XC Tryd.prog rec k) 44 (Value × H) [.opq v0] h (fun v h => some (v, h)) = f44 rec k v0 h := by kernel_rfl
theorem t44 {k : Nat} {v0 : Value} {h h1 : H} {v : Value} (hh : f44 rn k v0 h = some (v, h1)) : rn 44 #[v0] h = some (v, trunc Tryd.prog h h1 v) :=
  run_of_bodyT (args := [.opq v0]) rfl ((e44 _ _ _ _).trans hh)
theorem p44 {k : Nat} {v0 : Value} {h h1 : H} {v : Value} (hh : f44 rn k v0 h = some (v, h1)) (hp : plainO v = true) (x : Ext h h1) : rn 44 #[v0] h = some (v, h) := by rw [t44 hh, trunc_pure hp x]
theorem x44 {k : Nat} {v0 : Value} {h h1 : H} {v : Value} (hh : f44 rn k v0 h = some (v, h1)) (hp : plainO v = false) : ∃ h2, rn 44 #[v0] h = some (v, h2) ∧ Sm h1 h2 ∧ (Ext h h1 → Exw h h2) := trunc_cell hp (t44 hh)
theorem y44 {k : Nat} {v0 : Value} {h : H} {v : Value} (hh : f44 rn k v0 h = some (v, h)) : rn 44 #[v0] h = some (v, h) := by rw [t44 hh, trunc_self]

noncomputable def f90_l1 (rec : Rec) (_k : Nat) (v0 : Value) (ws0 : List Value) (h1 : H) : Option (Ex × List Value × H) :=
  calls rec h1 65 [v0] fun v1 h2 =>
  asI .i64 v1 fun n0 =>
  asI .i64 (gv ws0 1) fun n1 =>
  ifB (le n1 n0) (
    calls rec h2 93 [gv ws0 1] fun v2 h3 =>
    asI .i64 v2 fun n2 =>
    ifB (eq n2 1) (
      asI .i64 (gv ws0 1) fun n3 =>
      calls rec h3 89 [(.int .u64 (wr .u64 n3))] fun v3 h4 =>
      asI .i64 v3 fun n4 =>
      six v0 n4 1 fun b0 b1 =>
      ld Tryd.prog h4 3 b0 b1 fun v4 =>
      asI .i64 v4 fun n5 =>
      ifB (eq n5 0) (
        bls Tryd.prog h4 22 1 [(0, gv ws0 1)] fun v5 h5 =>
        app Tryd.prog h5 22 22 (gv ws0 0) v5 fun v6 h6 =>
        asI .i64 (gv ws0 1) fun n6 =>
        out .normal [v6, (.int .i64 (add .i64 n6 1))] h6) (
        calls rec h4 93 [gv ws0 1] fun v7 h7 =>
        asI .i64 v7 fun n7 =>
        ifB (lt 1 n7) (
          calls rec h7 64 [v0, gv ws0 1] fun v8 h8 =>
          asB v8 fun q0 =>
          ifB q0 (
            calls rec h8 70 [v0, gv ws0 1] fun v9 h9 =>
            asI .i64 v9 fun n8 =>
            ifB (eq n8 0) (
              bls Tryd.prog h9 22 1 [(0, gv ws0 1)] fun v10 h10 =>
              app Tryd.prog h10 22 22 (gv ws0 0) v10 fun v11 h11 =>
              asI .i64 (gv ws0 1) fun n9 =>
              out .normal [v11, (.int .i64 (add .i64 n9 1))] h11) (
              asI .i64 (gv ws0 1) fun n10 =>
              out .normal [gv ws0 0, (.int .i64 (add .i64 n10 1))] h9)) (
            asI .i64 (gv ws0 1) fun n11 =>
            out .normal [gv ws0 0, (.int .i64 (add .i64 n11 1))] h8)) (
          asI .i64 (gv ws0 1) fun n12 =>
          out .normal [gv ws0 0, (.int .i64 (add .i64 n12 1))] h7))) (
      calls rec h3 93 [gv ws0 1] fun v12 h12 =>
      asI .i64 v12 fun n13 =>
      ifB (lt 1 n13) (
        calls rec h12 64 [v0, gv ws0 1] fun v13 h13 =>
        asB v13 fun q1 =>
        ifB q1 (
          calls rec h13 70 [v0, gv ws0 1] fun v14 h14 =>
          asI .i64 v14 fun n14 =>
          ifB (eq n14 0) (
            bls Tryd.prog h14 22 1 [(0, gv ws0 1)] fun v15 h15 =>
            app Tryd.prog h15 22 22 (gv ws0 0) v15 fun v16 h16 =>
            asI .i64 (gv ws0 1) fun n15 =>
            out .normal [v16, (.int .i64 (add .i64 n15 1))] h16) (
            asI .i64 (gv ws0 1) fun n16 =>
            out .normal [gv ws0 0, (.int .i64 (add .i64 n16 1))] h14)) (
          asI .i64 (gv ws0 1) fun n17 =>
          out .normal [gv ws0 0, (.int .i64 (add .i64 n17 1))] h13)) (
        asI .i64 (gv ws0 1) fun n18 =>
        out .normal [gv ws0 0, (.int .i64 (add .i64 n18 1))] h12))) (
    out (.exit 0) [gv ws0 0, gv ws0 1] h2)

noncomputable def f90_l2 (rec : Rec) (_k : Nat) (ws1 : List Value) (n19 : Int) (ws2 : List Value) (h18 : H) : Option (Ex × List Value × H) :=
  asI .i64 (gv ws2 1) fun n20 =>
  ifB (lt n20 n19) (
    asK (gv ws2 1) fun n21 =>
    six (gv ws1 0) n21 1 fun b2 b3 =>
    ld Tryd.prog h18 3 b2 b3 fun v17 =>
    asI .i64 v17 fun n22 =>
    al h18 3 [(.int .i64 0)] fun h19 =>
    st Tryd.prog h19 3 (nx h18) 0 (.int .i64 n22) fun h20 =>
    calls rec h20 91 [gv ws1 0, (.func (.func 107) #[] #[(pt (nx h18) 0)])] fun v18 h21 =>
    asB v18 fun q2 =>
    ifB (not q2) (
      ld Tryd.prog h21 3 (nx h18) 0 fun v19 =>
      asI .i64 v19 fun n23 =>
      bls Tryd.prog h21 22 1 [(0, (.int .i64 n23))] fun v20 h22 =>
      app Tryd.prog h22 22 22 (gv ws2 0) v20 fun v21 h23 =>
      asI .i64 (gv ws2 1) fun n24 =>
      out .normal [v21, (.int .i64 (add .i64 n24 1))] h23) (
      asI .i64 (gv ws2 1) fun n25 =>
      out .normal [gv ws2 0, (.int .i64 (add .i64 n25 1))] h21)) (
    out (.exit 2) [gv ws2 0, gv ws2 1] h18)

noncomputable def f90 (rec : Rec) (k : Nat) (v0 : Value) (h0 : H) : Option (Value × H) :=
  lp k (f90_l1 rec k v0) [(.slice none 0 0), (.int .i64 1)] h0 fun e0 ws1 h17 =>
  onE e0 0 (
    len (gv ws1 0) fun n19 =>
    lp k (f90_l2 rec k ws1 n19) [(.slice none 0 0), (.int .i64 0)] h17 fun e1 ws3 h24 =>
    onE e1 2 (
      some (gv ws3 0, h24)) (
      none)) (
    none)

theorem e90 (rec : Rec) (k : Nat) (v0 : Value) (h : H) : bodyT Tryd.prog E0 SC (XC Tryd.prog rec k) 90 (Value × H) [.opq v0] h (fun v h => some (v, h)) = f90 rec k v0 h := by kernel_rfl
theorem t90 {k : Nat} {v0 : Value} {h h1 : H} {v : Value} (hh : f90 rn k v0 h = some (v, h1)) : rn 90 #[v0] h = some (v, trunc Tryd.prog h h1 v) :=
  run_of_bodyT (args := [.opq v0]) rfl ((e90 _ _ _ _).trans hh)
theorem p90 {k : Nat} {v0 : Value} {h h1 : H} {v : Value} (hh : f90 rn k v0 h = some (v, h1)) (hp : plainO v = true) (x : Ext h h1) : rn 90 #[v0] h = some (v, h) := by rw [t90 hh, trunc_pure hp x]
theorem x90 {k : Nat} {v0 : Value} {h h1 : H} {v : Value} (hh : f90 rn k v0 h = some (v, h1)) (hp : plainO v = false) : ∃ h2, rn 90 #[v0] h = some (v, h2) ∧ Sm h1 h2 ∧ (Ext h h1 → Exw h h2) := trunc_cell hp (t90 hh)
theorem y90 {k : Nat} {v0 : Value} {h : H} {v : Value} (hh : f90 rn k v0 h = some (v, h)) : rn 90 #[v0] h = some (v, h) := by rw [t90 hh, trunc_self]

noncomputable def f46_l3 (_rec : Rec) (_k : Nat) (ws1 : List Value) (n10 : Int) (ws2 : List Value) (h7 : H) : Option (Ex × List Value × H) :=
  asI .i64 (gv ws2 1) fun n11 =>
  ifB (lt n11 n10) (
    asK (gv ws2 1) fun n12 =>
    six (gv ws1 0) n12 1 fun b0 b1 =>
    ld Tryd.prog h7 3 b0 b1 fun v5 =>
    asI .i64 v5 fun n13 =>
    asB (gv ws2 0) fun q1 =>
    ifB q1 (
      asI .i64 (gv ws2 1) fun n14 =>
      out .normal [(.bool true), (.int .i64 (add .i64 n14 1))] h7) (
      asI .i64 (gv ws1 1) fun n15 =>
      asI .i64 (gv ws2 1) fun n16 =>
      out .normal [(.bool (eq (andNot .i64 n15 n13) 0)), (.int .i64 (add .i64 n16 1))] h7)) (
    out (.exit 4) [gv ws2 0, gv ws2 1] h7)

noncomputable def f46_l2 (rec : Rec) (k : Nat) (v0 : Value) (ws0 : List Value) (n2 : Int) (ws1 : List Value) (h3 : H) : Option (Ex × List Value × H) :=
  asI .i64 (gv ws1 1) fun n3 =>
  ifB (lt n3 (add .i64 n2 1)) (
    calls rec h3 43 [gv ws1 1] fun v2 h4 =>
    asI .i64 v2 fun n4 =>
    asI .i64 (gv ws0 1) fun n5 =>
    ifB (not (eq n4 n5)) (
      asI .i64 (gv ws1 1) fun n6 =>
      out .normal [gv ws1 0, (.int .i64 (add .i64 n6 1))] h4) (
      calls rec h4 67 [v0, gv ws1 1] fun v3 h5 =>
      asB v3 fun q0 =>
      ifB (not q0) (
        asI .i64 (gv ws1 1) fun n7 =>
        out .normal [gv ws1 0, (.int .i64 (add .i64 n7 1))] h5) (
        calls rec h5 74 [v0, gv ws1 1] fun v4 h6 =>
        asI .i64 v4 fun n8 =>
        ifB (not (eq n8 0)) (
          asI .i64 (gv ws1 1) fun n9 =>
          out .normal [gv ws1 0, (.int .i64 (add .i64 n9 1))] h6) (
          len (gv ws1 0) fun n10 =>
          lp k (f46_l3 rec k ws1 n10) [(.bool false), (.int .i64 0)] h6 fun e0 ws3 h8 =>
          onE e0 4 (
            asB (gv ws3 0) fun q2 =>
            ifB (not q2) (
              bls Tryd.prog h8 22 1 [(0, gv ws1 1)] fun v6 h9 =>
              app Tryd.prog h9 22 22 (gv ws1 0) v6 fun v7 h10 =>
              asI .i64 (gv ws1 1) fun n17 =>
              out .normal [v7, (.int .i64 (add .i64 n17 1))] h10) (
              asI .i64 (gv ws1 1) fun n18 =>
              out .normal [gv ws1 0, (.int .i64 (add .i64 n18 1))] h8)) (
            none))))) (
    out (.exit 2) [gv ws1 0, gv ws1 1] h3)

noncomputable def f46_l1 (rec : Rec) (k : Nat) (v0 : Value) (ws0 : List Value) (h1 : H) : Option (Ex × List Value × H) :=
  asI .i64 (gv ws0 1) fun n1 =>
  ifB (le 2 n1) (
    calls rec h1 68 [v0] fun v1 h2 =>
    asI .i64 v1 fun n2 =>
    lp k (f46_l2 rec k v0 ws0 n2) [gv ws0 0, (.int .i64 0)] h2 fun e1 ws4 h11 =>
    onE e1 2 (
      asI .i64 (gv ws0 1) fun n19 =>
      out .normal [gv ws4 0, (.int .i64 (sub .i64 n19 1))] h11) (
      none)) (
    out (.exit 0) [gv ws0 0, gv ws0 1] h1)

noncomputable def f46_l4 (_rec : Rec) (_k : Nat) (v0 : Value) (n20 : Int) (ws6 : List Value) (h13 : H) : Option (Ex × List Value × H) :=
  asI .i64 (gv ws6 1) fun n21 =>
  ifB (lt n21 n20) (
    asK (gv ws6 1) fun n22 =>
    six v0 n22 1 fun b2 b3 =>
    ld Tryd.prog h13 3 b2 b3 fun v8 =>
    asI .i64 v8 fun n23 =>
    ifB (eq n23 0) (
      asK (gv ws6 1) fun n24 =>
      nn n24 (
        bls Tryd.prog h13 22 1 [(0, (.int .i64 (shl .i64 1 n24)))] fun v9 h14 =>
        app Tryd.prog h14 22 22 (gv ws6 0) v9 fun v10 h15 =>
        asI .i64 (gv ws6 1) fun n25 =>
        out .normal [v10, (.int .i64 (add .i64 n25 1))] h15)) (
      asI .i64 (gv ws6 1) fun n26 =>
      out .normal [gv ws6 0, (.int .i64 (add .i64 n26 1))] h13)) (
    out (.exit 6) [gv ws6 0, gv ws6 1] h13)

noncomputable def f46_l6 (_rec : Rec) (_k : Nat) (ws7 : List Value) (ws8 : List Value) (n29 : Int) (ws9 : List Value) (h19 : H) : Option (Ex × List Value × H) :=
  asI .i64 (gv ws9 1) fun n30 =>
  ifB (lt n30 n29) (
    asK (gv ws9 1) fun n31 =>
    six (gv ws7 0) n31 1 fun b4 b5 =>
    ld Tryd.prog h19 3 b4 b5 fun v12 =>
    asI .i64 v12 fun n32 =>
    asI .i64 (gv ws8 1) fun n33 =>
    ifB (eq n32 n33) (
      bls Tryd.prog h19 22 1 [(0, (.int .i64 n32))] fun v13 h20 =>
      app Tryd.prog h20 22 22 (gv ws9 0) v13 fun v14 h21 =>
      asI .i64 (gv ws9 1) fun n34 =>
      out .normal [v14, (.int .i64 (add .i64 n34 1))] h21) (
      asI .i64 (gv ws9 1) fun n35 =>
      out .normal [gv ws9 0, (.int .i64 (add .i64 n35 1))] h19)) (
    out (.exit 10) [gv ws9 0, gv ws9 1] h19)

noncomputable def f46_l5 (rec : Rec) (k : Nat) (ws7 : List Value) (n27 : Int) (ws8 : List Value) (h18 : H) : Option (Ex × List Value × H) :=
  asI .i64 (gv ws8 1) fun n28 =>
  ifB (lt n28 (add .i64 n27 1)) (
    len (gv ws7 0) fun n29 =>
    lp k (f46_l6 rec k ws7 ws8 n29) [gv ws8 0, (.int .i64 0)] h18 fun e4 ws10 h22 =>
    onE e4 10 (
      asI .i64 (gv ws8 1) fun n36 =>
      out .normal [gv ws10 0, (.int .i64 (add .i64 n36 1))] h22) (
      none)) (
    out (.exit 8) [gv ws8 0, gv ws8 1] h18)

noncomputable def f46 (rec : Rec) (k : Nat) (v0 : Value) (h0 : H) : Option (Value × H) :=
  len v0 fun n0 =>
  lp k (f46_l1 rec k v0) [(.slice none 0 0), (.int .i64 n0)] h0 fun e2 ws5 h12 =>
  onE e2 0 (
    len v0 fun n20 =>
    lp k (f46_l4 rec k v0 n20) [gv ws5 0, (.int .i64 0)] h12 fun e3 ws7 h16 =>
    onE e3 6 (
      calls rec h16 68 [v0] fun v11 h17 =>
      asI .i64 v11 fun n27 =>
      lp k (f46_l5 rec k ws7 n27) [(.slice none 0 0), (.int .i64 0)] h17 fun e5 ws11 h23 =>
      onE e5 8 (
        some (gv ws11 0, h23)) (
        none)) (
      none)) (
    none)

theorem e46 (rec : Rec) (k : Nat) (v0 : Value) (h : H) : bodyT Tryd.prog E0 SC (XC Tryd.prog rec k) 46 (Value × H) [.opq v0] h (fun v h => some (v, h)) = f46 rec k v0 h := by kernel_rfl
theorem t46 {k : Nat} {v0 : Value} {h h1 : H} {v : Value} (hh : f46 rn k v0 h = some (v, h1)) : rn 46 #[v0] h = some (v, trunc Tryd.prog h h1 v) :=
  run_of_bodyT (args := [.opq v0]) rfl ((e46 _ _ _ _).trans hh)
theorem p46 {k : Nat} {v0 : Value} {h h1 : H} {v : Value} (hh : f46 rn k v0 h = some (v, h1)) (hp : plainO v = true) (x : Ext h h1) : rn 46 #[v0] h = some (v, h) := by rw [t46 hh, trunc_pure hp x]
theorem x46 {k : Nat} {v0 : Value} {h h1 : H} {v : Value} (hh : f46 rn k v0 h = some (v, h1)) (hp : plainO v = false) : ∃ h2, rn 46 #[v0] h = some (v, h2) ∧ Sm h1 h2 ∧ (Ext h h1 → Exw h h2) := trunc_cell hp (t46 hh)
theorem y46 {k : Nat} {v0 : Value} {h : H} {v : Value} (hh : f46 rn k v0 h = some (v, h)) : rn 46 #[v0] h = some (v, h) := by rw [t46 hh, trunc_self]

noncomputable def f91 (rec : Rec) (_k : Nat) (v0 : Value) (v1 : Value) (h0 : H) : Option (Value × H) :=
  calls rec h0 108 [v0, v1] fun v2 h1 =>
  asI .i64 v2 fun n0 =>
  some ((.bool (le 0 n0)), h1)

theorem e91 (rec : Rec) (k : Nat) (v0 : Value) (v1 : Value) (h : H) : bodyT Tryd.prog E0 SC (XC Tryd.prog rec k) 91 (Value × H) [.opq v0, .opq v1] h (fun v h => some (v, h)) = f91 rec k v0 v1 h := by kernel_rfl
theorem t91 {k : Nat} {v0 : Value} {v1 : Value} {h h1 : H} {v : Value} (hh : f91 rn k v0 v1 h = some (v, h1)) : rn 91 #[v0, v1] h = some (v, trunc Tryd.prog h h1 v) :=
  run_of_bodyT (args := [.opq v0, .opq v1]) rfl ((e91 _ _ _ _ _).trans hh)
theorem p91 {k : Nat} {v0 : Value} {v1 : Value} {h h1 : H} {v : Value} (hh : f91 rn k v0 v1 h = some (v, h1)) (hp : plainO v = true) (x : Ext h h1) : rn 91 #[v0, v1] h = some (v, h) := by rw [t91 hh, trunc_pure hp x]
theorem x91 {k : Nat} {v0 : Value} {v1 : Value} {h h1 : H} {v : Value} (hh : f91 rn k v0 v1 h = some (v, h1)) (hp : plainO v = false) : ∃ h2, rn 91 #[v0, v1] h = some (v, h2) ∧ Sm h1 h2 ∧ (Ext h h1 → Exw h h2) := trunc_cell hp (t91 hh)
theorem y91 {k : Nat} {v0 : Value} {v1 : Value} {h : H} {v : Value} (hh : f91 rn k v0 v1 h = some (v, h)) : rn 91 #[v0, v1] h = some (v, h) := by rw [t91 hh, trunc_self]

noncomputable def f107 (_rec : Rec) (_k : Nat) (n0 : Int) (v0 : Value) (h0 : H) : Option (Value × H) :=
  asP v0 fun b0 b1 =>
  ld Tryd.prog h0 3 b0 b1 fun v1 =>
  asI .i64 v1 fun n1 =>
  ifB (not (eq n0 n1)) (
    asP v0 fun b2 b3 =>
    ld Tryd.prog h0 3 b2 b3 fun v2 =>
    asI .i64 v2 fun n2 =>
    some ((.bool (eq (andNot .i64 n2 n0) 0)), h0)) (
    some ((.bool false), h0))

theorem e107 (rec : Rec) (k : Nat) (n0 : Int) (v0 : Value) (h : H) : bodyT Tryd.prog E0 SC (XC Tryd.prog rec k) 107 (Value × H) [.int .i64 n0, .opq v0] h (fun v h => some (v, h)) = f107 rec k n0 v0 h := by kernel_rfl
theorem t107 {k : Nat} {n0 : Int} {v0 : Value} {h h1 : H} {v : Value} (hh : f107 rn k n0 v0 h = some (v, h1)) : rn 107 #[.int .i64 n0, v0] h = some (v, trunc Tryd.prog h h1 v) :=
  run_of_bodyT (args := [.int .i64 n0, .opq v0]) rfl ((e107 _ _ _ _ _).trans hh)
theorem p107 {k : Nat} {n0 : Int} {v0 : Value} {h h1 : H} {v : Value} (hh : f107 rn k n0 v0 h = some (v, h1)) (hp : plainO v = true) (x : Ext h h1) : rn 107 #[.int .i64 n0, v0] h = some (v, h) := by rw [t107 hh, trunc_pure hp x]
theorem x107 {k : Nat} {n0 : Int} {v0 : Value} {h h1 : H} {v : Value} (hh : f107 rn k n0 v0 h = some (v, h1)) (hp : plainO v = false) : ∃ h2, rn 107 #[.int .i64 n0, v0] h = some (v, h2) ∧ Sm h1 h2 ∧ (Ext h h1 → Exw h h2) := trunc_cell hp (t107 hh)
theorem y107 {k : Nat} {n0 : Int} {v0 : Value} {h : H} {v : Value} (hh : f107 rn k n0 v0 h = some (v, h)) : rn 107 #[.int .i64 n0, v0] h = some (v, h) := by rw [t107 hh, trunc_self]

noncomputable def f108_l1 (rec : Rec) (_k : Nat) (v0 : Value) (v1 : Value) (n0 : Int) (ws0 : List Value) (h1 : H) : Option (Ex × List Value × H) :=
  asI .i64 (gv ws0 1) fun n1 =>
  ifB (lt n1 n0) (
    asK (gv ws0 1) fun n2 =>
    six v0 n2 1 fun b0 b1 =>
    ld Tryd.prog h1 3 b0 b1 fun v2 =>
    asI .i64 v2 fun n3 =>
    callsV rec h1 v1 [(.int .i64 n3)] fun v3 h2 =>
    asB v3 fun q0 =>
    ifB q0 (
      out .ret [gv ws0 1, gv ws0 1] h2) (
      asI .i64 (gv ws0 1) fun n4 =>
      out .normal [gv ws0 0, (.int .i64 (add .i64 n4 1))] h2)) (
    out (.exit 0) [gv ws0 0, gv ws0 1] h1)

noncomputable def f108 (rec : Rec) (k : Nat) (v0 : Value) (v1 : Value) (h0 : H) : Option (Value × H) :=
  len v0 fun n0 =>
  lp k (f108_l1 rec k v0 v1 n0) [(.int .i64 0), (.int .i64 0)] h0 fun e0 ws1 h3 =>
  onE e0 0 (
    some ((.int .i64 (-1)), h3)) (
    onR e0 (
      some (gv ws1 0, h3)))

theorem e108 (rec : Rec) (k : Nat) (v0 : Value) (v1 : Value) (h : H) : bodyT Tryd.prog E0 SC (XC Tryd.prog rec k) 108 (Value × H) [.opq v0, .opq v1] h (fun v h => some (v, h)) = f108 rec k v0 v1 h := by kernel_rfl
theorem t108 {k : Nat} {v0 : Value} {v1 : Value} {h h1 : H} {v : Value} (hh : f108 rn k v0 v1 h = some (v, h1)) : rn 108 #[v0, v1] h = some (v, trunc Tryd.prog h h1 v) :=
  run_of_bodyT (args := [.opq v0, .opq v1]) rfl ((e108 _ _ _ _ _).trans hh)
theorem p108 {k : Nat} {v0 : Value} {v1 : Value} {h h1 : H} {v : Value} (hh : f108 rn k v0 v1 h = some (v, h1)) (hp : plainO v = true) (x : Ext h h1) : rn 108 #[v0, v1] h = some (v, h) := by rw [t108 hh, trunc_pure hp x]
theorem x108 {k : Nat} {v0 : Value} {v1 : Value} {h h1 : H} {v : Value} (hh : f108 rn k v0 v1 h = some (v, h1)) (hp : plainO v = false) : ∃ h2, rn 108 #[v0, v1] h = some (v, h2) ∧ Sm h1 h2 ∧ (Ext h h1 → Exw h h2) := trunc_cell hp (t108 hh)
theorem y108 {k : Nat} {v0 : Value} {v1 : Value} {h : H} {v : Value} (hh : f108 rn k v0 v1 h = some (v, h)) : rn 108 #[v0, v1] h = some (v, h) := by rw [t108 hh, trunc_self]

noncomputable def f43_l1 (_rec : Rec) (_k : Nat)  (ws0 : List Value) (h1 : H) : Option (Ex × List Value × H) :=
  asI .i64 (gv ws0 1) fun n1 =>
  ifB (lt 0 n1) (
    asI .i64 (gv ws0 0) fun n2 =>
    asI .i64 (gv ws0 1) fun n3 =>
    asI .i64 (gv ws0 1) fun n4 =>
    out .normal [(.int .i64 (add .i64 n2 1)), (.int .i64 (and .i64 n4 (sub .i64 n3 1)))] h1) (
    out (.exit 0) [gv ws0 0, gv ws0 1] h1)

noncomputable def f43 (rec : Rec) (k : Nat) (n0 : Int) (h0 : H) : Option (Value × H) :=
  lp k (f43_l1 rec k) [(.int .i64 0), (.int .i64 n0)] h0 fun e0 ws1 h2 =>
  onE e0 0 (
    some (gv ws1 0, h2)) (
    none)

theorem e43 (rec : Rec) (k : Nat) (n0 : Int) (h : H) : bodyT Tryd.prog E0 SC (XC Tryd.prog rec k) 43 (Value × H) [.int .i64 n0] h (fun v h => some (v, h)) = f43 rec k n0 h := by kernel_rfl
theorem t43 {k : Nat} {n0 : Int} {h h1 : H} {v : Value} (hh : f43 rn k n0 h = some (v, h1)) : rn 43 #[.int .i64 n0] h = some (v, trunc Tryd.prog h h1 v) :=
  run_of_bodyT (args := [.int .i64 n0]) rfl ((e43 _ _ _ _).trans hh)
theorem p43 {k : Nat} {n0 : Int} {h h1 : H} {v : Value} (hh : f43 rn k n0 h = some (v, h1)) (hp : plainO v = true) (x : Ext h h1) : rn 43 #[.int .i64 n0] h = some (v, h) := by rw [t43 hh, trunc_pure hp x]
theorem x43 {k : Nat} {n0 : Int} {h h1 : H} {v : Value} (hh : f43 rn k n0 h = some (v, h1)) (hp : plainO v = false) : ∃ h2, rn 43 #[.int .i64 n0] h = some (v, h2) ∧ Sm h1 h2 ∧ (Ext h h1 → Exw h h2) := trunc_cell hp (t43 hh)
theorem y43 {k : Nat} {n0 : Int} {h : H} {v : Value} (hh : f43 rn k n0 h = some (v, h)) : rn 43 #[.int .i64 n0] h = some (v, h) := by rw [t43 hh, trunc_self]

noncomputable def f40_l1 (_rec : Rec) (_k : Nat) (v0 : Value) (v1 : Value) (n2 : Int) (ws0 : List Value) (h1 : H) : Option (Ex × List Value × H) :=
  asI .i64 (gv ws0 1) fun n3 =>
  ifB (lt n3 n2) (
    asK (gv ws0 1) fun n4 =>
    six v0 n4 1 fun b0 b1 =>
    ld Tryd.prog h1 3 b0 b1 fun v2 =>
    asI .i64 v2 fun n5 =>
    asK (gv ws0 1) fun n6 =>
    six v1 n6 1 fun b2 b3 =>
    ld Tryd.prog h1 3 b2 b3 fun v3 =>
    asI .i64 v3 fun n7 =>
    ifB (not (eq n5 n7)) (
      out .ret [(.bool false), gv ws0 1] h1) (
      asI .i64 (gv ws0 1) fun n8 =>
      out .normal [gv ws0 0, (.int .i64 (add .i64 n8 1))] h1)) (
    out (.exit 0) [gv ws0 0, gv ws0 1] h1)

noncomputable def f40 (rec : Rec) (k : Nat) (v0 : Value) (v1 : Value) (h0 : H) : Option (Value × H) :=
  len v0 fun n0 =>
  len v1 fun n1 =>
  ifB (not (eq n0 n1)) (
    some ((.bool false), h0)) (
    len v0 fun n2 =>
    lp k (f40_l1 rec k v0 v1 n2) [(.bool false), (.int .i64 0)] h0 fun e0 ws1 h2 =>
    onE e0 0 (
      some ((.bool true), h2)) (
      onR e0 (
        some (gv ws1 0, h2))))

theorem e40 (rec : Rec) (k : Nat) (v0 : Value) (v1 : Value) (h : H) : bodyT Tryd.prog E0 SC (XC Tryd.prog rec k) 40 (Value × H) [.opq v0, .opq v1] h (fun v h => some (v, h)) = f40 rec k v0 v1 h := by kernel_rfl
theorem t40 {k : Nat} {v0 : Value} {v1 : Value} {h h1 : H} {v : Value} (hh : f40 rn k v0 v1 h = some (v, h1)) : rn 40 #[v0, v1] h = some (v, trunc Tryd.prog h h1 v) :=
  run_of_bodyT (args := [.opq v0, .opq v1]) rfl ((e40 _ _ _ _ _).trans hh)
theorem p40 {k : Nat} {v0 : Value} {v1 : Value} {h h1 : H} {v : Value} (hh : f40 rn k v0 v1 h = some (v, h1)) (hp : plainO v = true) (x : Ext h h1) : rn 40 #[v0, v1] h = some (v, h) := by rw [t40 hh, trunc_pure hp x]
theorem x40 {k : Nat} {v0 : Value} {v1 : Value} {h h1 : H} {v : Value} (hh : f40 rn k v0 v1 h = some (v, h1)) (hp : plainO v = false) : ∃ h2, rn 40 #[v0, v1] h = some (v, h2) ∧ Sm h1 h2 ∧ (Ext h h1 → Exw h h2) := trunc_cell hp (t40 hh)
theorem y40 {k : Nat} {v0 : Value} {v1 : Value} {h : H} {v : Value} (hh : f40 rn k v0 v1 h = some (v, h)) : rn 40 #[v0, v1] h = some (v, h) := by rw [t40 hh, trunc_self]

noncomputable def f45 (rec : Rec) (_k : Nat) (v0 : Value) (h0 : H) : Option (Value × H) :=
  calls rec h0 63 [v0] fun v1 h1 =>
  ext v1 0 fun v2 =>
  ext v1 1 fun v3 =>
  asB v3 fun q0 =>
  al h1 78 [(.slice none 0 0)] fun h2 =>
  st Tryd.prog h2 78 (nx h1) 0 v2 fun h3 =>
  ifB (not q0) (
    some ((.tuple #[(.bool false), (.int .i64 2)]), h3)) (
    ld Tryd.prog h3 78 (nx h1) 0 fun v4 =>
    calls rec h3 90 [v4] fun v5 h4 =>
    calls rec h4 91 [v5, (.func (.func 92) #[] #[(pt (nx h1) 0)])] fun v6 h5 =>
    asB v6 fun q1 =>
    some ((.tuple #[(.bool (not q1)), (.int .i64 0)]), h5))

theorem e45 (rec : Rec) (k : Nat) (v0 : Value) (h : H) : bodyT Tryd.prog E0 SC (XC Tryd.prog rec k) 45 (Value × H) [.opq v0] h (fun v h => some (v, h)) = f45 rec k v0 h := by kernel_rfl
theorem t45 {k : Nat} {v0 : Value} {h h1 : H} {v : Value} (hh : f45 rn k v0 h = some (v, h1)) : rn 45 #[v0] h = some (v, trunc Tryd.prog h h1 v) :=
  run_of_bodyT (args := [.opq v0]) rfl ((e45 _ _ _ _).trans hh)
theorem p45 {k : Nat} {v0 : Value} {h h1 : H} {v : Value} (hh : f45 rn k v0 h = some (v, h1)) (hp : plainO v = true) (x : Ext h h1) : rn 45 #[v0] h = some (v, h) := by rw [t45 hh, trunc_pure hp x]
theorem x45 {k : Nat} {v0 : Value} {h h1 : H} {v : Value} (hh : f45 rn k v0 h = some (v, h1)) (hp : plainO v = false) : ∃ h2, rn 45 #[v0] h = some (v, h2) ∧ Sm h1 h2 ∧ (Ext h h1 → Exw h h2) := trunc_cell hp (t45 hh)
theorem y45 {k : Nat} {v0 : Value} {h : H} {v : Value} (hh : f45 rn k v0 h = some (v, h)) : rn 45 #[v0] h = some (v, h) := by rw [t45 hh, trunc_self]

noncomputable def f47_l2 (rec : Rec) (_k : Nat) (v0 : Value) (n3 : Int) (n4 : Int) (ws1 : List Value) (h3 : H) : Option (Ex × List Value × H) :=
  asI .i64 (gv ws1 1) fun n5 =>
  ifB (lt n5 n4) (
    asK (gv ws1 1) fun n6 =>
    six v0 n6 1 fun b2 b3 =>
    ld Tryd.prog h3 3 b2 b3 fun v3 =>
    asI .i64 v3 fun n7 =>
    asK (gv ws1 1) fun n8 =>
    nn n8 (
      ifB (eq (and .i64 (shr .i64 n3 n8) 1) 1) (
        calls rec h3 43 [(.int .i64 (and .i64 n7 n3))] fun v4 h4 =>
        asI .i64 v4 fun n9 =>
        asI .i64 (gv ws1 0) fun n10 =>
        asI .i64 (gv ws1 1) fun n11 =>
        out .normal [(.int .i64 (add .i64 n10 n9)), (.int .i64 (add .i64 n11 1))] h4) (
        asI .i64 (gv ws1 1) fun n12 =>
        out .normal [gv ws1 0, (.int .i64 (add .i64 n12 1))] h3))) (
    out (.exit 2) [gv ws1 0, gv ws1 1] h3)

noncomputable def f47_l1 (rec : Rec) (k : Nat) (v0 : Value) (v1 : Value) (n0 : Int) (ws0 : List Value) (h2 : H) : Option (Ex × List Value × H) :=
  asI .i64 (gv ws0 1) fun n1 =>
  ifB (lt n1 n0) (
    asK (gv ws0 1) fun n2 =>
    six v1 n2 1 fun b0 b1 =>
    ld Tryd.prog h2 3 b0 b1 fun v2 =>
    asI .i64 v2 fun n3 =>
    len v0 fun n4 =>
    lp k (f47_l2 rec k v0 n3 n4) [(.int .i64 0), (.int .i64 0)] h2 fun e0 ws2 h5 =>
    onE e0 2 (
      asI .i64 (gv ws2 0) fun n13 =>
      nz 2 (
        calls rec h5 43 [(.int .i64 n3)] fun v5 h6 =>
        asI .i64 v5 fun n14 =>
        ifB (lt n14 (quo .i64 n13 2)) (
          out .ret [(.bool false), gv ws0 1] h6) (
          asI .i64 (gv ws0 1) fun n15 =>
          out .normal [gv ws0 0, (.int .i64 (add .i64 n15 1))] h6))) (
      none)) (
    out (.exit 0) [gv ws0 0, gv ws0 1] h2)

noncomputable def f47 (rec : Rec) (k : Nat) (v0 : Value) (h0 : H) : Option (Value × H) :=
  calls rec h0 46 [v0] fun v1 h1 =>
  len v1 fun n0 =>
  lp k (f47_l1 rec k v0 v1 n0) [(.bool false), (.int .i64 0)] h1 fun e1 ws3 h7 =>
  onE e1 0 (
    some ((.bool true), h7)) (
    onR e1 (
      some (gv ws3 0, h7)))

theorem e47 (rec : Rec) (k : Nat) (v0 : Value) (h : H) : bodyT Tryd.prog E0 SC (XC Tryd.prog rec k) 47 (Value × H) [.opq v0] h (fun v h => some (v, h)) = f47 rec k v0 h := by kernel_rfl
theorem t47 {k : Nat} {v0 : Value} {h h1 : H} {v : Value} (hh : f47 rn k v0 h = some (v, h1)) : rn 47 #[v0] h = some (v, trunc Tryd.prog h h1 v) :=
  run_of_bodyT (args := [.opq v0]) rfl ((e47 _ _ _ _).trans hh)
theorem p47 {k : Nat} {v0 : Value} {h h1 : H} {v : Value} (hh : f47 rn k v0 h = some (v, h1)) (hp : plainO v = true) (x : Ext h h1) : rn 47 #[v0] h = some (v, h) := by rw [t47 hh, trunc_pure hp x]
theorem x47 {k : Nat} {v0 : Value} {h h1 : H} {v : Value} (hh : f47 rn k v0 h = some (v, h1)) (hp : plainO v = false) : ∃ h2, rn 47 #[v0] h = some (v, h2) ∧ Sm h1 h2 ∧ (Ext h h1 → Exw h h2) := trunc_cell hp (t47 hh)
theorem y47 {k : Nat} {v0 : Value} {h : H} {v : Value} (hh : f47 rn k v0 h = some (v, h)) : rn 47 #[v0] h = some (v, h) := by rw [t47 hh, trunc_self]

noncomputable def f92_l1 (rec : Rec) (_k : Nat) (n0 : Int) (v0 : Value) (v1 : Value) (n1 : Int) (ws0 : List Value) (h2 : H) : Option (Ex × List Value × H) :=
  asI .i64 (gv ws0 1) fun n2 =>
  ifB (lt n2 n1) (
    asK (gv ws0 1) fun n3 =>
    six v1 n3 1 fun b0 b1 =>
    ld Tryd.prog h2 3 b0 b1 fun v2 =>
    asI .i64 v2 fun n4 =>
    asP v0 fun b2 b3 =>
    ld Tryd.prog h2 78 b2 b3 fun v3 =>
    six v3 n4 1 fun b4 b5 =>
    ld Tryd.prog h2 3 b4 b5 fun v4 =>
    asI .i64 v4 fun n5 =>
    calls rec h2 93 [(.int .i64 (and .i64 n5 n0))] fun v5 h3 =>
    asI .i64 v5 fun n6 =>
    asI .i64 (gv ws0 0) fun n7 =>
    asI .i64 (gv ws0 1) fun n8 =>
    out .normal [(.int .i64 (add .i64 n7 n6)), (.int .i64 (add .i64 n8 1))] h3) (
    out (.exit 0) [gv ws0 0, gv ws0 1] h2)

noncomputable def f92 (rec : Rec) (k : Nat) (n0 : Int) (v0 : Value) (h0 : H) : Option (Value × H) :=
  calls rec h0 76 [(.int .i64 n0)] fun v1 h1 =>
  len v1 fun n1 =>
  lp k (f92_l1 rec k n0 v0 v1 n1) [(.int .i64 0), (.int .i64 0)] h1 fun e0 ws1 h4 =>
  onE e0 0 (
    calls rec h4 93 [(.int .i64 n0)] fun v6 h5 =>
    asI .i64 v6 fun n9 =>
    ifB (lt 2 n9) (
      calls rec h5 93 [(.int .i64 n0)] fun v7 h6 =>
      asI .i64 v7 fun n10 =>
      asI .i64 (gv ws1 0) fun n11 =>
      some ((.bool (not (eq n11 (mul .i64 2 n10)))), h6)) (
      some ((.bool false), h5))) (
    none)

theorem e92 (rec : Rec) (k : Nat) (n0 : Int) (v0 : Value) (h : H) : bodyT Tryd.prog E0 SC (XC Tryd.prog rec k) 92 (Value × H) [.int .i64 n0, .opq v0] h (fun v h => some (v, h)) = f92 rec k n0 v0 h := by kernel_rfl
theorem t92 {k : Nat} {n0 : Int} {v0 : Value} {h h1 : H} {v : Value} (hh : f92 rn k n0 v0 h = some (v, h1)) : rn 92 #[.int .i64 n0, v0] h = some (v, trunc Tryd.prog h h1 v) :=
  run_of_bodyT (args := [.int .i64 n0, .opq v0]) rfl ((e92 _ _ _ _ _).trans hh)
theorem p92 {k : Nat} {n0 : Int} {v0 : Value} {h h1 : H} {v : Value} (hh : f92 rn k n0 v0 h = some (v, h1)) (hp : plainO v = true) (x : Ext h h1) : rn 92 #[.int .i64 n0, v0] h = some (v, h) := by rw [t92 hh, trunc_pure hp x]
theorem x92 {k : Nat} {n0 : Int} {v0 : Value} {h h1 : H} {v : Value} (hh : f92 rn k n0 v0 h = some (v, h1)) (hp : plainO v = false) : ∃ h2, rn 92 #[.int .i64 n0, v0] h = some (v, h2) ∧ Sm h1 h2 ∧ (Ext h h1 → Exw h h2) := trunc_cell hp (t92 hh)
theorem y92 {k : Nat} {n0 : Int} {v0 : Value} {h : H} {v : Value} (hh : f92 rn k n0 v0 h = some (v, h)) : rn 92 #[.int .i64 n0, v0] h = some (v, h) := by rw [t92 hh, trunc_self]

noncomputable def f9 (rec : Rec) (_k : Nat) (v0 : Value) (h0 : H) : Option (Value × H) :=
  calls rec h0 18 [v0] fun v1 h1 =>
  calls rec h1 44 [v1] fun v2 h2 =>
  ext v2 0 fun v3 =>
  ext v2 1 fun v4 =>
  asI .i64 v4 fun n0 =>
  calls rec h2 18 [v0] fun v5 h3 =>
  calls rec h3 45 [v5] fun v6 h4 =>
  ext v6 0 fun v7 =>
  asB v7 fun q0 =>
  ext v6 1 fun v8 =>
  asI .i64 v8 fun n1 =>
  calls rec h4 19 [v0] fun v9 h5 =>
  asB v9 fun q1 =>
  ifB (not q1) (
    len v3 fun n2 =>
    ifB (eq n2 0) (
      ifB (not q0) (
        ifB (eq n0 2) (
          ifB (eq n1 2) (
            calls rec h5 20 [] fun v10 h6 =>
            asB v10 fun q2 =>
            some ((.bool q2), h6)) (
            some ((.bool false), h5))) (
          some ((.bool false), h5))) (
        some ((.bool false), h5))) (
      some ((.bool false), h5))) (
    calls rec h5 46 [v0] fun v11 h7 =>
    calls rec h7 40 [v3, v11] fun v12 h8 =>
    asB v12 fun q3 =>
    ifB q3 (
      calls rec h8 47 [v0] fun v13 h9 =>
      asB v13 fun q4 =>
      eqv Tryd.prog 4 (.bool q0) (.bool q4) fun q5 =>
      ifB q5 (
        ifB (eq n0 0) (
          ifB (eq n1 0) (
            calls rec h9 20 [] fun v14 h10 =>
            asB v14 fun q6 =>
            some ((.bool q6), h10)) (
            some ((.bool false), h9))) (
          some ((.bool false), h9))) (
        some ((.bool false), h9))) (
      some ((.bool false), h8)))

theorem e9 (rec : Rec) (k : Nat) (v0 : Value) (h : H) : bodyT Tryd.prog E0 SC (XC Tryd.prog rec k) 9 (Value × H) [.opq v0] h (fun v h => some (v, h)) = f9 rec k v0 h := by kernel_rfl
theorem t9 {k : Nat} {v0 : Value} {h h1 : H} {v : Value} (hh : f9 rn k v0 h = some (v, h1)) : rn 9 #[v0] h = some (v, trunc Tryd.prog h h1 v) :=
  run_of_bodyT (args := [.opq v0]) rfl ((e9 _ _ _ _).trans hh)
theorem p9 {k : Nat} {v0 : Value} {h h1 : H} {v : Value} (hh : f9 rn k v0 h = some (v, h1)) (hp : plainO v = true) (x : Ext h h1) : rn 9 #[v0] h = some (v, h) := by rw [t9 hh, trunc_pure hp x]
theorem x9 {k : Nat} {v0 : Value} {h h1 : H} {v : Value} (hh : f9 rn k v0 h = some (v, h1)) (hp : plainO v = false) : ∃ h2, rn 9 #[v0] h = some (v, h2) ∧ Sm h1 h2 ∧ (Ext h h1 → Exw h h2) := trunc_cell hp (t9 hh)
theorem y9 {k : Nat} {v0 : Value} {h : H} {v : Value} (hh : f9 rn k v0 h = some (v, h)) : rn 9 #[v0] h = some (v, h) := by rw [t9 hh, trunc_self]

noncomputable def f10_l2 (rec : Rec) (_k : Nat) (v0 : Value) (n5 : Int) (n6 : Int) (ws1 : List Value) (h7 : H) : Option (Ex × List Value × H) :=
  asI .i64 (gv ws1 1) fun n7 =>
  ifB (lt n7 n6) (
    asK (gv ws1 1) fun n8 =>
    six v0 n8 1 fun b2 b3 =>
    ld Tryd.prog h7 3 b2 b3 fun v11 =>
    asI .i64 v11 fun n9 =>
    asK (gv ws1 1) fun n10 =>
    nn n10 (
      ifB (eq (and .i64 (shr .i64 n5 n10) 1) 1) (
        calls rec h7 43 [(.int .i64 (and .i64 n9 n5))] fun v12 h8 =>
        asI .i64 v12 fun n11 =>
        asI .i64 (gv ws1 0) fun n12 =>
        asI .i64 (gv ws1 1) fun n13 =>
        out .normal [(.int .i64 (add .i64 n12 n11)), (.int .i64 (add .i64 n13 1))] h8) (
        asI .i64 (gv ws1 1) fun n14 =>
        out .normal [gv ws1 0, (.int .i64 (add .i64 n14 1))] h7))) (
    out (.exit 2) [gv ws1 0, gv ws1 1] h7)

noncomputable def f10_l1 (rec : Rec) (k : Nat) (v0 : Value) (v7 : Value) (n2 : Int) (ws0 : List Value) (h6 : H) : Option (Ex × List Value × H) :=
  asI .i64 (gv ws0 1) fun n3 =>
  ifB (lt n3 n2) (
    asK (gv ws0 1) fun n4 =>
    six v7 n4 1 fun b0 b1 =>
    ld Tryd.prog h6 3 b0 b1 fun v10 =>
    asI .i64 v10 fun n5 =>
    len v0 fun n6 =>
    lp k (f10_l2 rec k v0 n5 n6) [(.int .i64 0), (.int .i64 0)] h6 fun e0 ws2 h9 =>
    onE e0 2 (
      asB (gv ws0 0) fun q2 =>
      ifB q2 (
        asI .i64 (gv ws2 0) fun n15 =>
        nz 2 (
          calls rec h9 43 [(.int .i64 n5)] fun v13 h10 =>
          asI .i64 v13 fun n16 =>
          ifB (eq (quo .i64 n15 2) n16) (
            asI .i64 (gv ws0 1) fun n17 =>
            out .normal [(.bool true), (.int .i64 (add .i64 n17 1))] h10) (
            calls rec h10 43 [(.int .i64 n5)] fun v14 h11 =>
            asI .i64 v14 fun n18 =>
            asI .i64 (gv ws0 1) fun n19 =>
            out .normal [(.bool (le n18 2)), (.int .i64 (add .i64 n19 1))] h11))) (
        asI .i64 (gv ws0 1) fun n20 =>
        out .normal [(.bool false), (.int .i64 (add .i64 n20 1))] h9)) (
      none)) (
    out (.exit 0) [gv ws0 0, gv ws0 1] h6)

noncomputable def f10 (rec : Rec) (k : Nat) (v0 : Value) (h0 : H) : Option (Value × H) :=
  calls rec h0 18 [v0] fun v1 h1 =>
  calls rec h1 45 [v1] fun v2 h2 =>
  ext v2 0 fun v3 =>
  asB v3 fun q0 =>
  ext v2 1 fun v4 =>
  asI .i64 v4 fun n0 =>
  calls rec h2 18 [v0] fun v5 h3 =>
  calls rec h3 44 [v5] fun v6 h4 =>
  ext v6 0 fun v7 =>
  ext v6 1 fun v8 =>
  asI .i64 v8 fun n1 =>
  ifB (not (eq n0 0)) (
    ifB (eq n0 2) (
      ifB (eq n1 2) (
        calls rec h4 20 [] fun v9 h5 =>
        asB v9 fun q1 =>
        some ((.bool q1), h5)) (
        some ((.bool false), h4))) (
      some ((.bool false), h4))) (
    len v7 fun n2 =>
    lp k (f10_l1 rec k v0 v7 n2) [(.bool true), (.int .i64 0)] h4 fun e1 ws3 h12 =>
    onE e1 0 (
      ifB (eq n1 0) (
        eqv Tryd.prog 4 (.bool q0) (gv ws3 0) fun q3 =>
        ifB q3 (
          calls rec h12 20 [] fun v15 h13 =>
          asB v15 fun q4 =>
          some ((.bool q4), h13)) (
          some ((.bool false), h12))) (
        some ((.bool false), h12))) (
      none))

theorem e10 (rec : Rec) (k : Nat) (v0 : Value) (h : H) : bodyT Tryd.prog E0 SC (XC Tryd.prog rec k) 10 (Value × H) [.opq v0] h (fun v h => some (v, h)) = f10 rec k v0 h := by kernel_rfl
theorem t10 {k : Nat} {v0 : Value} {h h1 : H} {v : Value} (hh : f10 rn k v0 h = some (v, h1)) : rn 10 #[v0] h = some (v, trunc Tryd.prog h h1 v) :=
  run_of_bodyT (args := [.opq v0]) rfl ((e10 _ _ _ _).trans hh)
theorem p10 {k : Nat} {v0 : Value} {h h1 : H} {v : Value} (hh : f10 rn k v0 h = some (v, h1)) (hp : plainO v = true) (x : Ext h h1) : rn 10 #[v0] h = some (v, h) := by rw [t10 hh, trunc_pure hp x]
theorem x10 {k : Nat} {v0 : Value} {h h1 : H} {v : Value} (hh : f10 rn k v0 h = some (v, h1)) (hp : plainO v = false) : ∃ h2, rn 10 #[v0] h = some (v, h2) ∧ Sm h1 h2 ∧ (Ext h h1 → Exw h h2) := trunc_cell hp (t10 hh)
theorem y10 {k : Nat} {v0 : Value} {h : H} {v : Value} (hh : f10 rn k v0 h = some (v, h)) : rn 10 #[v0] h = some (v, h) := by rw [t10 hh, trunc_self]

end Go.AM
