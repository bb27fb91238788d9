/- The staged forms of functions 4, 23, 24, 25, 26, 69, 70, 71, 72, 73, 74, 77, 87, 102, 103, 115, and what calls of these answer. -/
import Derived.Test.YtakhklelgcfgjaaDoorSx
namespace Go.AM
open Go.Proofs

noncomputable def f4 (rec : Rec) (_k : Nat) (v0 : Value) (h0 : H) : Option (Value × H) :=
  calls rec h0 18 [v0] fun v1 h1 =>
  calls rec h1 23 [v1] fun v2 h2 =>
  ext v2 0 fun v3 =>
  ext v2 1 fun v4 =>
  asI .i64 v4 fun n0 =>
  calls rec h2 18 [v0] fun v5 h3 =>
  calls rec h3 24 [v5] fun v6 h4 =>
  ext v6 0 fun v7 =>
  asI .i64 v7 fun n1 =>
  ext v6 1 fun v8 =>
  asI .i64 v8 fun n2 =>
  calls rec h4 19 [v0] fun v9 h5 =>
  asB v9 fun q0 =>
  ifB (not q0) (
    len v3 fun n3 =>
    ifB (eq n3 0) (
      ifB (eq n1 0) (
        ifB (eq n0 2) (
          ifB (eq n2 2) (
            calls rec h5 20 [] fun v10 h6 =>
            asB v10 fun q1 =>
            some ((.bool q1), h6)) (
            some ((.bool false), h5))) (
          some ((.bool false), h5))) (
        some ((.bool false), h5))) (
      some ((.bool false), h5))) (
    calls rec h5 25 [v0] fun v11 h7 =>
    calls rec h7 21 [v3, v11] fun v12 h8 =>
    asB v12 fun q2 =>
    ifB q2 (
      calls rec h8 26 [v0] fun v13 h9 =>
      asI .i64 v13 fun n4 =>
      ifB (eq n1 n4) (
        ifB (eq n0 0) (
          ifB (eq n2 0) (
            calls rec h9 20 [] fun v14 h10 =>
            asB v14 fun q3 =>
            some ((.bool q3), h10)) (
            some ((.bool false), h9))) (
          some ((.bool false), h9))) (
        some ((.bool false), h9))) (
      some ((.bool false), h8)))

theorem e4 (rec : Rec) (k : Nat) (v0 : Value) (h : H) : bodyT Tryd.prog E0 SC (XC Tryd.prog rec k) 4 (Value × H) [.opq v0] h (fun v h => some (v, h)) = f4 rec k v0 h := by kernel_rfl
theorem t4 {k : Nat} {v0 : Value} {h h1 : H} {v : Value} (hh : f4 rn k v0 h = some (v, h1)) : rn 4 #[v0] h = some (v, trunc Tryd.prog h h1 v) :=
  run_of_bodyT (args := [.opq v0]) rfl ((e4 _ _ _ _).trans hh)
theorem p4 {k : Nat} {v0 : Value} {h h1 : H} {v : Value} (hh : f4 rn k v0 h = some (v, h1)) (hp : plainO v = true) (x : Ext h h1) : rn 4 #[v0] h = some (v, h) := by rw [t4 hh, trunc_pure hp x]
theorem x4 {k : Nat} {v0 : Value} {h h1 : H} {v : Value} (hh : f4 rn k v0 h = some (v, h1)) (hp : plainO v = false) : ∃ h2, rn 4 #[v0] h = some (v, h2) ∧ Sm h1 h2 ∧ (Ext h h1 → Exw h h2) := trunc_cell hp (t4 hh)
theorem y4 {k : Nat} {v0 : Value} {h : H} {v : Value} (hh : f4 rn k v0 h = some (v, h)) : rn 4 #[v0] h = some (v, h) := by rw [t4 hh, trunc_self]

noncomputable def f23 (rec : Rec) (_k : Nat) (v0 : Value) (h0 : H) : Option (Value × H) :=
  calls rec h0 63 [v0] fun v1 h1 =>
  ext v1 0 fun v2 =>
  ext v1 1 fun v3 =>
  asB v3 fun q0 =>
  ifB (not q0) (
    some ((.tuple #[(.slice none 0 0), (.int .i64 2)]), h1)) (
    calls rec h1 69 [v2] fun v4 h2 =>
    some ((.tuple #[v4, (.int .i64 0)]), h2))

theorem e23 (rec : Rec) (k : Nat) (v0 : Value) (h : H) : bodyT Tryd.prog E0 SC (XC Tryd.prog rec k) 23 (Value × H) [.opq v0] h (fun v h => some (v, h)) = f23 rec k v0 h := by kernel_rfl
theorem t23 {k : Nat} {v0 : Value} {h h1 : H} {v : Value} (hh : f23 rn k v0 h = some (v, h1)) : rn 23 #[v0] h = some (v, trunc Tryd.prog h h1 v) :=
  run_of_bodyT (args := [.opq v0]) rfl ((e23 _ _ _ _).trans hh)
theorem p23 {k : Nat} {v0 : Value} {h h1 : H} {v : Value} (hh : f23 rn k v0 h = some (v, h1)) (hp : plainO v = true) (x : Ext h h1) : rn 23 #[v0] h = some (v, h) := by rw [t23 hh, trunc_pure hp x]
theorem x23 {k : Nat} {v0 : Value} {h h1 : H} {v : Value} (hh : f23 rn k v0 h = some (v, h1)) (hp : plainO v = false) : ∃ h2, rn 23 #[v0] h = some (v, h2) ∧ Sm h1 h2 ∧ (Ext h h1 → Exw h h2) := trunc_cell hp (t23 hh)
theorem y23 {k : Nat} {v0 : Value} {h : H} {v : Value} (hh : f23 rn k v0 h = some (v, h)) : rn 23 #[v0] h = some (v, h) := by rw [t23 hh, trunc_self]

noncomputable def f24 (rec : Rec) (_k : Nat) (v0 : Value) (h0 : H) : Option (Value × H) :=
  calls rec h0 63 [v0] fun v1 h1 =>
  ext v1 0 fun v2 =>
  ext v1 1 fun v3 =>
  asB v3 fun q0 =>
  ifB (not q0) (
    some ((.tuple #[(.int .i64 0), (.int .i64 2)]), h1)) (
    calls rec h1 65 [v2] fun v4 h2 =>
    asI .i64 v4 fun n0 =>
    calls rec h2 70 [v2, (.int .i64 n0)] fun v5 h3 =>
    asI .i64 v5 fun n1 =>
    some ((.tuple #[(.int .i64 n1), (.int .i64 0)]), h3))

theorem e24 (rec : Rec) (k : Nat) (v0 : Value) (h : H) : bodyT Tryd.prog E0 SC (XC Tryd.prog rec k) 24 (Value × H) [.opq v0] h (fun v h => some (v, h)) = f24 rec k v0 h := by kernel_rfl
theorem t24 {k : Nat} {v0 : Value} {h h1 : H} {v : Value} (hh : f24 rn k v0 h = some (v, h1)) : rn 24 #[v0] h = some (v, trunc Tryd.prog h h1 v) :=
  run_of_bodyT (args := [.opq v0]) rfl ((e24 _ _ _ _).trans hh)
theorem p24 {k : Nat} {v0 : Value} {h h1 : H} {v : Value} (hh : f24 rn k v0 h = some (v, h1)) (hp : plainO v = true) (x : Ext h h1) : rn 24 #[v0] h = some (v, h) := by rw [t24 hh, trunc_pure hp x]
theorem x24 {k : Nat} {v0 : Value} {h h1 : H} {v : Value} (hh : f24 rn k v0 h = some (v, h1)) (hp : plainO v = false) : ∃ h2, rn 24 #[v0] h = some (v, h2) ∧ Sm h1 h2 ∧ (Ext h h1 → Exw h h2) := trunc_cell hp (t24 hh)
theorem y24 {k : Nat} {v0 : Value} {h : H} {v : Value} (hh : f24 rn k v0 h = some (v, h)) : rn 24 #[v0] h = some (v, h) := by rw [t24 hh, trunc_self]

noncomputable def f25_l1 (rec : Rec) (_k : Nat) (v0 : Value) (v1 : Value) (n0 : Int) (ws0 : List Value) (h2 : H) : Option (Ex × List Value × H) :=
  asI .i64 (gv ws0 1) fun n1 =>
  ifB (lt n1 n0) (
    asK (gv ws0 1) fun n2 =>
    six v1 n2 2 fun b0 b1 =>
    ld Tryd.prog h2 32 b0 b1 fun v2 =>
    al h2 32 [(.int .i64 0), (.int .i64 0)] fun h3 =>
    st Tryd.prog h3 32 (nx h2) 0 v2 fun h4 =>
    aix 2 0 (
      ld Tryd.prog h4 3 (nx h2) (at_ 0 0 1) fun v3 =>
      asI .i64 v3 fun n3 =>
      aix 2 1 (
        ld Tryd.prog h4 3 (nx h2) (at_ 0 1 1) fun v4 =>
        asI .i64 v4 fun n4 =>
        calls rec h4 73 [v0, (.int .i64 n3), (.int .i64 n4)] fun v5 h5 =>
        calls rec h5 68 [v0] fun v6 h6 =>
        asI .i64 v6 fun n5 =>
        aix 2 0 (
          ld Tryd.prog h6 3 (nx h2) (at_ 0 0 1) fun v7 =>
          asI .i64 v7 fun n6 =>
          ck (freq (nx h2) (nx h5) (same h6 h5)) (
            ck (freq (nx h2) (nx h4) (same h5 h4)) (
              aix 2 1 (
                ld Tryd.prog h6 3 (nx h2) (at_ 0 1 1) fun v8 =>
                asI .i64 v8 fun n7 =>
                ck (freq (nx h2) (nx h5) (same h6 h5)) (
                  ck (freq (nx h2) (nx h4) (same h5 h4)) (
                    calls rec h6 72 [v5, (.int .i64 n5), (.int .i64 n6), (.int .i64 n7)] fun v9 h7 =>
                    asB v9 fun q0 =>
                    ifB (not q0) (
                      ld Tryd.prog h7 32 (nx h2) 0 fun v10 =>
                      bls Tryd.prog h7 24 1 [(0, v10)] fun v11 h8 =>
                      app Tryd.prog h8 24 24 (gv ws0 0) v11 fun v12 h9 =>
                      asI .i64 (gv ws0 1) fun n8 =>
                      out .normal [v12, (.int .i64 (add .i64 n8 1))] h9) (
                      asI .i64 (gv ws0 1) fun n9 =>
                      out .normal [gv ws0 0, (.int .i64 (add .i64 n9 1))] h7)))))))))) (
    out (.exit 0) [gv ws0 0, gv ws0 1] h2)

noncomputable def f25 (rec : Rec) (k : Nat) (v0 : Value) (h0 : H) : Option (Value × H) :=
  calls rec h0 71 [v0] fun v1 h1 =>
  len v1 fun n0 =>
  lp k (f25_l1 rec k v0 v1 n0) [(.slice none 0 0), (.int .i64 0)] h1 fun e0 ws1 h10 =>
  onE e0 0 (
    some (gv ws1 0, h10)) (
    none)

theorem e25 (rec : Rec) (k : Nat) (v0 : Value) (h : H) : bodyT Tryd.prog E0 SC (XC Tryd.prog rec k) 25 (Value × H) [.opq v0] h (fun v h => some (v, h)) = f25 rec k v0 h := by kernel_rfl
theorem t25 {k : Nat} {v0 : Value} {h h1 : H} {v : Value} (hh : f25 rn k v0 h = some (v, h1)) : rn 25 #[v0] h = some (v, trunc Tryd.prog h h1 v) :=
  run_of_bodyT (args := [.opq v0]) rfl ((e25 _ _ _ _).trans hh)
theorem p25 {k : Nat} {v0 : Value} {h h1 : H} {v : Value} (hh : f25 rn k v0 h = some (v, h1)) (hp : plainO v = true) (x : Ext h h1) : rn 25 #[v0] h = some (v, h) := by rw [t25 hh, trunc_pure hp x]
theorem x25 {k : Nat} {v0 : Value} {h h1 : H} {v : Value} (hh : f25 rn k v0 h = some (v, h1)) (hp : plainO v = false) : ∃ h2, rn 25 #[v0] h = some (v, h2) ∧ Sm h1 h2 ∧ (Ext h h1 → Exw h h2) := trunc_cell hp (t25 hh)
theorem y25 {k : Nat} {v0 : Value} {h : H} {v : Value} (hh : f25 rn k v0 h = some (v, h)) : rn 25 #[v0] h = some (v, h) := by rw [t25 hh, trunc_self]

noncomputable def f26 (rec : Rec) (_k : Nat) (v0 : Value) (h0 : H) : Option (Value × H) :=
  calls rec h0 68 [v0] fun v1 h1 =>
  asI .i64 v1 fun n0 =>
  calls rec h1 74 [v0, (.int .i64 n0)] fun v2 h2 =>
  asI .i64 v2 fun n1 =>
  some ((.int .i64 n1), h2)

theorem e26 (rec : Rec) (k : Nat) (v0 : Value) (h : H) : bodyT Tryd.prog E0 SC (XC Tryd.prog rec k) 26 (Value × H) [.opq v0] h (fun v h => some (v, h)) = f26 rec k v0 h := by kernel_rfl
theorem t26 {k : Nat} {v0 : Value} {h h1 : H} {v : Value} (hh : f26 rn k v0 h = some (v, h1)) : rn 26 #[v0] h = some (v, trunc Tryd.prog h h1 v) :=
  run_of_bodyT (args := [.opq v0]) rfl ((e26 _ _ _ _).trans hh)
theorem p26 {k : Nat} {v0 : Value} {h h1 : H} {v : Value} (hh : f26 rn k v0 h = some (v, h1)) (hp : plainO v = true) (x : Ext h h1) : rn 26 #[v0] h = some (v, h) := by rw [t26 hh, trunc_pure hp x]
theorem x26 {k : Nat} {v0 : Value} {h h1 : H} {v : Value} (hh : f26 rn k v0 h = some (v, h1)) (hp : plainO v = false) : ∃ h2, rn 26 #[v0] h = some (v, h2) ∧ Sm h1 h2 ∧ (Ext h h1 → Exw h h2) := trunc_cell hp (t26 hh)
theorem y26 {k : Nat} {v0 : Value} {h : H} {v : Value} (hh : f26 rn k v0 h = some (v, h)) : rn 26 #[v0] h = some (v, h) := by rw [t26 hh, trunc_self]

noncomputable def f69 (rec : Rec) (_k : Nat) (v0 : Value) (h0 : H) : Option (Value × H) :=
  bx h0 78 v0 fun h1 =>
  ld Tryd.prog h1 78 (nx h0) 0 fun v1 =>
  calls rec h1 77 [v1] fun v2 h2 =>
  calls rec h2 102 [v2, (.func (.func 103) #[] #[(pt (nx h0) 0)])] fun v3 h3 =>
  some (v3, h3)

theorem e69 (rec : Rec) (k : Nat) (v0 : Value) (h : H) : bodyT Tryd.prog E0 SC (XC Tryd.prog rec k) 69 (Value × H) [.opq v0] h (fun v h => some (v, h)) = f69 rec k v0 h := by kernel_rfl
theorem t69 {k : Nat} {v0 : Value} {h h1 : H} {v : Value} (hh : f69 rn k v0 h = some (v, h1)) : rn 69 #[v0] h = some (v, trunc Tryd.prog h h1 v) :=
  run_of_bodyT (args := [.opq v0]) rfl ((e69 _ _ _ _).trans hh)
theorem p69 {k : Nat} {v0 : Value} {h h1 : H} {v : Value} (hh : f69 rn k v0 h = some (v, h1)) (hp : plainO v = true) (x : Ext h h1) : rn 69 #[v0] h = some (v, h) := by rw [t69 hh, trunc_pure hp x]
theorem x69 {k : Nat} {v0 : Value} {h h1 : H} {v : Value} (hh : f69 rn k v0 h = some (v, h1)) (hp : plainO v = false) : ∃ h2, rn 69 #[v0] h = some (v, h2) ∧ Sm h1 h2 ∧ (Ext h h1 → Exw h h2) := trunc_cell hp (t69 hh)
theorem y69 {k : Nat} {v0 : Value} {h : H} {v : Value} (hh : f69 rn k v0 h = some (v, h)) : rn 69 #[v0] h = some (v, h) := by rw [t69 hh, trunc_self]

noncomputable def f70_l1 (rec : Rec) (_k : Nat) (v0 : Value) (n0 : Int) (v1 : Value) (n1 : Int) (ws0 : List Value) (h2 : H) : Option (Ex × List Value × H) :=
  asI .i64 (gv ws0 1) fun n2 =>
  ifB (lt n2 n1) (
    asK (gv ws0 1) fun n3 =>
    six v1 n3 1 fun b0 b1 =>
    ld Tryd.prog h2 3 b0 b1 fun v2 =>
    asI .i64 v2 fun n4 =>
    calls rec h2 78 [v0, (.int .i64 n4), (.int .i64 n0)] fun v3 h3 =>
    asI .i64 v3 fun n5 =>
    nn n4 (
      calls rec h3 64 [v0, (.int .i64 (andNot .i64 n5 (shl .i64 1 n4)))] fun v4 h4 =>
      asB v4 fun q0 =>
      ifB (not q0) (
        nn n4 (
          asI .i64 (gv ws0 0) fun n6 =>
          asI .i64 (gv ws0 1) fun n7 =>
          out .normal [(.int .i64 (or .i64 n6 (shl .i64 1 n4))), (.int .i64 (add .i64 n7 1))] h4)) (
        asI .i64 (gv ws0 1) fun n8 =>
        out .normal [gv ws0 0, (.int .i64 (add .i64 n8 1))] h4))) (
    out (.exit 0) [gv ws0 0, gv ws0 1] h2)

noncomputable def f70 (rec : Rec) (k : Nat) (v0 : Value) (n0 : Int) (h0 : H) : Option (Value × H) :=
  calls rec h0 76 [(.int .i64 n0)] fun v1 h1 =>
  len v1 fun n1 =>
  lp k (f70_l1 rec k v0 n0 v1 n1) [(.int .i64 0), (.int .i64 0)] h1 fun e0 ws1 h5 =>
  onE e0 0 (
    some (gv ws1 0, h5)) (
    none)

theorem e70 (rec : Rec) (k : Nat) (v0 : Value) (n0 : Int) (h : H) : bodyT Tryd.prog E0 SC (XC Tryd.prog rec k) 70 (Value × H) [.opq v0, .int .i64 n0] h (fun v h => some (v, h)) = f70 rec k v0 n0 h := by kernel_rfl
theorem t70 {k : Nat} {v0 : Value} {n0 : Int} {h h1 : H} {v : Value} (hh : f70 rn k v0 n0 h = some (v, h1)) : rn 70 #[v0, .int .i64 n0] h = some (v, trunc Tryd.prog h h1 v) :=
  run_of_bodyT (args := [.opq v0, .int .i64 n0]) rfl ((e70 _ _ _ _ _).trans hh)
theorem p70 {k : Nat} {v0 : Value} {n0 : Int} {h h1 : H} {v : Value} (hh : f70 rn k v0 n0 h = some (v, h1)) (hp : plainO v = true) (x : Ext h h1) : rn 70 #[v0, .int .i64 n0] h = some (v, h) := by rw [t70 hh, trunc_pure hp x]
theorem x70 {k : Nat} {v0 : Value} {n0 : Int} {h h1 : H} {v : Value} (hh : f70 rn k v0 n0 h = some (v, h1)) (hp : plainO v = false) : ∃ h2, rn 70 #[v0, .int .i64 n0] h = some (v, h2) ∧ Sm h1 h2 ∧ (Ext h h1 → Exw h h2) := trunc_cell hp (t70 hh)
theorem y70 {k : Nat} {v0 : Value} {n0 : Int} {h : H} {v : Value} (hh : f70 rn k v0 n0 h = some (v, h)) : rn 70 #[v0, .int .i64 n0] h = some (v, h) := by rw [t70 hh, trunc_self]

noncomputable def f71_l2 (_rec : Rec) (_k : Nat) (v0 : Value) (ws0 : List Value) (ws1 : List Value) (h2 : H) : Option (Ex × List Value × H) :=
  len v0 fun n3 =>
  asI .i64 (gv ws1 1) fun n4 =>
  ifB (lt n4 n3) (
    asK (gv ws0 1) fun n5 =>
    six v0 n5 1 fun b0 b1 =>
    ld Tryd.prog h2 3 b0 b1 fun v1 =>
    asI .i64 v1 fun n6 =>
    asK (gv ws1 1) fun n7 =>
    nn n7 (
      ifB (eq (and .i64 (shr .i64 n6 n7) 1) 1) (
        bld Tryd.prog 32 [(0, gv ws0 1), (1, gv ws1 1)] fun v2 =>
        bls Tryd.prog h2 24 1 [(0, v2)] fun v3 h3 =>
        app Tryd.prog h3 24 24 (gv ws1 0) v3 fun v4 h4 =>
        asI .i64 (gv ws1 1) fun n8 =>
        out .normal [v4, (.int .i64 (add .i64 n8 1))] h4) (
        asI .i64 (gv ws1 1) fun n9 =>
        out .normal [gv ws1 0, (.int .i64 (add .i64 n9 1))] h2))) (
    out (.exit 2) [gv ws1 0, gv ws1 1] h2)

noncomputable def f71_l1 (rec : Rec) (k : Nat) (v0 : Value) (n0 : Int) (ws0 : List Value) (h1 : H) : Option (Ex × List Value × H) :=
  asI .i64 (gv ws0 1) fun n1 =>
  ifB (lt n1 n0) (
    asI .i64 (gv ws0 1) fun n2 =>
    lp k (f71_l2 rec k v0 ws0) [gv ws0 0, (.int .i64 (add .i64 n2 1))] h1 fun e0 ws2 h5 =>
    onE e0 2 (
      asI .i64 (gv ws0 1) fun n10 =>
      out .normal [gv ws2 0, (.int .i64 (add .i64 n10 1))] h5) (
      none)) (
    out (.exit 0) [gv ws0 0, gv ws0 1] h1)

noncomputable def f71 (rec : Rec) (k : Nat) (v0 : Value) (h0 : H) : Option (Value × H) :=
  len v0 fun n0 =>
  lp k (f71_l1 rec k v0 n0) [(.slice none 0 0), (.int .i64 0)] h0 fun e1 ws3 h6 =>
  onE e1 0 (
    some (gv ws3 0, h6)) (
    none)

theorem e71 (rec : Rec) (k : Nat) (v0 : Value) (h : H) : bodyT Tryd.prog E0 SC (XC Tryd.prog rec k) 71 (Value × H) [.opq v0] h (fun v h => some (v, h)) = f71 rec k v0 h := by kernel_rfl
theorem t71 {k : Nat} {v0 : Value} {h h1 : H} {v : Value} (hh : f71 rn k v0 h = some (v, h1)) : rn 71 #[v0] h = some (v, trunc Tryd.prog h h1 v) :=
  run_of_bodyT (args := [.opq v0]) rfl ((e71 _ _ _ _).trans hh)
theorem p71 {k : Nat} {v0 : Value} {h h1 : H} {v : Value} (hh : f71 rn k v0 h = some (v, h1)) (hp : plainO v = true) (x : Ext h h1) : rn 71 #[v0] h = some (v, h) := by rw [t71 hh, trunc_pure hp x]
theorem x71 {k : Nat} {v0 : Value} {h h1 : H} {v : Value} (hh : f71 rn k v0 h = some (v, h1)) (hp : plainO v = false) : ∃ h2, rn 71 #[v0] h = some (v, h2) ∧ Sm h1 h2 ∧ (Ext h h1 → Exw h h2) := trunc_cell hp (t71 hh)
theorem y71 {k : Nat} {v0 : Value} {h : H} {v : Value} (hh : f71 rn k v0 h = some (v, h)) : rn 71 #[v0] h = some (v, h) := by rw [t71 hh, trunc_self]

noncomputable def f72 (rec : Rec) (_k : Nat) (v0 : Value) (n0 : Int) (n1 : Int) (n2 : Int) (h0 : H) : Option (Value × H) :=
  calls rec h0 33 [v0, (.int .i64 n0), (.int .i64 n1)] fun v1 h1 =>
  asI .i64 v1 fun n3 =>
  nn n2 (
    some ((.bool (eq (and .i64 (shr .i64 n3 n2) 1) 1)), h1))

theorem e72 (rec : Rec) (k : Nat) (v0 : Value) (n0 : Int) (n1 : Int) (n2 : Int) (h : H) : bodyT Tryd.prog E0 SC (XC Tryd.prog rec k) 72 (Value × H) [.opq v0, .int .i64 n0, .int .i64 n1, .int .i64 n2] h (fun v h => some (v, h)) = f72 rec k v0 n0 n1 n2 h := by kernel_rfl
theorem t72 {k : Nat} {v0 : Value} {n0 : Int} {n1 : Int} {n2 : Int} {h h1 : H} {v : Value} (hh : f72 rn k v0 n0 n1 n2 h = some (v, h1)) : rn 72 #[v0, .int .i64 n0, .int .i64 n1, .int .i64 n2] h = some (v, trunc Tryd.prog h h1 v) :=
  run_of_bodyT (args := [.opq v0, .int .i64 n0, .int .i64 n1, .int .i64 n2]) rfl ((e72 _ _ _ _ _ _ _).trans hh)
theorem p72 {k : Nat} {v0 : Value} {n0 : Int} {n1 : Int} {n2 : Int} {h h1 : H} {v : Value} (hh : f72 rn k v0 n0 n1 n2 h = some (v, h1)) (hp : plainO v = true) (x : Ext h h1) : rn 72 #[v0, .int .i64 n0, .int .i64 n1, .int .i64 n2] h = some (v, h) := by rw [t72 hh, trunc_pure hp x]
theorem x72 {k : Nat} {v0 : Value} {n0 : Int} {n1 : Int} {n2 : Int} {h h1 : H} {v : Value} (hh : f72 rn k v0 n0 n1 n2 h = some (v, h1)) (hp : plainO v = false) : ∃ h2, rn 72 #[v0, .int .i64 n0, .int .i64 n1, .int .i64 n2] h = some (v, h2) ∧ Sm h1 h2 ∧ (Ext h h1 → Exw h h2) := trunc_cell hp (t72 hh)
theorem y72 {k : Nat} {v0 : Value} {n0 : Int} {n1 : Int} {n2 : Int} {h : H} {v : Value} (hh : f72 rn k v0 n0 n1 n2 h = some (v, h)) : rn 72 #[v0, .int .i64 n0, .int .i64 n1, .int .i64 n2] h = some (v, h) := by rw [t72 hh, trunc_self]

noncomputable def f73 (_rec : Rec) (_k : Nat) (v0 : Value) (n0 : Int) (n1 : Int) (h0 : H) : Option (Value × H) :=
  bls Tryd.prog h0 23 0 [] fun v1 h1 =>
  app Tryd.prog h1 23 23 v1 v0 fun v2 h2 =>
  six v2 n0 1 fun b0 b1 =>
  ld Tryd.prog h2 3 b0 b1 fun v3 =>
  asI .i64 v3 fun n2 =>
  nn n1 (
    six v2 n0 1 fun b2 b3 =>
    st Tryd.prog h2 3 b2 b3 (.int .i64 (andNot .i64 n2 (shl .i64 1 n1))) fun h3 =>
    six v2 n1 1 fun b4 b5 =>
    ld Tryd.prog h3 3 b4 b5 fun v4 =>
    asI .i64 v4 fun n3 =>
    nn n0 (
      six v2 n1 1 fun b6 b7 =>
      st Tryd.prog h3 3 b6 b7 (.int .i64 (andNot .i64 n3 (shl .i64 1 n0))) fun h4 =>
      some (v2, h4)))

theorem e73 (rec : Rec) (k : Nat) (v0 : Value) (n0 : Int) (n1 : Int) (h : H) : bodyT Tryd.prog E0 SC (XC Tryd.prog rec k) 73 (Value × H) [.opq v0, .int .i64 n0, .int .i64 n1] h (fun v h => some (v, h)) = f73 rec k v0 n0 n1 h := by kernel_rfl
theorem t73 {k : Nat} {v0 : Value} {n0 : Int} {n1 : Int} {h h1 : H} {v : Value} (hh : f73 rn k v0 n0 n1 h = some (v, h1)) : rn 73 #[v0, .int .i64 n0, .int .i64 n1] h = some (v, trunc Tryd.prog h h1 v) :=
  run_of_bodyT (args := [.opq v0, .int .i64 n0, .int .i64 n1]) rfl ((e73 _ _ _ _ _ _).trans hh)
theorem p73 {k : Nat} {v0 : Value} {n0 : Int} {n1 : Int} {h h1 : H} {v : Value} (hh : f73 rn k v0 n0 n1 h = some (v, h1)) (hp : plainO v = true) (x : Ext h h1) : rn 73 #[v0, .int .i64 n0, .int .i64 n1] h = some (v, h) := by rw [t73 hh, trunc_pure hp x]
theorem x73 {k : Nat} {v0 : Value} {n0 : Int} {n1 : Int} {h h1 : H} {v : Value} (hh : f73 rn k v0 n0 n1 h = some (v, h1)) (hp : plainO v = false) : ∃ h2, rn 73 #[v0, .int .i64 n0, .int .i64 n1] h = some (v, h2) ∧ Sm h1 h2 ∧ (Ext h h1 → Exw h h2) := trunc_cell hp (t73 hh)
theorem y73 {k : Nat} {v0 : Value} {n0 : Int} {n1 : Int} {h : H} {v : Value} (hh : f73 rn k v0 n0 n1 h = some (v, h)) : rn 73 #[v0, .int .i64 n0, .int .i64 n1] h = some (v, h) := by rw [t73 hh, trunc_self]

noncomputable def f74_l1 (rec : Rec) (_k : Nat) (v0 : Value) (n0 : Int) (n1 : Int) (ws0 : List Value) (h1 : H) : Option (Ex × List Value × H) :=
  asI .i64 (gv ws0 1) fun n2 =>
  ifB (lt n2 n1) (
    calls rec h1 33 [v0, (.int .i64 n0), gv ws0 1] fun v1 h2 =>
    asI .i64 v1 fun n3 =>
    asK (gv ws0 1) fun n4 =>
    nn n4 (
      asK (gv ws0 1) fun n5 =>
      nn n5 (
        ifB (eq (and .i64 (shr .i64 n0 n5) 1) 1) (
          ifB (not (eq (andNot .i64 n3 (shl .i64 1 n4)) 0)) (
            calls rec h2 67 [v0, (.int .i64 (andNot .i64 n3 (shl .i64 1 n4)))] fun v2 h3 =>
            asB v2 fun q0 =>
            ifB (not q0) (
              asK (gv ws0 1) fun n6 =>
              nn n6 (
                asI .i64 (gv ws0 0) fun n7 =>
                asI .i64 (gv ws0 1) fun n8 =>
                out .normal [(.int .i64 (or .i64 n7 (shl .i64 1 n6))), (.int .i64 (add .i64 n8 1))] h3)) (
              asI .i64 (gv ws0 1) fun n9 =>
              out .normal [gv ws0 0, (.int .i64 (add .i64 n9 1))] h3)) (
            asI .i64 (gv ws0 1) fun n10 =>
            out .normal [gv ws0 0, (.int .i64 (add .i64 n10 1))] h2)) (
          asI .i64 (gv ws0 1) fun n11 =>
          out .normal [gv ws0 0, (.int .i64 (add .i64 n11 1))] h2)))) (
    out (.exit 0) [gv ws0 0, gv ws0 1] h1)

noncomputable def f74 (rec : Rec) (k : Nat) (v0 : Value) (n0 : Int) (h0 : H) : Option (Value × H) :=
  len v0 fun n1 =>
  lp k (f74_l1 rec k v0 n0 n1) [(.int .i64 0), (.int .i64 0)] h0 fun e0 ws1 h4 =>
  onE e0 0 (
    some (gv ws1 0, h4)) (
    none)

theorem e74 (rec : Rec) (k : Nat) (v0 : Value) (n0 : Int) (h : H) : bodyT Tryd.prog E0 SC (XC Tryd.prog rec k) 74 (Value × H) [.opq v0, .int .i64 n0] h (fun v h => some (v, h)) = f74 rec k v0 n0 h := by kernel_rfl
theorem t74 {k : Nat} {v0 : Value} {n0 : Int} {h h1 : H} {v : Value} (hh : f74 rn k v0 n0 h = some (v, h1)) : rn 74 #[v0, .int .i64 n0] h = some (v, trunc Tryd.prog h h1 v) :=
  run_of_bodyT (args := [.opq v0, .int .i64 n0]) rfl ((e74 _ _ _ _ _).trans hh)
theorem p74 {k : Nat} {v0 : Value} {n0 : Int} {h h1 : H} {v : Value} (hh : f74 rn k v0 n0 h = some (v, h1)) (hp : plainO v = true) (x : Ext h h1) : rn 74 #[v0, .int .i64 n0] h = some (v, h) := by rw [t74 hh, trunc_pure hp x]
theorem x74 {k : Nat} {v0 : Value} {n0 : Int} {h h1 : H} {v : Value} (hh : f74 rn k v0 n0 h = some (v, h1)) (hp : plainO v = false) : ∃ h2, rn 74 #[v0, .int .i64 n0] h = some (v, h2) ∧ Sm h1 h2 ∧ (Ext h h1 → Exw h h2) := trunc_cell hp (t74 hh)
theorem y74 {k : Nat} {v0 : Value} {n0 : Int} {h : H} {v : Value} (hh : f74 rn k v0 n0 h = some (v, h)) : rn 74 #[v0, .int .i64 n0] h = some (v, h) := by rw [t74 hh, trunc_self]

noncomputable def f77_l2 (_rec : Rec) (_k : Nat) (ws0 : List Value) (v2 : Value) (n4 : Int) (ws1 : List Value) (h3 : H) : Option (Ex × List Value × H) :=
  asI .i64 (gv ws1 1) fun n5 =>
  ifB (lt n5 n4) (
    asK (gv ws1 1) fun n6 =>
    six v2 n6 1 fun b2 b3 =>
    ld Tryd.prog h3 3 b2 b3 fun v3 =>
    asI .i64 v3 fun n7 =>
    asI .i64 (gv ws0 1) fun n8 =>
    ifB (lt n8 n7) (
      bld Tryd.prog 32 [(0, gv ws0 1), (1, (.int .i64 n7))] fun v4 =>
      bls Tryd.prog h3 24 1 [(0, v4)] fun v5 h4 =>
      app Tryd.prog h4 24 24 (gv ws1 0) v5 fun v6 h5 =>
      asI .i64 (gv ws1 1) fun n9 =>
      out .normal [v6, (.int .i64 (add .i64 n9 1))] h5) (
      asI .i64 (gv ws1 1) fun n10 =>
      out .normal [gv ws1 0, (.int .i64 (add .i64 n10 1))] h3)) (
    out (.exit 2) [gv ws1 0, gv ws1 1] h3)

noncomputable def f77_l1 (rec : Rec) (k : Nat) (v0 : Value) (n0 : Int) (ws0 : List Value) (h1 : H) : Option (Ex × List Value × H) :=
  asI .i64 (gv ws0 1) fun n1 =>
  ifB (lt n1 n0) (
    asK (gv ws0 1) fun n2 =>
    six v0 n2 1 fun b0 b1 =>
    ld Tryd.prog h1 3 b0 b1 fun v1 =>
    asI .i64 v1 fun n3 =>
    calls rec h1 76 [(.int .i64 n3)] fun v2 h2 =>
    len v2 fun n4 =>
    lp k (f77_l2 rec k ws0 v2 n4) [gv ws0 0, (.int .i64 0)] h2 fun e0 ws2 h6 =>
    onE e0 2 (
      asI .i64 (gv ws0 1) fun n11 =>
      out .normal [gv ws2 0, (.int .i64 (add .i64 n11 1))] h6) (
      none)) (
    out (.exit 0) [gv ws0 0, gv ws0 1] h1)

noncomputable def f77 (rec : Rec) (k : Nat) (v0 : Value) (h0 : H) : Option (Value × H) :=
  len v0 fun n0 =>
  lp k (f77_l1 rec k v0 n0) [(.slice none 0 0), (.int .i64 0)] h0 fun e1 ws3 h7 =>
  onE e1 0 (
    some (gv ws3 0, h7)) (
    none)

theorem e77 (rec : Rec) (k : Nat) (v0 : Value) (h : H) : bodyT Tryd.prog E0 SC (XC Tryd.prog rec k) 77 (Value × H) [.opq v0] h (fun v h => some (v, h)) = f77 rec k v0 h := by kernel_rfl
theorem t77 {k : Nat} {v0 : Value} {h h1 : H} {v : Value} (hh : f77 rn k v0 h = some (v, h1)) : rn 77 #[v0] h = some (v, trunc Tryd.prog h h1 v) :=
  run_of_bodyT (args := [.opq v0]) rfl ((e77 _ _ _ _).trans hh)
theorem p77 {k : Nat} {v0 : Value} {h h1 : H} {v : Value} (hh : f77 rn k v0 h = some (v, h1)) (hp : plainO v = true) (x : Ext h h1) : rn 77 #[v0] h = some (v, h) := by rw [t77 hh, trunc_pure hp x]
theorem x77 {k : Nat} {v0 : Value} {h h1 : H} {v : Value} (hh : f77 rn k v0 h = some (v, h1)) (hp : plainO v = false) : ∃ h2, rn 77 #[v0] h = some (v, h2) ∧ Sm h1 h2 ∧ (Ext h h1 → Exw h h2) := trunc_cell hp (t77 hh)
theorem y77 {k : Nat} {v0 : Value} {h : H} {v : Value} (hh : f77 rn k v0 h = some (v, h)) : rn 77 #[v0] h = some (v, h) := by rw [t77 hh, trunc_self]

noncomputable def f87 (rec : Rec) (_k : Nat) (v0 : Value) (v1 : Value) (h0 : H) : Option (Value × H) :=
  bx h0 32 v1 fun h1 =>
  calls rec h1 85 [v0] fun v2 h2 =>
  aix 2 0 (
    ld Tryd.prog h2 3 (nx h0) (at_ 0 0 1) fun v3 =>
    asI .i64 v3 fun n0 =>
    six v2 n0 1 fun b0 b1 =>
    ld Tryd.prog h2 3 b0 b1 fun v4 =>
    asI .i64 v4 fun n1 =>
    aix 2 1 (
      ld Tryd.prog h2 3 (nx h0) (at_ 0 1 1) fun v5 =>
      asI .i64 v5 fun n2 =>
      nn n2 (
        six v2 n0 1 fun b2 b3 =>
        st Tryd.prog h2 3 b2 b3 (.int .i64 (andNot .i64 n1 (shl .i64 1 n2))) fun h3 =>
        aix 2 1 (
          ld Tryd.prog h3 3 (nx h0) (at_ 0 1 1) fun v6 =>
          asI .i64 v6 fun n3 =>
          six v2 n3 1 fun b4 b5 =>
          ld Tryd.prog h3 3 b4 b5 fun v7 =>
          asI .i64 v7 fun n4 =>
          aix 2 0 (
            ld Tryd.prog h3 3 (nx h0) (at_ 0 0 1) fun v8 =>
            asI .i64 v8 fun n5 =>
            nn n5 (
              six v2 n3 1 fun b6 b7 =>
              st Tryd.prog h3 3 b6 b7 (.int .i64 (andNot .i64 n4 (shl .i64 1 n5))) fun h4 =>
              some (v2, h4)))))))

theorem e87 (rec : Rec) (k : Nat) (v0 : Value) (v1 : Value) (h : H) : bodyT Tryd.prog E0 SC (XC Tryd.prog rec k) 87 (Value × H) [.opq v0, .opq v1] h (fun v h => some (v, h)) = f87 rec k v0 v1 h := by kernel_rfl
theorem t87 {k : Nat} {v0 : Value} {v1 : Value} {h h1 : H} {v : Value} (hh : f87 rn k v0 v1 h = some (v, h1)) : rn 87 #[v0, v1] h = some (v, trunc Tryd.prog h h1 v) :=
  run_of_bodyT (args := [.opq v0, .opq v1]) rfl ((e87 _ _ _ _ _).trans hh)
theorem p87 {k : Nat} {v0 : Value} {v1 : Value} {h h1 : H} {v : Value} (hh : f87 rn k v0 v1 h = some (v, h1)) (hp : plainO v = true) (x : Ext h h1) : rn 87 #[v0, v1] h = some (v, h) := by rw [t87 hh, trunc_pure hp x]
theorem x87 {k : Nat} {v0 : Value} {v1 : Value} {h h1 : H} {v : Value} (hh : f87 rn k v0 v1 h = some (v, h1)) (hp : plainO v = false) : ∃ h2, rn 87 #[v0, v1] h = some (v, h2) ∧ Sm h1 h2 ∧ (Ext h h1 → Exw h h2) := trunc_cell hp (t87 hh)
theorem y87 {k : Nat} {v0 : Value} {v1 : Value} {h : H} {v : Value} (hh : f87 rn k v0 v1 h = some (v, h)) : rn 87 #[v0, v1] h = some (v, h) := by rw [t87 hh, trunc_self]

noncomputable def f102_l1 (rec : Rec) (_k : Nat) (v0 : Value) (v1 : Value) (ws0 : List Value) (h2 : H) : Option (Ex × List Value × H) :=
  len v0 fun n1 =>
  asI .i64 (gv ws0 1) fun n2 =>
  ifB (lt n2 n1) (
    asK (gv ws0 1) fun n3 =>
    six v0 n3 2 fun b0 b1 =>
    ld Tryd.prog h2 32 b0 b1 fun v3 =>
    al h2 32 [(.int .i64 0), (.int .i64 0)] fun h3 =>
    st Tryd.prog h3 32 (nx h2) 0 v3 fun h4 =>
    ld Tryd.prog h4 32 (nx h2) 0 fun v4 =>
    callsV rec h4 v1 [v4] fun v5 h5 =>
    asB v5 fun q0 =>
    ifB (not q0) (
      ld Tryd.prog h5 32 (nx h2) 0 fun v6 =>
      asK (gv ws0 0) fun n4 =>
      six v0 n4 2 fun b2 b3 =>
      st Tryd.prog h5 32 b2 b3 v6 fun h6 =>
      asI .i64 (gv ws0 0) fun n5 =>
      asI .i64 (gv ws0 1) fun n6 =>
      out .normal [(.int .i64 (add .i64 n5 1)), (.int .i64 (add .i64 n6 1))] h6) (
      asI .i64 (gv ws0 1) fun n7 =>
      out .normal [gv ws0 0, (.int .i64 (add .i64 n7 1))] h5)) (
    out (.exit 0) [gv ws0 0, gv ws0 1] h2)

noncomputable def f102 (rec : Rec) (k : Nat) (v0 : Value) (v1 : Value) (h0 : H) : Option (Value × H) :=
  calls rec h0 115 [v0, v1] fun v2 h1 =>
  asI .i64 v2 fun n0 =>
  ifB (eq n0 (-1)) (
    some (v0, h1)) (
    lp k (f102_l1 rec k v0 v1) [(.int .i64 n0), (.int .i64 (add .i64 n0 1))] h1 fun e0 ws1 h7 =>
    onE e0 0 (
      sli Tryd.prog h7 24 v0 (some (gv ws1 0)) none none fun v7 =>
      clr Tryd.prog h7 24 v7 fun h8 =>
      sli Tryd.prog h8 24 v0 none (some (gv ws1 0)) none fun v8 =>
      some (v8, h8)) (
      none))

theorem e102 (rec : Rec) (k : Nat) (v0 : Value) (v1 : Value) (h : H) : bodyT Tryd.prog E0 SC (XC Tryd.prog rec k) 102 (Value × H) [.opq v0, .opq v1] h (fun v h => some (v, h)) = f102 rec k v0 v1 h := by kernel_rfl
theorem t102 {k : Nat} {v0 : Value} {v1 : Value} {h h1 : H} {v : Value} (hh : f102 rn k v0 v1 h = some (v, h1)) : rn 102 #[v0, v1] h = some (v, trunc Tryd.prog h h1 v) :=
  run_of_bodyT (args := [.opq v0, .opq v1]) rfl ((e102 _ _ _ _ _).trans hh)
theorem p102 {k : Nat} {v0 : Value} {v1 : Value} {h h1 : H} {v : Value} (hh : f102 rn k v0 v1 h = some (v, h1)) (hp : plainO v = true) (x : Ext h h1) : rn 102 #[v0, v1] h = some (v, h) := by rw [t102 hh, trunc_pure hp x]
theorem x102 {k : Nat} {v0 : Value} {v1 : Value} {h h1 : H} {v : Value} (hh : f102 rn k v0 v1 h = some (v, h1)) (hp : plainO v = false) : ∃ h2, rn 102 #[v0, v1] h = some (v, h2) ∧ Sm h1 h2 ∧ (Ext h h1 → Exw h h2) := trunc_cell hp (t102 hh)
theorem y102 {k : Nat} {v0 : Value} {v1 : Value} {h : H} {v : Value} (hh : f102 rn k v0 v1 h = some (v, h)) : rn 102 #[v0, v1] h = some (v, h) := by rw [t102 hh, trunc_self]

noncomputable def f103 (rec : Rec) (_k : Nat) (v0 : Value) (v1 : Value) (h0 : H) : Option (Value × H) :=
  bx h0 32 v0 fun h1 =>
  asP v1 fun b0 b1 =>
  ld Tryd.prog h1 78 b0 b1 fun v2 =>
  ld Tryd.prog h1 32 (nx h0) 0 fun v3 =>
  calls rec h1 87 [v2, v3] fun v4 h2 =>
  aix 2 0 (
    ld Tryd.prog h2 3 (nx h0) (at_ 0 0 1) fun v5 =>
    asI .i64 v5 fun n0 =>
    calls rec h2 65 [v4] fun v6 h3 =>
    asI .i64 v6 fun n1 =>
    ck (freq (nx h0) (nx h2) (same h3 h2)) (
      calls rec h3 78 [v4, (.int .i64 n0), (.int .i64 n1)] fun v7 h4 =>
      asI .i64 v7 fun n2 =>
      aix 2 1 (
        ld Tryd.prog h4 3 (nx h0) (at_ 0 1 1) fun v8 =>
        asI .i64 v8 fun n3 =>
        ck (freq (nx h0) (nx h3) (same h4 h3)) (
          ck (freq (nx h0) (nx h2) (same h3 h2)) (
            nn n3 (
              some ((.bool (eq (and .i64 (shr .i64 n2 n3) 1) 1)), h4)))))))

theorem e103 (rec : Rec) (k : Nat) (v0 : Value) (v1 : Value) (h : H) : bodyT Tryd.prog E0 SC (XC Tryd.prog rec k) 103 (Value × H) [.opq v0, .opq v1] h (fun v h => some (v, h)) = f103 rec k v0 v1 h := by kernel_rfl
theorem t103 {k : Nat} {v0 : Value} {v1 : Value} {h h1 : H} {v : Value} (hh : f103 rn k v0 v1 h = some (v, h1)) : rn 103 #[v0, v1] h = some (v, trunc Tryd.prog h h1 v) :=
  run_of_bodyT (args := [.opq v0, .opq v1]) rfl ((e103 _ _ _ _ _).trans hh)
theorem p103 {k : Nat} {v0 : Value} {v1 : Value} {h h1 : H} {v : Value} (hh : f103 rn k v0 v1 h = some (v, h1)) (hp : plainO v = true) (x : Ext h h1) : rn 103 #[v0, v1] h = some (v, h) := by rw [t103 hh, trunc_pure hp x]
theorem x103 {k : Nat} {v0 : Value} {v1 : Value} {h h1 : H} {v : Value} (hh : f103 rn k v0 v1 h = some (v, h1)) (hp : plainO v = false) : ∃ h2, rn 103 #[v0, v1] h = some (v, h2) ∧ Sm h1 h2 ∧ (Ext h h1 → Exw h h2) := trunc_cell hp (t103 hh)
theorem y103 {k : Nat} {v0 : Value} {v1 : Value} {h : H} {v : Value} (hh : f103 rn k v0 v1 h = some (v, h)) : rn 103 #[v0, v1] h = some (v, h) := by rw [t103 hh, trunc_self]

noncomputable def f115_l1 (rec : Rec) (_k : Nat) (v0 : Value) (v1 : Value) (n0 : Int) (ws0 : List Value) (h1 : H) : Option (Ex × List Value × H) :=
  asI .i64 (gv ws0 1) fun n1 =>
  ifB (lt n1 n0) (
    asK (gv ws0 1) fun n2 =>
    six v0 n2 2 fun b0 b1 =>
    ld Tryd.prog h1 32 b0 b1 fun v2 =>
    callsV rec h1 v1 [v2] fun v3 h2 =>
    asB v3 fun q0 =>
    ifB q0 (
      out .ret [gv ws0 1, gv ws0 1] h2) (
      asI .i64 (gv ws0 1) fun n3 =>
      out .normal [gv ws0 0, (.int .i64 (add .i64 n3 1))] h2)) (
    out (.exit 0) [gv ws0 0, gv ws0 1] h1)

noncomputable def f115 (rec : Rec) (k : Nat) (v0 : Value) (v1 : Value) (h0 : H) : Option (Value × H) :=
  len v0 fun n0 =>
  lp k (f115_l1 rec k v0 v1 n0) [(.int .i64 0), (.int .i64 0)] h0 fun e0 ws1 h3 =>
  onE e0 0 (
    some ((.int .i64 (-1)), h3)) (
    onR e0 (
      some (gv ws1 0, h3)))

theorem e115 (rec : Rec) (k : Nat) (v0 : Value) (v1 : Value) (h : H) : bodyT Tryd.prog E0 SC (XC Tryd.prog rec k) 115 (Value × H) [.opq v0, .opq v1] h (fun v h => some (v, h)) = f115 rec k v0 v1 h := by kernel_rfl
theorem t115 {k : Nat} {v0 : Value} {v1 : Value} {h h1 : H} {v : Value} (hh : f115 rn k v0 v1 h = some (v, h1)) : rn 115 #[v0, v1] h = some (v, trunc Tryd.prog h h1 v) :=
  run_of_bodyT (args := [.opq v0, .opq v1]) rfl ((e115 _ _ _ _ _).trans hh)
theorem p115 {k : Nat} {v0 : Value} {v1 : Value} {h h1 : H} {v : Value} (hh : f115 rn k v0 v1 h = some (v, h1)) (hp : plainO v = true) (x : Ext h h1) : rn 115 #[v0, v1] h = some (v, h) := by rw [t115 hh, trunc_pure hp x]
theorem x115 {k : Nat} {v0 : Value} {v1 : Value} {h h1 : H} {v : Value} (hh : f115 rn k v0 v1 h = some (v, h1)) (hp : plainO v = false) : ∃ h2, rn 115 #[v0, v1] h = some (v, h2) ∧ Sm h1 h2 ∧ (Ext h h1 → Exw h h2) := trunc_cell hp (t115 hh)
theorem y115 {k : Nat} {v0 : Value} {v1 : Value} {h : H} {v : Value} (hh : f115 rn k v0 v1 h = some (v, h)) : rn 115 #[v0, v1] h = some (v, h) := by rw [t115 hh, trunc_self]

end Go.AM
