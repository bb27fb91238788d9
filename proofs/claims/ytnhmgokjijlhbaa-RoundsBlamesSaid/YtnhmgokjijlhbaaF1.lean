/- The staged forms of functions 4, 18, 20, 21, 22, 53, 56, 57, 58, 87, 88, and what calls of these answer. -/
import Derived.Test.YtnhmgokjijlhbaaSx
namespace Go.AM
open Go.Proofs

noncomputable def f4 (rec : Rec) (_k : Nat) (v0 : Value) (h0 : H) : Option (Value × H) :=
  calls rec h0 18 [v0] fun v1 h1 =>
  calls rec h1 20 [v1] fun v2 h2 =>
  ext v2 0 fun v3 =>
  ext v2 1 fun v4 =>
  asI .i64 v4 fun n0 =>
  al h2 31 [(.int .i64 0), (.int .i64 0)] fun h3 =>
  st Try.prog h3 31 (nx h2) 0 v3 fun h4 =>
  calls rec h4 21 [v0] fun v5 h5 =>
  asB v5 fun q0 =>
  ifB (not q0) (
    ld Try.prog h5 31 (nx h2) 0 fun v6 =>
    bld Try.prog 31 [] fun v7 =>
    eqv Try.prog 31 v6 v7 fun q1 =>
    ifB q1 (
      ifB (eq n0 2) (
        calls rec h5 19 [] fun v8 h6 =>
        asB v8 fun q2 =>
        some ((.bool q2), h6)) (
        some ((.bool false), h5))) (
      some ((.bool false), h5))) (
    ld Try.prog h5 31 (nx h2) 0 fun v9 =>
    calls rec h5 22 [v0] fun v10 h7 =>
    ck (freq (nx h2) (nx h5) (same h7 h5)) (
      eqv Try.prog 31 v9 v10 fun q3 =>
      ifB q3 (
        ifB (eq n0 0) (
          calls rec h7 19 [] fun v11 h8 =>
          asB v11 fun q4 =>
          some ((.bool q4), h8)) (
          some ((.bool false), h7))) (
        some ((.bool false), h7))))

theorem e4 (rec : Rec) (k : Nat) (v0 : Value) (h : H) : bodyT Try.prog E0 SC (XC Try.prog rec k) 4 (Value × H) [.opq v0] h (fun v h => some (v, h)) = f4 rec k v0 h := by kernel_rfl
theorem t4 {k : Nat} {v0 : Value} {h h1 : H} {v : Value} (hh : f4 rn k v0 h = some (v, h1)) : rn 4 #[v0] h = some (v, trunc Try.prog h h1 v) :=
  run_of_bodyT (args := [.opq v0]) rfl ((e4 _ _ _ _).trans hh)
theorem p4 {k : Nat} {v0 : Value} {h h1 : H} {v : Value} (hh : f4 rn k v0 h = some (v, h1)) (hp : plainO v = true) (x : Ext h h1) : rn 4 #[v0] h = some (v, h) := by rw [t4 hh, trunc_pure hp x]
theorem x4 {k : Nat} {v0 : Value} {h h1 : H} {v : Value} (hh : f4 rn k v0 h = some (v, h1)) (hp : plainO v = false) : rn 4 #[v0] h = some (v, h1) := by rw [t4 hh, trunc_not hp]

noncomputable def f18 (rec : Rec) (_k : Nat) (v0 : Value) (h0 : H) : Option (Value × H) :=
  len v0 fun n0 =>
  sli Try.prog h0 22 v0 none (some (.int .i64 (imin n0 14))) none fun v1 =>
  calls rec h0 56 [v1] fun v2 h1 =>
  some (v2, h1)

theorem e18 (rec : Rec) (k : Nat) (v0 : Value) (h : H) : bodyT Try.prog E0 SC (XC Try.prog rec k) 18 (Value × H) [.opq v0] h (fun v h => some (v, h)) = f18 rec k v0 h := by kernel_rfl
theorem t18 {k : Nat} {v0 : Value} {h h1 : H} {v : Value} (hh : f18 rn k v0 h = some (v, h1)) : rn 18 #[v0] h = some (v, trunc Try.prog h h1 v) :=
  run_of_bodyT (args := [.opq v0]) rfl ((e18 _ _ _ _).trans hh)
theorem p18 {k : Nat} {v0 : Value} {h h1 : H} {v : Value} (hh : f18 rn k v0 h = some (v, h1)) (hp : plainO v = true) (x : Ext h h1) : rn 18 #[v0] h = some (v, h) := by rw [t18 hh, trunc_pure hp x]
theorem x18 {k : Nat} {v0 : Value} {h h1 : H} {v : Value} (hh : f18 rn k v0 h = some (v, h1)) (hp : plainO v = false) : rn 18 #[v0] h = some (v, h1) := by rw [t18 hh, trunc_not hp]

noncomputable def f20_l1 (_rec : Rec) (_k : Nat) (v0 : Value) (n0 : Int) (n1 : Int) (ws0 : List Value) (h5 : H) : Option (Ex × List Value × H) :=
  asI .i64 (gv ws0 1) fun n2 =>
  ifB (lt n2 n1) (
    asK (gv ws0 1) fun n3 =>
    six v0 n3 1 fun b0 b1 =>
    ld Try.prog h5 3 b0 b1 fun v5 =>
    asI .i64 v5 fun n4 =>
    nz n4 (
      asI .i64 (gv ws0 0) fun n5 =>
      asI .i64 (gv ws0 1) fun n6 =>
      out .normal [(.int .i64 (add .i64 n5 (quo .i64 n0 n4))), (.int .i64 (add .i64 n6 1))] h5)) (
    out (.exit 0) [gv ws0 0, gv ws0 1] h5)

noncomputable def f20_l2 (_rec : Rec) (_k : Nat)  (ws2 : List Value) (h7 : H) : Option (Ex × List Value × H) :=
  asI .i64 (gv ws2 1) fun n7 =>
  ifB (not (eq n7 0)) (
    asI .i64 (gv ws2 0) fun n8 =>
    asI .i64 (gv ws2 1) fun n9 =>
    nz n9 (
      out .normal [gv ws2 1, (.int .i64 (rem .i64 n8 n9))] h7)) (
    out (.exit 2) [gv ws2 0, gv ws2 1] h7)

noncomputable def f20 (rec : Rec) (k : Nat) (v0 : Value) (h0 : H) : Option (Value × H) :=
  al h0 31 [(.int .i64 0), (.int .i64 0)] fun h1 =>
  calls rec h1 53 [v0] fun v1 h2 =>
  asB v1 fun q0 =>
  ifB (not q0) (
    bld Try.prog 31 [] fun v2 =>
    st Try.prog h2 31 (nx h0) 0 v2 fun h3 =>
    ld Try.prog h3 31 (nx h0) 0 fun v3 =>
    some ((.tuple #[v3, (.int .i64 2)]), h3)) (
    calls rec h2 57 [v0] fun v4 h4 =>
    asI .i64 v4 fun n0 =>
    len v0 fun n1 =>
    lp k (f20_l1 rec k v0 n0 n1) [(.int .i64 0), (.int .i64 0)] h4 fun e0 ws1 h6 =>
    onE e0 0 (
      lp k (f20_l2 rec k) [gv ws1 0, (.int .i64 n0)] h6 fun e1 ws3 h8 =>
      onE e1 2 (
        asI .i64 (gv ws1 0) fun n10 =>
        asI .i64 (gv ws3 0) fun n11 =>
        nz n11 (
          asI .i64 (gv ws3 0) fun n12 =>
          nz n12 (
            bld Try.prog 31 [(0, (.int .i64 (quo .i64 n10 n11))), (1, (.int .i64 (quo .i64 n0 n12)))] fun v6 =>
            st Try.prog h8 31 (nx h0) 0 v6 fun h9 =>
            ld Try.prog h9 31 (nx h0) 0 fun v7 =>
            some ((.tuple #[v7, (.int .i64 0)]), h9)))) (
        none)) (
      none))

theorem e20 (rec : Rec) (k : Nat) (v0 : Value) (h : H) : bodyT Try.prog E0 SC (XC Try.prog rec k) 20 (Value × H) [.opq v0] h (fun v h => some (v, h)) = f20 rec k v0 h := by kernel_rfl
theorem t20 {k : Nat} {v0 : Value} {h h1 : H} {v : Value} (hh : f20 rn k v0 h = some (v, h1)) : rn 20 #[v0] h = some (v, trunc Try.prog h h1 v) :=
  run_of_bodyT (args := [.opq v0]) rfl ((e20 _ _ _ _).trans hh)
theorem p20 {k : Nat} {v0 : Value} {h h1 : H} {v : Value} (hh : f20 rn k v0 h = some (v, h1)) (hp : plainO v = true) (x : Ext h h1) : rn 20 #[v0] h = some (v, h) := by rw [t20 hh, trunc_pure hp x]
theorem x20 {k : Nat} {v0 : Value} {h h1 : H} {v : Value} (hh : f20 rn k v0 h = some (v, h1)) (hp : plainO v = false) : rn 20 #[v0] h = some (v, h1) := by rw [t20 hh, trunc_not hp]

noncomputable def f21_l1 (_rec : Rec) (_k : Nat) (v0 : Value) (n0 : Int) (ws0 : List Value) (h1 : H) : Option (Ex × List Value × H) :=
  asI .i64 (gv ws0 2) fun n1 =>
  ifB (lt n1 n0) (
    asK (gv ws0 2) fun n2 =>
    six v0 n2 1 fun b0 b1 =>
    ld Try.prog h1 3 b0 b1 fun v1 =>
    asI .i64 v1 fun n3 =>
    ifB (lt n3 1) (
      out .ret [(.bool false), gv ws0 1, gv ws0 2] h1) (
      ifB (lt 12 n3) (
        out .ret [(.bool false), gv ws0 1, gv ws0 2] h1) (
        asI .i64 (gv ws0 1) fun n4 =>
        ifB (lt 4000 n4) (
          out .ret [(.bool false), gv ws0 1, gv ws0 2] h1) (
          asI .i64 (gv ws0 1) fun n5 =>
          asI .i64 (gv ws0 2) fun n6 =>
          out .normal [gv ws0 0, (.int .i64 (mul .i64 n5 n3)), (.int .i64 (add .i64 n6 1))] h1)))) (
    out (.exit 0) [gv ws0 0, gv ws0 1, gv ws0 2] h1)

noncomputable def f21 (rec : Rec) (k : Nat) (v0 : Value) (h0 : H) : Option (Value × H) :=
  len v0 fun n0 =>
  lp k (f21_l1 rec k v0 n0) [(.bool false), (.int .i64 1), (.int .i64 0)] h0 fun e0 ws1 h2 =>
  onE e0 0 (
    len v0 fun n7 =>
    ifB (le 1 n7) (
      len v0 fun n8 =>
      ifB (le n8 5) (
        asI .i64 (gv ws1 1) fun n9 =>
        some ((.bool (le n9 4000)), h2)) (
        some ((.bool false), h2))) (
      some ((.bool false), h2))) (
    onR e0 (
      some (gv ws1 0, h2)))

theorem e21 (rec : Rec) (k : Nat) (v0 : Value) (h : H) : bodyT Try.prog E0 SC (XC Try.prog rec k) 21 (Value × H) [.opq v0] h (fun v h => some (v, h)) = f21 rec k v0 h := by kernel_rfl
theorem t21 {k : Nat} {v0 : Value} {h h1 : H} {v : Value} (hh : f21 rn k v0 h = some (v, h1)) : rn 21 #[v0] h = some (v, trunc Try.prog h h1 v) :=
  run_of_bodyT (args := [.opq v0]) rfl ((e21 _ _ _ _).trans hh)
theorem p21 {k : Nat} {v0 : Value} {h h1 : H} {v : Value} (hh : f21 rn k v0 h = some (v, h1)) (hp : plainO v = true) (x : Ext h h1) : rn 21 #[v0] h = some (v, h) := by rw [t21 hh, trunc_pure hp x]
theorem x21 {k : Nat} {v0 : Value} {h h1 : H} {v : Value} (hh : f21 rn k v0 h = some (v, h1)) (hp : plainO v = false) : rn 21 #[v0] h = some (v, h1) := by rw [t21 hh, trunc_not hp]

noncomputable def f22_l1 (rec : Rec) (_k : Nat) (v0 : Value) (h1 : H) (n0 : Int) (ws0 : List Value) (h4 : H) : Option (Ex × List Value × H) :=
  asI .i64 (gv ws0 0) fun n1 =>
  ifB (lt n1 n0) (
    asK (gv ws0 0) fun n2 =>
    six v0 n2 1 fun b0 b1 =>
    ld Try.prog h4 3 b0 b1 fun v2 =>
    asI .i64 v2 fun n3 =>
    ld Try.prog h4 3 (nx h1) 0 fun v3 =>
    asI .i64 v3 fun n4 =>
    ld Try.prog h4 3 (nx h1) (off 0 1) fun v4 =>
    asI .i64 v4 fun n5 =>
    ld Try.prog h4 3 (nx h1) (off 0 1) fun v5 =>
    asI .i64 v5 fun n6 =>
    bld Try.prog 31 [(0, (.int .i64 (add .i64 (mul .i64 n4 n3) n5))), (1, (.int .i64 (mul .i64 n6 n3)))] fun v6 =>
    st Try.prog h4 31 (nx h1) 0 v6 fun h5 =>
    ld Try.prog h5 3 (nx h1) 0 fun v7 =>
    asI .i64 v7 fun n7 =>
    ld Try.prog h5 3 (nx h1) (off 0 1) fun v8 =>
    asI .i64 v8 fun n8 =>
    calls rec h5 58 [(.int .i64 n7), (.int .i64 n8)] fun v9 h6 =>
    asI .i64 v9 fun n9 =>
    ld Try.prog h6 3 (nx h1) 0 fun v10 =>
    asI .i64 v10 fun n10 =>
    nz n9 (
      ld Try.prog h6 3 (nx h1) (off 0 1) fun v11 =>
      asI .i64 v11 fun n11 =>
      nz n9 (
        bld Try.prog 31 [(0, (.int .i64 (quo .i64 n10 n9))), (1, (.int .i64 (quo .i64 n11 n9)))] fun v12 =>
        st Try.prog h6 31 (nx h1) 0 v12 fun h7 =>
        asI .i64 (gv ws0 0) fun n12 =>
        out .normal [(.int .i64 (add .i64 n12 1))] h7))) (
    out (.exit 0) [gv ws0 0] h4)

noncomputable def f22 (rec : Rec) (k : Nat) (v0 : Value) (h0 : H) : Option (Value × H) :=
  al h0 31 [(.int .i64 0), (.int .i64 0)] fun h1 =>
  bld Try.prog 31 [(1, (.int .i64 1))] fun v1 =>
  al h1 31 [(.int .i64 0), (.int .i64 0)] fun h2 =>
  st Try.prog h2 31 (nx h1) 0 v1 fun h3 =>
  len v0 fun n0 =>
  lp k (f22_l1 rec k v0 h1 n0) [(.int .i64 0)] h3 fun e0 _ h8 =>
  onE e0 0 (
    ld Try.prog h8 31 (nx h1) 0 fun v13 =>
    st Try.prog h8 31 (nx h0) 0 v13 fun h9 =>
    ld Try.prog h9 31 (nx h0) 0 fun v14 =>
    some (v14, h9)) (
    none)

theorem e22 (rec : Rec) (k : Nat) (v0 : Value) (h : H) : bodyT Try.prog E0 SC (XC Try.prog rec k) 22 (Value × H) [.opq v0] h (fun v h => some (v, h)) = f22 rec k v0 h := by kernel_rfl
theorem t22 {k : Nat} {v0 : Value} {h h1 : H} {v : Value} (hh : f22 rn k v0 h = some (v, h1)) : rn 22 #[v0] h = some (v, trunc Try.prog h h1 v) :=
  run_of_bodyT (args := [.opq v0]) rfl ((e22 _ _ _ _).trans hh)
theorem p22 {k : Nat} {v0 : Value} {h h1 : H} {v : Value} (hh : f22 rn k v0 h = some (v, h1)) (hp : plainO v = true) (x : Ext h h1) : rn 22 #[v0] h = some (v, h) := by rw [t22 hh, trunc_pure hp x]
theorem x22 {k : Nat} {v0 : Value} {h h1 : H} {v : Value} (hh : f22 rn k v0 h = some (v, h1)) (hp : plainO v = false) : rn 22 #[v0] h = some (v, h1) := by rw [t22 hh, trunc_not hp]

noncomputable def f53 (rec : Rec) (_k : Nat) (v0 : Value) (h0 : H) : Option (Value × H) :=
  len v0 fun n0 =>
  ifB (lt n0 1) (
    some ((.bool false), h0)) (
    len v0 fun n1 =>
    ifB (lt 5 n1) (
      some ((.bool false), h0)) (
      calls rec h0 87 [v0] fun v1 h1 =>
      asI .i64 v1 fun n2 =>
      ifB (lt n2 1) (
        some ((.bool false), h1)) (
        calls rec h1 88 [v0] fun v2 h2 =>
        asI .i64 v2 fun n3 =>
        ifB (lt 12 n3) (
          some ((.bool false), h2)) (
          calls rec h2 57 [v0] fun v3 h3 =>
          asI .i64 v3 fun n4 =>
          some ((.bool (le n4 4000)), h3)))))

theorem e53 (rec : Rec) (k : Nat) (v0 : Value) (h : H) : bodyT Try.prog E0 SC (XC Try.prog rec k) 53 (Value × H) [.opq v0] h (fun v h => some (v, h)) = f53 rec k v0 h := by kernel_rfl
theorem t53 {k : Nat} {v0 : Value} {h h1 : H} {v : Value} (hh : f53 rn k v0 h = some (v, h1)) : rn 53 #[v0] h = some (v, trunc Try.prog h h1 v) :=
  run_of_bodyT (args := [.opq v0]) rfl ((e53 _ _ _ _).trans hh)
theorem p53 {k : Nat} {v0 : Value} {h h1 : H} {v : Value} (hh : f53 rn k v0 h = some (v, h1)) (hp : plainO v = true) (x : Ext h h1) : rn 53 #[v0] h = some (v, h) := by rw [t53 hh, trunc_pure hp x]
theorem x53 {k : Nat} {v0 : Value} {h h1 : H} {v : Value} (hh : f53 rn k v0 h = some (v, h1)) (hp : plainO v = false) : rn 53 #[v0] h = some (v, h1) := by rw [t53 hh, trunc_not hp]

noncomputable def f56 (_rec : Rec) (_k : Nat) (v0 : Value) (h0 : H) : Option (Value × H) :=
  eqv Try.prog 22 v0 (.slice none 0 0) fun q0 =>
  ifB q0 (
    some ((.slice none 0 0), h0)) (
    bls Try.prog h0 22 0 [] fun v1 h1 =>
    app Try.prog h1 22 22 v1 v0 fun v2 h2 =>
    some (v2, h2))

theorem e56 (rec : Rec) (k : Nat) (v0 : Value) (h : H) : bodyT Try.prog E0 SC (XC Try.prog rec k) 56 (Value × H) [.opq v0] h (fun v h => some (v, h)) = f56 rec k v0 h := by kernel_rfl
theorem t56 {k : Nat} {v0 : Value} {h h1 : H} {v : Value} (hh : f56 rn k v0 h = some (v, h1)) : rn 56 #[v0] h = some (v, trunc Try.prog h h1 v) :=
  run_of_bodyT (args := [.opq v0]) rfl ((e56 _ _ _ _).trans hh)
theorem p56 {k : Nat} {v0 : Value} {h h1 : H} {v : Value} (hh : f56 rn k v0 h = some (v, h1)) (hp : plainO v = true) (x : Ext h h1) : rn 56 #[v0] h = some (v, h) := by rw [t56 hh, trunc_pure hp x]
theorem x56 {k : Nat} {v0 : Value} {h h1 : H} {v : Value} (hh : f56 rn k v0 h = some (v, h1)) (hp : plainO v = false) : rn 56 #[v0] h = some (v, h1) := by rw [t56 hh, trunc_not hp]

noncomputable def f57_l1 (_rec : Rec) (_k : Nat) (v0 : Value) (n0 : Int) (ws0 : List Value) (h1 : H) : Option (Ex × List Value × H) :=
  asI .i64 (gv ws0 1) fun n1 =>
  ifB (lt n1 n0) (
    asK (gv ws0 1) fun n2 =>
    six v0 n2 1 fun b0 b1 =>
    ld Try.prog h1 3 b0 b1 fun v1 =>
    asI .i64 v1 fun n3 =>
    asI .i64 (gv ws0 0) fun n4 =>
    asI .i64 (gv ws0 1) fun n5 =>
    out .normal [(.int .i64 (mul .i64 n4 n3)), (.int .i64 (add .i64 n5 1))] h1) (
    out (.exit 0) [gv ws0 0, gv ws0 1] h1)

noncomputable def f57 (rec : Rec) (k : Nat) (v0 : Value) (h0 : H) : Option (Value × H) :=
  len v0 fun n0 =>
  lp k (f57_l1 rec k v0 n0) [(.int .i64 1), (.int .i64 0)] h0 fun e0 ws1 h2 =>
  onE e0 0 (
    some (gv ws1 0, h2)) (
    none)

theorem e57 (rec : Rec) (k : Nat) (v0 : Value) (h : H) : bodyT Try.prog E0 SC (XC Try.prog rec k) 57 (Value × H) [.opq v0] h (fun v h => some (v, h)) = f57 rec k v0 h := by kernel_rfl
theorem t57 {k : Nat} {v0 : Value} {h h1 : H} {v : Value} (hh : f57 rn k v0 h = some (v, h1)) : rn 57 #[v0] h = some (v, trunc Try.prog h h1 v) :=
  run_of_bodyT (args := [.opq v0]) rfl ((e57 _ _ _ _).trans hh)
theorem p57 {k : Nat} {v0 : Value} {h h1 : H} {v : Value} (hh : f57 rn k v0 h = some (v, h1)) (hp : plainO v = true) (x : Ext h h1) : rn 57 #[v0] h = some (v, h) := by rw [t57 hh, trunc_pure hp x]
theorem x57 {k : Nat} {v0 : Value} {h h1 : H} {v : Value} (hh : f57 rn k v0 h = some (v, h1)) (hp : plainO v = false) : rn 57 #[v0] h = some (v, h1) := by rw [t57 hh, trunc_not hp]

noncomputable def f58_l1 (_rec : Rec) (_k : Nat)  (ws0 : List Value) (h1 : H) : Option (Ex × List Value × H) :=
  asI .i64 (gv ws0 1) fun n2 =>
  ifB (not (eq n2 0)) (
    asI .i64 (gv ws0 0) fun n3 =>
    asI .i64 (gv ws0 1) fun n4 =>
    nz n4 (
      out .normal [gv ws0 1, (.int .i64 (rem .i64 n3 n4))] h1)) (
    out (.exit 0) [gv ws0 0, gv ws0 1] h1)

noncomputable def f58 (rec : Rec) (k : Nat) (n0 : Int) (n1 : Int) (h0 : H) : Option (Value × H) :=
  lp k (f58_l1 rec k) [(.int .i64 n0), (.int .i64 n1)] h0 fun e0 ws1 h2 =>
  onE e0 0 (
    some (gv ws1 0, h2)) (
    none)

theorem e58 (rec : Rec) (k : Nat) (n0 : Int) (n1 : Int) (h : H) : bodyT Try.prog E0 SC (XC Try.prog rec k) 58 (Value × H) [.int .i64 n0, .int .i64 n1] h (fun v h => some (v, h)) = f58 rec k n0 n1 h := by kernel_rfl
theorem t58 {k : Nat} {n0 : Int} {n1 : Int} {h h1 : H} {v : Value} (hh : f58 rn k n0 n1 h = some (v, h1)) : rn 58 #[.int .i64 n0, .int .i64 n1] h = some (v, trunc Try.prog h h1 v) :=
  run_of_bodyT (args := [.int .i64 n0, .int .i64 n1]) rfl ((e58 _ _ _ _ _).trans hh)
theorem p58 {k : Nat} {n0 : Int} {n1 : Int} {h h1 : H} {v : Value} (hh : f58 rn k n0 n1 h = some (v, h1)) (hp : plainO v = true) (x : Ext h h1) : rn 58 #[.int .i64 n0, .int .i64 n1] h = some (v, h) := by rw [t58 hh, trunc_pure hp x]
theorem x58 {k : Nat} {n0 : Int} {n1 : Int} {h h1 : H} {v : Value} (hh : f58 rn k n0 n1 h = some (v, h1)) (hp : plainO v = false) : rn 58 #[.int .i64 n0, .int .i64 n1] h = some (v, h1) := by rw [t58 hh, trunc_not hp]

noncomputable def f87_l1 (_rec : Rec) (_k : Nat) (v0 : Value) (ws0 : List Value) (h1 : H) : Option (Ex × List Value × H) :=
  len v0 fun n2 =>
  asI .i64 (gv ws0 1) fun n3 =>
  ifB (lt n3 n2) (
    asK (gv ws0 1) fun n4 =>
    six v0 n4 1 fun b2 b3 =>
    ld Try.prog h1 3 b2 b3 fun v2 =>
    asI .i64 v2 fun n5 =>
    asI .i64 (gv ws0 0) fun n6 =>
    asI .i64 (gv ws0 1) fun n7 =>
    out .normal [(.int .i64 (imin n6 n5)), (.int .i64 (add .i64 n7 1))] h1) (
    out (.exit 0) [gv ws0 0, gv ws0 1] h1)

noncomputable def f87 (rec : Rec) (k : Nat) (v0 : Value) (h0 : H) : Option (Value × H) :=
  len v0 fun n0 =>
  ifB (lt n0 1) (
    none) (
    six v0 0 1 fun b0 b1 =>
    ld Try.prog h0 3 b0 b1 fun v1 =>
    asI .i64 v1 fun n1 =>
    lp k (f87_l1 rec k v0) [(.int .i64 n1), (.int .i64 1)] h0 fun e0 ws1 h2 =>
    onE e0 0 (
      some (gv ws1 0, h2)) (
      none))

theorem e87 (rec : Rec) (k : Nat) (v0 : Value) (h : H) : bodyT Try.prog E0 SC (XC Try.prog rec k) 87 (Value × H) [.opq v0] h (fun v h => some (v, h)) = f87 rec k v0 h := by kernel_rfl
theorem t87 {k : Nat} {v0 : Value} {h h1 : H} {v : Value} (hh : f87 rn k v0 h = some (v, h1)) : rn 87 #[v0] h = some (v, trunc Try.prog h h1 v) :=
  run_of_bodyT (args := [.opq v0]) rfl ((e87 _ _ _ _).trans hh)
theorem p87 {k : Nat} {v0 : Value} {h h1 : H} {v : Value} (hh : f87 rn k v0 h = some (v, h1)) (hp : plainO v = true) (x : Ext h h1) : rn 87 #[v0] h = some (v, h) := by rw [t87 hh, trunc_pure hp x]
theorem x87 {k : Nat} {v0 : Value} {h h1 : H} {v : Value} (hh : f87 rn k v0 h = some (v, h1)) (hp : plainO v = false) : rn 87 #[v0] h = some (v, h1) := by rw [t87 hh, trunc_not hp]

noncomputable def f88_l1 (_rec : Rec) (_k : Nat) (v0 : Value) (ws0 : List Value) (h1 : H) : Option (Ex × List Value × H) :=
  len v0 fun n2 =>
  asI .i64 (gv ws0 1) fun n3 =>
  ifB (lt n3 n2) (
    asK (gv ws0 1) fun n4 =>
    six v0 n4 1 fun b2 b3 =>
    ld Try.prog h1 3 b2 b3 fun v2 =>
    asI .i64 v2 fun n5 =>
    asI .i64 (gv ws0 0) fun n6 =>
    asI .i64 (gv ws0 1) fun n7 =>
    out .normal [(.int .i64 (imax n6 n5)), (.int .i64 (add .i64 n7 1))] h1) (
    out (.exit 0) [gv ws0 0, gv ws0 1] h1)

noncomputable def f88 (rec : Rec) (k : Nat) (v0 : Value) (h0 : H) : Option (Value × H) :=
  len v0 fun n0 =>
  ifB (lt n0 1) (
    none) (
    six v0 0 1 fun b0 b1 =>
    ld Try.prog h0 3 b0 b1 fun v1 =>
    asI .i64 v1 fun n1 =>
    lp k (f88_l1 rec k v0) [(.int .i64 n1), (.int .i64 1)] h0 fun e0 ws1 h2 =>
    onE e0 0 (
      some (gv ws1 0, h2)) (
      none))

theorem e88 (rec : Rec) (k : Nat) (v0 : Value) (h : H) : bodyT Try.prog E0 SC (XC Try.prog rec k) 88 (Value × H) [.opq v0] h (fun v h => some (v, h)) = f88 rec k v0 h := by kernel_rfl
theorem t88 {k : Nat} {v0 : Value} {h h1 : H} {v : Value} (hh : f88 rn k v0 h = some (v, h1)) : rn 88 #[v0] h = some (v, trunc Try.prog h h1 v) :=
  run_of_bodyT (args := [.opq v0]) rfl ((e88 _ _ _ _).trans hh)
theorem p88 {k : Nat} {v0 : Value} {h h1 : H} {v : Value} (hh : f88 rn k v0 h = some (v, h1)) (hp : plainO v = true) (x : Ext h h1) : rn 88 #[v0] h = some (v, h) := by rw [t88 hh, trunc_pure hp x]
theorem x88 {k : Nat} {v0 : Value} {h h1 : H} {v : Value} (hh : f88 rn k v0 h = some (v, h1)) (hp : plainO v = false) : rn 88 #[v0] h = some (v, h1) := by rw [t88 hh, trunc_not hp]

end Go.AM
