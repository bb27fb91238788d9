/- The staged forms of functions 9, 17, 26, 27, 28, 33, 34, 35, 54, 59, 62, 63, 64, 65, 66, 67, 89, 90, 102, and what calls of these answer. -/
import Derived.Test.YtnhmgokjijlhbaaSx
namespace Go.AM
open Go.Proofs

noncomputable def f9 (rec : Rec) (_k : Nat) (v0 : Value) (v1 : Value) (n0 : Int) (h0 : H) : Option (Value × H) :=
  calls rec h0 18 [v0] fun v2 h1 =>
  calls rec h1 18 [v1] fun v3 h2 =>
  calls rec h2 27 [v2, v3] fun v4 h3 =>
  ext v4 0 fun v5 =>
  asI .i64 v5 fun n1 =>
  ext v4 1 fun v6 =>
  asI .i64 v6 fun n2 =>
  calls rec h3 18 [v0] fun v7 h4 =>
  calls rec h4 18 [v1] fun v8 h5 =>
  calls rec h5 28 [v7, v8, (.int .i64 n0)] fun v9 h6 =>
  ext v9 0 fun v10 =>
  ext v9 1 fun v11 =>
  asI .i64 v11 fun n3 =>
  calls rec h6 21 [v0] fun v12 h7 =>
  asB v12 fun q0 =>
  ifB (not q0) (
    ifB (eq n1 0) (
      len v10 fun n4 =>
      ifB (eq n4 0) (
        ifB (eq n2 2) (
          ifB (eq n3 2) (
            calls rec h7 19 [] fun v13 h8 =>
            asB v13 fun q1 =>
            some ((.bool q1), h8)) (
            some ((.bool false), h7))) (
          some ((.bool false), h7))) (
        some ((.bool false), h7))) (
      some ((.bool false), h7))) (
    calls rec h7 33 [v0, v1] fun v14 h9 =>
    asB v14 fun q2 =>
    ifB (not q2) (
      ifB (eq n1 0) (
        len v10 fun n5 =>
        ifB (eq n5 0) (
          ifB (eq n2 2) (
            ifB (eq n3 2) (
              calls rec h9 19 [] fun v15 h10 =>
              asB v15 fun q3 =>
              some ((.bool q3), h10)) (
              some ((.bool false), h9))) (
            some ((.bool false), h9))) (
          some ((.bool false), h9))) (
        some ((.bool false), h9))) (
      calls rec h9 34 [v0, v1] fun v16 h11 =>
      asI .i64 v16 fun n6 =>
      ifB (not (eq n1 n6)) (
        some ((.bool false), h11)) (
        ifB (not (eq n2 0)) (
          some ((.bool false), h11)) (
          calls rec h11 19 [] fun v17 h12 =>
          asB v17 fun q4 =>
          ifB (not q4) (
            some ((.bool false), h12)) (
            ifB (lt n0 0) (
              len v10 fun n7 =>
              ifB (eq n7 0) (
                some ((.bool (eq n3 2)), h12)) (
                some ((.bool false), h12))) (
              len v0 fun n8 =>
              ifB (le n8 n0) (
                len v10 fun n9 =>
                ifB (eq n9 0) (
                  some ((.bool (eq n3 2)), h12)) (
                  some ((.bool false), h12))) (
                calls rec h12 35 [v0, v1, (.int .i64 n0)] fun v18 h13 =>
                ext v18 0 fun v19 =>
                ext v18 1 fun v20 =>
                asI .i64 v20 fun n10 =>
                calls rec h13 26 [v10, v19] fun v21 h14 =>
                asB v21 fun q5 =>
                ifB q5 (
                  some ((.bool (eq n3 n10)), h14)) (
                  some ((.bool false), h14)))))))))

theorem e9 (rec : Rec) (k : Nat) (v0 : Value) (v1 : Value) (n0 : Int) (h : H) : bodyT Try.prog E0 SC (XC Try.prog rec k) 9 (Value × H) [.opq v0, .opq v1, .int .i64 n0] h (fun v h => some (v, h)) = f9 rec k v0 v1 n0 h := by kernel_rfl
theorem t9 {k : Nat} {v0 : Value} {v1 : Value} {n0 : Int} {h h1 : H} {v : Value} (hh : f9 rn k v0 v1 n0 h = some (v, h1)) : rn 9 #[v0, v1, .int .i64 n0] h = some (v, trunc Try.prog h h1 v) :=
  run_of_bodyT (args := [.opq v0, .opq v1, .int .i64 n0]) rfl ((e9 _ _ _ _ _ _).trans hh)
theorem p9 {k : Nat} {v0 : Value} {v1 : Value} {n0 : Int} {h h1 : H} {v : Value} (hh : f9 rn k v0 v1 n0 h = some (v, h1)) (hp : plainO v = true) (x : Ext h h1) : rn 9 #[v0, v1, .int .i64 n0] h = some (v, h) := by rw [t9 hh, trunc_pure hp x]
theorem x9 {k : Nat} {v0 : Value} {v1 : Value} {n0 : Int} {h h1 : H} {v : Value} (hh : f9 rn k v0 v1 n0 h = some (v, h1)) (hp : plainO v = false) : rn 9 #[v0, v1, .int .i64 n0] h = some (v, h1) := by rw [t9 hh, trunc_not hp]

noncomputable def f17 (rec : Rec) (_k : Nat) (v0 : Value) (h0 : H) : Option (Value × H) :=
  calls rec h0 53 [v0] fun v1 h1 =>
  asB v1 fun q0 =>
  ifB (not q0) (
    some ((.tuple #[(.slice none 0 0), (.int .i64 2)]), h1)) (
    calls rec h1 54 [v0] fun v2 h2 =>
    calls rec h2 55 [v2] fun v3 h3 =>
    eqv Try.prog 22 v3 (.slice none 0 0) fun q1 =>
    ifB q1 (
      some ((.tuple #[(.slice none 0 0), (.int .i64 4)]), h3)) (
      some ((.tuple #[v3, (.int .i64 0)]), h3)))

theorem e17 (rec : Rec) (k : Nat) (v0 : Value) (h : H) : bodyT Try.prog E0 SC (XC Try.prog rec k) 17 (Value × H) [.opq v0] h (fun v h => some (v, h)) = f17 rec k v0 h := by kernel_rfl
theorem t17 {k : Nat} {v0 : Value} {h h1 : H} {v : Value} (hh : f17 rn k v0 h = some (v, h1)) : rn 17 #[v0] h = some (v, trunc Try.prog h h1 v) :=
  run_of_bodyT (args := [.opq v0]) rfl ((e17 _ _ _ _).trans hh)
theorem p17 {k : Nat} {v0 : Value} {h h1 : H} {v : Value} (hh : f17 rn k v0 h = some (v, h1)) (hp : plainO v = true) (x : Ext h h1) : rn 17 #[v0] h = some (v, h) := by rw [t17 hh, trunc_pure hp x]
theorem x17 {k : Nat} {v0 : Value} {h h1 : H} {v : Value} (hh : f17 rn k v0 h = some (v, h1)) (hp : plainO v = false) : rn 17 #[v0] h = some (v, h1) := by rw [t17 hh, trunc_not hp]

noncomputable def f26_l1 (_rec : Rec) (_k : Nat) (v0 : Value) (v1 : Value) (n2 : Int) (ws0 : List Value) (h1 : H) : Option (Ex × List Value × H) :=
  asI .i64 (gv ws0 1) fun n3 =>
  ifB (lt n3 n2) (
    asK (gv ws0 1) fun n4 =>
    six v0 n4 1 fun b0 b1 =>
    ld Try.prog h1 3 b0 b1 fun v2 =>
    asI .i64 v2 fun n5 =>
    asK (gv ws0 1) fun n6 =>
    six v1 n6 1 fun b2 b3 =>
    ld Try.prog h1 3 b2 b3 fun v3 =>
    asI .i64 v3 fun n7 =>
    ifB (not (eq n5 n7)) (
      out .ret [(.bool false), gv ws0 1] h1) (
      asI .i64 (gv ws0 1) fun n8 =>
      out .normal [gv ws0 0, (.int .i64 (add .i64 n8 1))] h1)) (
    out (.exit 0) [gv ws0 0, gv ws0 1] h1)

noncomputable def f26 (rec : Rec) (k : Nat) (v0 : Value) (v1 : Value) (h0 : H) : Option (Value × H) :=
  len v0 fun n0 =>
  len v1 fun n1 =>
  ifB (not (eq n0 n1)) (
    some ((.bool false), h0)) (
    len v0 fun n2 =>
    lp k (f26_l1 rec k v0 v1 n2) [(.bool false), (.int .i64 0)] h0 fun e0 ws1 h2 =>
    onE e0 0 (
      some ((.bool true), h2)) (
      onR e0 (
        some (gv ws1 0, h2))))

theorem e26 (rec : Rec) (k : Nat) (v0 : Value) (v1 : Value) (h : H) : bodyT Try.prog E0 SC (XC Try.prog rec k) 26 (Value × H) [.opq v0, .opq v1] h (fun v h => some (v, h)) = f26 rec k v0 v1 h := by kernel_rfl
theorem t26 {k : Nat} {v0 : Value} {v1 : Value} {h h1 : H} {v : Value} (hh : f26 rn k v0 v1 h = some (v, h1)) : rn 26 #[v0, v1] h = some (v, trunc Try.prog h h1 v) :=
  run_of_bodyT (args := [.opq v0, .opq v1]) rfl ((e26 _ _ _ _ _).trans hh)
theorem p26 {k : Nat} {v0 : Value} {v1 : Value} {h h1 : H} {v : Value} (hh : f26 rn k v0 v1 h = some (v, h1)) (hp : plainO v = true) (x : Ext h h1) : rn 26 #[v0, v1] h = some (v, h) := by rw [t26 hh, trunc_pure hp x]
theorem x26 {k : Nat} {v0 : Value} {v1 : Value} {h h1 : H} {v : Value} (hh : f26 rn k v0 v1 h = some (v, h1)) (hp : plainO v = false) : rn 26 #[v0, v1] h = some (v, h1) := by rw [t26 hh, trunc_not hp]

noncomputable def f27 (rec : Rec) (_k : Nat) (v0 : Value) (v1 : Value) (h0 : H) : Option (Value × H) :=
  calls rec h0 53 [v0] fun v2 h1 =>
  asB v2 fun q0 =>
  ifB (not q0) (
    some ((.tuple #[(.int .i64 0), (.int .i64 2)]), h1)) (
    calls rec h1 65 [v0, v1] fun v3 h2 =>
    asB v3 fun q1 =>
    ifB (not q1) (
      some ((.tuple #[(.int .i64 0), (.int .i64 2)]), h2)) (
      calls rec h2 54 [v0] fun v4 h3 =>
      nil v4 (
        asP v4 fun b0 b1 =>
        ld Try.prog h3 22 b0 (off b1 2) fun v5 =>
        calls rec h3 66 [v0, v1] fun v6 h4 =>
        asI .i64 v6 fun n0 =>
        ck (freq b0 (nx h3) (same h4 h3)) (
          six v5 n0 1 fun b2 b3 =>
          ld Try.prog h4 3 b2 b3 fun v7 =>
          asI .i64 v7 fun n1 =>
          some ((.tuple #[(.int .i64 n1), (.int .i64 0)]), h4)))))

theorem e27 (rec : Rec) (k : Nat) (v0 : Value) (v1 : Value) (h : H) : bodyT Try.prog E0 SC (XC Try.prog rec k) 27 (Value × H) [.opq v0, .opq v1] h (fun v h => some (v, h)) = f27 rec k v0 v1 h := by kernel_rfl
theorem t27 {k : Nat} {v0 : Value} {v1 : Value} {h h1 : H} {v : Value} (hh : f27 rn k v0 v1 h = some (v, h1)) : rn 27 #[v0, v1] h = some (v, trunc Try.prog h h1 v) :=
  run_of_bodyT (args := [.opq v0, .opq v1]) rfl ((e27 _ _ _ _ _).trans hh)
theorem p27 {k : Nat} {v0 : Value} {v1 : Value} {h h1 : H} {v : Value} (hh : f27 rn k v0 v1 h = some (v, h1)) (hp : plainO v = true) (x : Ext h h1) : rn 27 #[v0, v1] h = some (v, h) := by rw [t27 hh, trunc_pure hp x]
theorem x27 {k : Nat} {v0 : Value} {v1 : Value} {h h1 : H} {v : Value} (hh : f27 rn k v0 v1 h = some (v, h1)) (hp : plainO v = false) : rn 27 #[v0, v1] h = some (v, h1) := by rw [t27 hh, trunc_not hp]

noncomputable def f28 (rec : Rec) (_k : Nat) (v0 : Value) (v1 : Value) (n0 : Int) (h0 : H) : Option (Value × H) :=
  calls rec h0 53 [v0] fun v2 h1 =>
  asB v2 fun q0 =>
  ifB (not q0) (
    some ((.tuple #[(.slice none 0 0), (.int .i64 2)]), h1)) (
    calls rec h1 65 [v0, v1] fun v3 h2 =>
    asB v3 fun q1 =>
    ifB (not q1) (
      some ((.tuple #[(.slice none 0 0), (.int .i64 2)]), h2)) (
      ifB (lt n0 0) (
        some ((.tuple #[(.slice none 0 0), (.int .i64 2)]), h2)) (
        len v0 fun n1 =>
        ifB (le n1 n0) (
          some ((.tuple #[(.slice none 0 0), (.int .i64 2)]), h2)) (
          calls rec h2 67 [v0, v1, (.int .i64 n0)] fun v4 h3 =>
          ext v4 0 fun v5 =>
          ext v4 1 fun v6 =>
          asB v6 fun q2 =>
          ifB (not q2) (
            some ((.tuple #[(.slice none 0 0), (.int .i64 4)]), h3)) (
            some ((.tuple #[v5, (.int .i64 0)]), h3))))))

theorem e28 (rec : Rec) (k : Nat) (v0 : Value) (v1 : Value) (n0 : Int) (h : H) : bodyT Try.prog E0 SC (XC Try.prog rec k) 28 (Value × H) [.opq v0, .opq v1, .int .i64 n0] h (fun v h => some (v, h)) = f28 rec k v0 v1 n0 h := by kernel_rfl
theorem t28 {k : Nat} {v0 : Value} {v1 : Value} {n0 : Int} {h h1 : H} {v : Value} (hh : f28 rn k v0 v1 n0 h = some (v, h1)) : rn 28 #[v0, v1, .int .i64 n0] h = some (v, trunc Try.prog h h1 v) :=
  run_of_bodyT (args := [.opq v0, .opq v1, .int .i64 n0]) rfl ((e28 _ _ _ _ _ _).trans hh)
theorem p28 {k : Nat} {v0 : Value} {v1 : Value} {n0 : Int} {h h1 : H} {v : Value} (hh : f28 rn k v0 v1 n0 h = some (v, h1)) (hp : plainO v = true) (x : Ext h h1) : rn 28 #[v0, v1, .int .i64 n0] h = some (v, h) := by rw [t28 hh, trunc_pure hp x]
theorem x28 {k : Nat} {v0 : Value} {v1 : Value} {n0 : Int} {h h1 : H} {v : Value} (hh : f28 rn k v0 v1 n0 h = some (v, h1)) (hp : plainO v = false) : rn 28 #[v0, v1, .int .i64 n0] h = some (v, h1) := by rw [t28 hh, trunc_not hp]

noncomputable def f33_l1 (_rec : Rec) (_k : Nat) (v0 : Value) (v1 : Value) (n0 : Int) (ws0 : List Value) (h1 : H) : Option (Ex × List Value × H) :=
  asI .i64 (gv ws0 1) fun n1 =>
  ifB (lt n1 n0) (
    asK (gv ws0 1) fun n2 =>
    six v1 n2 1 fun b0 b1 =>
    ld Try.prog h1 3 b0 b1 fun v2 =>
    asI .i64 v2 fun n3 =>
    len v0 fun n4 =>
    asI .i64 (gv ws0 1) fun n5 =>
    ifB (le n4 n5) (
      out .ret [(.bool false), gv ws0 1] h1) (
      ifB (lt n3 1) (
        out .ret [(.bool false), gv ws0 1] h1) (
        asK (gv ws0 1) fun n6 =>
        six v0 n6 1 fun b2 b3 =>
        ld Try.prog h1 3 b2 b3 fun v3 =>
        asI .i64 v3 fun n7 =>
        ifB (lt n7 n3) (
          out .ret [(.bool false), gv ws0 1] h1) (
          asI .i64 (gv ws0 1) fun n8 =>
          out .normal [gv ws0 0, (.int .i64 (add .i64 n8 1))] h1)))) (
    out (.exit 0) [gv ws0 0, gv ws0 1] h1)

noncomputable def f33 (rec : Rec) (k : Nat) (v0 : Value) (v1 : Value) (h0 : H) : Option (Value × H) :=
  len v1 fun n0 =>
  lp k (f33_l1 rec k v0 v1 n0) [(.bool false), (.int .i64 0)] h0 fun e0 ws1 h2 =>
  onE e0 0 (
    len v1 fun n9 =>
    len v0 fun n10 =>
    some ((.bool (eq n9 n10)), h2)) (
    onR e0 (
      some (gv ws1 0, h2)))

theorem e33 (rec : Rec) (k : Nat) (v0 : Value) (v1 : Value) (h : H) : bodyT Try.prog E0 SC (XC Try.prog rec k) 33 (Value × H) [.opq v0, .opq v1] h (fun v h => some (v, h)) = f33 rec k v0 v1 h := by kernel_rfl
theorem t33 {k : Nat} {v0 : Value} {v1 : Value} {h h1 : H} {v : Value} (hh : f33 rn k v0 v1 h = some (v, h1)) : rn 33 #[v0, v1] h = some (v, trunc Try.prog h h1 v) :=
  run_of_bodyT (args := [.opq v0, .opq v1]) rfl ((e33 _ _ _ _ _).trans hh)
theorem p33 {k : Nat} {v0 : Value} {v1 : Value} {h h1 : H} {v : Value} (hh : f33 rn k v0 v1 h = some (v, h1)) (hp : plainO v = true) (x : Ext h h1) : rn 33 #[v0, v1] h = some (v, h) := by rw [t33 hh, trunc_pure hp x]
theorem x33 {k : Nat} {v0 : Value} {v1 : Value} {h h1 : H} {v : Value} (hh : f33 rn k v0 v1 h = some (v, h1)) (hp : plainO v = false) : rn 33 #[v0, v1] h = some (v, h1) := by rw [t33 hh, trunc_not hp]

noncomputable def f34 (rec : Rec) (_k : Nat) (v0 : Value) (v1 : Value) (h0 : H) : Option (Value × H) :=
  calls rec h0 62 [v0] fun v2 h1 =>
  calls rec h1 63 [v0, v1] fun v3 h2 =>
  asI .i64 v3 fun n0 =>
  six v2 n0 1 fun b0 b1 =>
  ld Try.prog h2 3 b0 b1 fun v4 =>
  asI .i64 v4 fun n1 =>
  some ((.int .i64 n1), h2)

theorem e34 (rec : Rec) (k : Nat) (v0 : Value) (v1 : Value) (h : H) : bodyT Try.prog E0 SC (XC Try.prog rec k) 34 (Value × H) [.opq v0, .opq v1] h (fun v h => some (v, h)) = f34 rec k v0 v1 h := by kernel_rfl
theorem t34 {k : Nat} {v0 : Value} {v1 : Value} {h h1 : H} {v : Value} (hh : f34 rn k v0 v1 h = some (v, h1)) : rn 34 #[v0, v1] h = some (v, trunc Try.prog h h1 v) :=
  run_of_bodyT (args := [.opq v0, .opq v1]) rfl ((e34 _ _ _ _ _).trans hh)
theorem p34 {k : Nat} {v0 : Value} {v1 : Value} {h h1 : H} {v : Value} (hh : f34 rn k v0 v1 h = some (v, h1)) (hp : plainO v = true) (x : Ext h h1) : rn 34 #[v0, v1] h = some (v, h) := by rw [t34 hh, trunc_pure hp x]
theorem x34 {k : Nat} {v0 : Value} {v1 : Value} {h h1 : H} {v : Value} (hh : f34 rn k v0 v1 h = some (v, h1)) (hp : plainO v = false) : rn 34 #[v0, v1] h = some (v, h1) := by rw [t34 hh, trunc_not hp]

noncomputable def f35 (rec : Rec) (_k : Nat) (v0 : Value) (v1 : Value) (n0 : Int) (h0 : H) : Option (Value × H) :=
  calls rec h0 64 [v0, v1, (.int .i64 n0)] fun v2 h1 =>
  ext v2 0 fun v3 =>
  ext v2 1 fun v4 =>
  asB v4 fun q0 =>
  ifB q0 (
    some ((.tuple #[v3, (.int .i64 0)]), h1)) (
    some ((.tuple #[(.slice none 0 0), (.int .i64 4)]), h1))

theorem e35 (rec : Rec) (k : Nat) (v0 : Value) (v1 : Value) (n0 : Int) (h : H) : bodyT Try.prog E0 SC (XC Try.prog rec k) 35 (Value × H) [.opq v0, .opq v1, .int .i64 n0] h (fun v h => some (v, h)) = f35 rec k v0 v1 n0 h := by kernel_rfl
theorem t35 {k : Nat} {v0 : Value} {v1 : Value} {n0 : Int} {h h1 : H} {v : Value} (hh : f35 rn k v0 v1 n0 h = some (v, h1)) : rn 35 #[v0, v1, .int .i64 n0] h = some (v, trunc Try.prog h h1 v) :=
  run_of_bodyT (args := [.opq v0, .opq v1, .int .i64 n0]) rfl ((e35 _ _ _ _ _ _).trans hh)
theorem p35 {k : Nat} {v0 : Value} {v1 : Value} {n0 : Int} {h h1 : H} {v : Value} (hh : f35 rn k v0 v1 n0 h = some (v, h1)) (hp : plainO v = true) (x : Ext h h1) : rn 35 #[v0, v1, .int .i64 n0] h = some (v, h) := by rw [t35 hh, trunc_pure hp x]
theorem x35 {k : Nat} {v0 : Value} {v1 : Value} {n0 : Int} {h h1 : H} {v : Value} (hh : f35 rn k v0 v1 n0 h = some (v, h1)) (hp : plainO v = false) : rn 35 #[v0, v1, .int .i64 n0] h = some (v, h1) := by rw [t35 hh, trunc_not hp]

noncomputable def f54_l2 (rec : Rec) (_k : Nat) (v0 : Value) (ws0 : List Value) (n2 : Int) (ws1 : List Value) (h4 : H) : Option (Ex × List Value × H) :=
  asI .i64 (gv ws1 1) fun n3 =>
  ifB (lt n3 n2) (
    calls rec h4 89 [v0, gv ws0 0] fun v3 h5 =>
    calls rec h5 67 [v0, v3, gv ws1 1] fun v4 h6 =>
    ext v4 0 fun v5 =>
    ext v4 1 fun v6 =>
    asB v6 fun q0 =>
    ifB q0 (
      calls rec h6 66 [v0, v5] fun v7 h7 =>
      asI .i64 v7 fun n4 =>
      bls Try.prog h7 22 1 [(0, (.int .i64 n4))] fun v8 h8 =>
      app Try.prog h8 22 22 (gv ws1 0) v8 fun v9 h9 =>
      asI .i64 (gv ws1 1) fun n5 =>
      out .normal [v9, (.int .i64 (add .i64 n5 1))] h9) (
      bls Try.prog h6 22 1 [(0, (.int .i64 (-1)))] fun v10 h10 =>
      app Try.prog h10 22 22 (gv ws1 0) v10 fun v11 h11 =>
      asI .i64 (gv ws1 1) fun n6 =>
      out .normal [v11, (.int .i64 (add .i64 n6 1))] h11)) (
    out (.exit 2) [gv ws1 0, gv ws1 1] h4)

noncomputable def f54_l1 (rec : Rec) (k : Nat) (v0 : Value) (h0 : H) (n0 : Int) (ws0 : List Value) (h3 : H) : Option (Ex × List Value × H) :=
  asI .i64 (gv ws0 0) fun n1 =>
  ifB (lt n1 n0) (
    len v0 fun n2 =>
    lp k (f54_l2 rec k v0 ws0 n2) [(.slice none 0 0), (.int .i64 0)] h3 fun e0 ws2 h12 =>
    onE e0 2 (
      ld Try.prog h12 60 (nx h0) (off 0 1) fun v12 =>
      bls Try.prog h12 60 1 [(0, gv ws2 0)] fun v13 h13 =>
      app Try.prog h13 60 60 v12 v13 fun v14 h14 =>
      st Try.prog h14 60 (nx h0) (off 0 1) v14 fun h15 =>
      asI .i64 (gv ws0 0) fun n7 =>
      out .normal [(.int .i64 (add .i64 n7 1))] h15) (
      none)) (
    out (.exit 0) [gv ws0 0] h3)

noncomputable def f54_l4 (_rec : Rec) (_k : Nat) (v15 : Value) (v16 : Value) (ws4 : List Value) (v20 : Value) (n11 : Int) (ws5 : List Value) (h23 : H) : Option (Ex × List Value × H) :=
  asI .i64 (gv ws5 0) fun n12 =>
  ifB (lt n12 n11) (
    asK (gv ws5 0) fun n13 =>
    six v20 n13 1 fun b2 b3 =>
    ld Try.prog h23 3 b2 b3 fun v21 =>
    asI .i64 v21 fun n14 =>
    ifB (not (eq n14 (-1))) (
      six v15 n14 1 fun b4 b5 =>
      ld Try.prog h23 22 b4 b5 fun v22 =>
      bls Try.prog h23 22 1 [(0, gv ws4 1)] fun v23 h24 =>
      app Try.prog h24 22 22 v22 v23 fun v24 h25 =>
      six v15 n14 1 fun b6 b7 =>
      st Try.prog h25 22 b6 b7 v24 fun h26 =>
      asK (gv ws4 1) fun n15 =>
      six v16 n15 1 fun b8 b9 =>
      ld Try.prog h26 3 b8 b9 fun v25 =>
      asI .i64 v25 fun n16 =>
      asK (gv ws4 1) fun n17 =>
      six v16 n17 1 fun b10 b11 =>
      st Try.prog h26 3 b10 b11 (.int .i64 (add .i64 n16 1)) fun h27 =>
      asI .i64 (gv ws5 0) fun n18 =>
      out .normal [(.int .i64 (add .i64 n18 1))] h27) (
      asI .i64 (gv ws5 0) fun n19 =>
      out .normal [(.int .i64 (add .i64 n19 1))] h23)) (
    out (.exit 6) [gv ws5 0] h23)

noncomputable def f54_l3 (rec : Rec) (k : Nat) (h0 : H) (v15 : Value) (v16 : Value) (v19 : Value) (n8 : Int) (ws4 : List Value) (h22 : H) : Option (Ex × List Value × H) :=
  asI .i64 (gv ws4 1) fun n9 =>
  ifB (lt n9 n8) (
    asK (gv ws4 1) fun n10 =>
    six v19 n10 1 fun b0 b1 =>
    ld Try.prog h22 22 b0 b1 fun v20 =>
    len v20 fun n11 =>
    lp k (f54_l4 rec k v15 v16 ws4 v20 n11) [(.int .i64 0)] h22 fun e2 _ h28 =>
    onE e2 6 (
      asK (gv ws4 1) fun n20 =>
      six v16 n20 1 fun b12 b13 =>
      ld Try.prog h28 3 b12 b13 fun v26 =>
      asI .i64 v26 fun n21 =>
      ifB (eq n21 0) (
        ld Try.prog h28 22 (nx h0) (off 0 2) fun v27 =>
        asK (gv ws4 1) fun n22 =>
        six v27 n22 1 fun b14 b15 =>
        st Try.prog h28 3 b14 b15 (.int .i64 0) fun h29 =>
        bls Try.prog h29 22 1 [(0, gv ws4 1)] fun v28 h30 =>
        app Try.prog h30 22 22 (gv ws4 0) v28 fun v29 h31 =>
        asI .i64 (gv ws4 1) fun n23 =>
        out .normal [v29, (.int .i64 (add .i64 n23 1))] h31) (
        asI .i64 (gv ws4 1) fun n24 =>
        out .normal [gv ws4 0, (.int .i64 (add .i64 n24 1))] h28)) (
      none)) (
    out (.exit 4) [gv ws4 0, gv ws4 1] h22)

noncomputable def f54_l6 (_rec : Rec) (_k : Nat) (h0 : H) (v16 : Value) (v31 : Value) (n27 : Int) (ws9 : List Value) (h34 : H) : Option (Ex × List Value × H) :=
  asI .i64 (gv ws9 1) fun n28 =>
  ifB (lt n28 n27) (
    asK (gv ws9 1) fun n29 =>
    six v31 n29 1 fun b20 b21 =>
    ld Try.prog h34 3 b20 b21 fun v32 =>
    asI .i64 v32 fun n30 =>
    six v16 n30 1 fun b22 b23 =>
    ld Try.prog h34 3 b22 b23 fun v33 =>
    asI .i64 v33 fun n31 =>
    six v16 n30 1 fun b24 b25 =>
    st Try.prog h34 3 b24 b25 (.int .i64 (sub .i64 n31 1)) fun h35 =>
    six v16 n30 1 fun b26 b27 =>
    ld Try.prog h35 3 b26 b27 fun v34 =>
    asI .i64 v34 fun n32 =>
    ifB (eq n32 0) (
      ld Try.prog h35 22 (nx h0) (off 0 2) fun v35 =>
      ld Try.prog h35 22 (nx h0) (off 0 2) fun v36 =>
      six (gv ws9 0) 0 1 fun b28 b29 =>
      ld Try.prog h35 3 b28 b29 fun v37 =>
      asI .i64 v37 fun n33 =>
      six v36 n33 1 fun b30 b31 =>
      ld Try.prog h35 3 b30 b31 fun v38 =>
      asI .i64 v38 fun n34 =>
      six v35 n30 1 fun b32 b33 =>
      st Try.prog h35 3 b32 b33 (.int .i64 (add .i64 n34 1)) fun h36 =>
      bls Try.prog h36 22 1 [(0, (.int .i64 n30))] fun v39 h37 =>
      app Try.prog h37 22 22 (gv ws9 0) v39 fun v40 h38 =>
      asI .i64 (gv ws9 1) fun n35 =>
      out .normal [v40, (.int .i64 (add .i64 n35 1))] h38) (
      asI .i64 (gv ws9 1) fun n36 =>
      out .normal [gv ws9 0, (.int .i64 (add .i64 n36 1))] h35)) (
    out (.exit 10) [gv ws9 0, gv ws9 1] h34)

noncomputable def f54_l5 (rec : Rec) (k : Nat) (h0 : H) (v15 : Value) (v16 : Value) (ws8 : List Value) (h33 : H) : Option (Ex × List Value × H) :=
  len (gv ws8 0) fun n25 =>
  ifB (lt 0 n25) (
    six (gv ws8 0) 0 1 fun b16 b17 =>
    ld Try.prog h33 3 b16 b17 fun v30 =>
    asI .i64 v30 fun n26 =>
    six v15 n26 1 fun b18 b19 =>
    ld Try.prog h33 22 b18 b19 fun v31 =>
    len v31 fun n27 =>
    lp k (f54_l6 rec k h0 v16 v31 n27) [gv ws8 0, (.int .i64 0)] h33 fun e4 ws10 h39 =>
    onE e4 10 (
      sli Try.prog h39 22 (gv ws10 0) (some (.int .i64 1)) none none fun v41 =>
      out .normal [v41] h39) (
      none)) (
    out (.exit 8) [gv ws8 0] h33)

noncomputable def f54 (rec : Rec) (k : Nat) (v0 : Value) (h0 : H) : Option (Value × H) :=
  bld Try.prog 76 [(0, v0)] fun v1 =>
  bx h0 76 v1 fun h1 =>
  calls rec h1 57 [v0] fun v2 h2 =>
  asI .i64 v2 fun n0 =>
  lp k (f54_l1 rec k v0 h0 n0) [(.int .i64 0)] h2 fun e1 _ h16 =>
  onE e1 0 (
    mks Try.prog h16 60 n0 n0 fun v15 h17 =>
    mks Try.prog h17 22 n0 n0 fun v16 h18 =>
    bls Try.prog h18 22 1 [(0, (.int .i64 (-1)))] fun v17 h19 =>
    calls rec h19 90 [v17, (.int .i64 n0)] fun v18 h20 =>
    st Try.prog h20 22 (nx h0) (off 0 2) v18 fun h21 =>
    ld Try.prog h21 60 (nx h0) (off 0 1) fun v19 =>
    len v19 fun n8 =>
    lp k (f54_l3 rec k h0 v15 v16 v19 n8) [(.slice none 0 0), (.int .i64 0)] h21 fun e3 ws7 h32 =>
    onE e3 4 (
      lp k (f54_l5 rec k h0 v15 v16) [gv ws7 0] h32 fun e5 _ h40 =>
      onE e5 8 (
        some ((pt (nx h0) 0), h40)) (
        none)) (
      none)) (
    none)

theorem e54 (rec : Rec) (k : Nat) (v0 : Value) (h : H) : bodyT Try.prog E0 SC (XC Try.prog rec k) 54 (Value × H) [.opq v0] h (fun v h => some (v, h)) = f54 rec k v0 h := by kernel_rfl
theorem t54 {k : Nat} {v0 : Value} {h h1 : H} {v : Value} (hh : f54 rn k v0 h = some (v, h1)) : rn 54 #[v0] h = some (v, trunc Try.prog h h1 v) :=
  run_of_bodyT (args := [.opq v0]) rfl ((e54 _ _ _ _).trans hh)
theorem p54 {k : Nat} {v0 : Value} {h h1 : H} {v : Value} (hh : f54 rn k v0 h = some (v, h1)) (hp : plainO v = true) (x : Ext h h1) : rn 54 #[v0] h = some (v, h) := by rw [t54 hh, trunc_pure hp x]
theorem x54 {k : Nat} {v0 : Value} {h h1 : H} {v : Value} (hh : f54 rn k v0 h = some (v, h1)) (hp : plainO v = false) : rn 54 #[v0] h = some (v, h1) := by rw [t54 hh, trunc_not hp]

noncomputable def f59 (rec : Rec) (_k : Nat) (v0 : Value) (h0 : H) : Option (Value × H) :=
  calls rec h0 66 [v0, v0] fun v1 h1 =>
  asI .i64 v1 fun n0 =>
  some ((.int .i64 n0), h1)

theorem e59 (rec : Rec) (k : Nat) (v0 : Value) (h : H) : bodyT Try.prog E0 SC (XC Try.prog rec k) 59 (Value × H) [.opq v0] h (fun v h => some (v, h)) = f59 rec k v0 h := by kernel_rfl
theorem t59 {k : Nat} {v0 : Value} {h h1 : H} {v : Value} (hh : f59 rn k v0 h = some (v, h1)) : rn 59 #[v0] h = some (v, trunc Try.prog h h1 v) :=
  run_of_bodyT (args := [.opq v0]) rfl ((e59 _ _ _ _).trans hh)
theorem p59 {k : Nat} {v0 : Value} {h h1 : H} {v : Value} (hh : f59 rn k v0 h = some (v, h1)) (hp : plainO v = true) (x : Ext h h1) : rn 59 #[v0] h = some (v, h) := by rw [t59 hh, trunc_pure hp x]
theorem x59 {k : Nat} {v0 : Value} {h h1 : H} {v : Value} (hh : f59 rn k v0 h = some (v, h1)) (hp : plainO v = false) : rn 59 #[v0] h = some (v, h1) := by rw [t59 hh, trunc_not hp]

noncomputable def f62_l1 (_rec : Rec) (_k : Nat) (v0 : Value) (n0 : Int) (ws0 : List Value) (h1 : H) : Option (Ex × List Value × H) :=
  asI .i64 (gv ws0 1) fun n1 =>
  ifB (lt n1 n0) (
    asK (gv ws0 1) fun n2 =>
    six v0 n2 1 fun b0 b1 =>
    ld Try.prog h1 3 b0 b1 fun v1 =>
    asI .i64 v1 fun n3 =>
    asI .i64 (gv ws0 0) fun n4 =>
    asI .i64 (gv ws0 1) fun n5 =>
    out .normal [(.int .i64 (mul .i64 n4 n3)), (.int .i64 (add .i64 n5 1))] h1) (
    out (.exit 0) [gv ws0 0, gv ws0 1] h1)

noncomputable def f62_l2 (_rec : Rec) (_k : Nat) (v3 : Value) (n9 : Int) (ws2 : List Value) (h5 : H) : Option (Ex × List Value × H) :=
  asI .i64 (gv ws2 0) fun n10 =>
  ifB (lt n10 n9) (
    asK (gv ws2 0) fun n11 =>
    six v3 n11 1 fun b2 b3 =>
    st Try.prog h5 3 b2 b3 (.int .i64 1) fun h6 =>
    asI .i64 (gv ws2 0) fun n12 =>
    out .normal [(.int .i64 (add .i64 n12 1))] h6) (
    out (.exit 2) [gv ws2 0] h5)

noncomputable def f62_l4 (rec : Rec) (_k : Nat) (v0 : Value) (v2 : Value) (v3 : Value) (ws4 : List Value) (n15 : Int) (ws5 : List Value) (h9 : H) : Option (Ex × List Value × H) :=
  asI .i64 (gv ws5 0) fun n16 =>
  ifB (lt n16 n15) (
    calls rec h9 64 [v0, v3, gv ws5 0] fun v4 h10 =>
    ext v4 0 fun v5 =>
    ext v4 1 fun v6 =>
    asB v6 fun q0 =>
    ifB q0 (
      asK (gv ws4 0) fun n17 =>
      six v2 n17 1 fun b4 b5 =>
      ld Try.prog h10 22 b4 b5 fun v7 =>
      calls rec h10 63 [v0, v5] fun v8 h11 =>
      asI .i64 v8 fun n18 =>
      ck (freq b4 (nx h10) (same h11 h10)) (
        bls Try.prog h11 22 1 [(0, (.int .i64 n18))] fun v9 h12 =>
        ck (freq b4 (nx h11) (same h12 h11)) (
          app Try.prog h12 22 22 v7 v9 fun v10 h13 =>
          asK (gv ws4 0) fun n19 =>
          six v2 n19 1 fun b6 b7 =>
          st Try.prog h13 22 b6 b7 v10 fun h14 =>
          asI .i64 (gv ws5 0) fun n20 =>
          out .normal [(.int .i64 (add .i64 n20 1))] h14))) (
      asI .i64 (gv ws5 0) fun n21 =>
      out .normal [(.int .i64 (add .i64 n21 1))] h10)) (
    out (.exit 6) [gv ws5 0] h9)

noncomputable def f62_l5 (_rec : Rec) (_k : Nat) (v0 : Value) (v3 : Value) (ws7 : List Value) (h16 : H) : Option (Ex × List Value × H) :=
  asI .i64 (gv ws7 0) fun n23 =>
  ifB (le 0 n23) (
    asK (gv ws7 0) fun n24 =>
    six v3 n24 1 fun b8 b9 =>
    ld Try.prog h16 3 b8 b9 fun v11 =>
    asI .i64 v11 fun n25 =>
    asK (gv ws7 0) fun n26 =>
    six v3 n26 1 fun b10 b11 =>
    st Try.prog h16 3 b10 b11 (.int .i64 (add .i64 n25 1)) fun h17 =>
    asK (gv ws7 0) fun n27 =>
    six v3 n27 1 fun b12 b13 =>
    ld Try.prog h17 3 b12 b13 fun v12 =>
    asI .i64 v12 fun n28 =>
    asK (gv ws7 0) fun n29 =>
    six v0 n29 1 fun b14 b15 =>
    ld Try.prog h17 3 b14 b15 fun v13 =>
    asI .i64 v13 fun n30 =>
    ifB (le n28 n30) (
      out (.exit 8) [gv ws7 0] h17) (
      asK (gv ws7 0) fun n31 =>
      six v3 n31 1 fun b16 b17 =>
      st Try.prog h17 3 b16 b17 (.int .i64 1) fun h18 =>
      asI .i64 (gv ws7 0) fun n32 =>
      out .normal [(.int .i64 (sub .i64 n32 1))] h18)) (
    out (.exit 8) [gv ws7 0] h16)

noncomputable def f62_l3 (rec : Rec) (k : Nat) (v0 : Value) (ws1 : List Value) (v2 : Value) (v3 : Value) (ws4 : List Value) (h8 : H) : Option (Ex × List Value × H) :=
  asI .i64 (gv ws4 0) fun n13 =>
  asI .i64 (gv ws1 0) fun n14 =>
  ifB (lt n13 n14) (
    len v0 fun n15 =>
    lp k (f62_l4 rec k v0 v2 v3 ws4 n15) [(.int .i64 0)] h8 fun e2 _ h15 =>
    onE e2 6 (
      len v0 fun n22 =>
      lp k (f62_l5 rec k v0 v3) [(.int .i64 (sub .i64 n22 1))] h15 fun e3 _ h19 =>
      onE e3 8 (
        asI .i64 (gv ws4 0) fun n33 =>
        out .normal [(.int .i64 (add .i64 n33 1))] h19) (
        none)) (
      none)) (
    out (.exit 4) [gv ws4 0] h8)

noncomputable def f62_l6 (_rec : Rec) (_k : Nat) (v14 : Value) (n36 : Int) (ws10 : List Value) (h22 : H) : Option (Ex × List Value × H) :=
  asI .i64 (gv ws10 0) fun n37 =>
  ifB (lt n37 n36) (
    asK (gv ws10 0) fun n38 =>
    six v14 n38 1 fun b18 b19 =>
    st Try.prog h22 3 b18 b19 (.int .i64 (-1)) fun h23 =>
    asI .i64 (gv ws10 0) fun n39 =>
    out .normal [(.int .i64 (add .i64 n39 1))] h23) (
    out (.exit 10) [gv ws10 0] h22)

noncomputable def f62_l9 (_rec : Rec) (_k : Nat) (v14 : Value) (v16 : Value) (n45 : Int) (ws14 : List Value) (h27 : H) : Option (Ex × List Value × H) :=
  asI .i64 (gv ws14 1) fun n46 =>
  ifB (lt n46 n45) (
    asK (gv ws14 1) fun n47 =>
    six v16 n47 1 fun b24 b25 =>
    ld Try.prog h27 3 b24 b25 fun v17 =>
    asI .i64 v17 fun n48 =>
    asB (gv ws14 0) fun q1 =>
    ifB q1 (
      asI .i64 (gv ws14 1) fun n49 =>
      out .normal [(.bool true), (.int .i64 (add .i64 n49 1))] h27) (
      six v14 n48 1 fun b26 b27 =>
      ld Try.prog h27 3 b26 b27 fun v18 =>
      asI .i64 v18 fun n50 =>
      asI .i64 (gv ws14 1) fun n51 =>
      out .normal [(.bool (lt n50 0)), (.int .i64 (add .i64 n51 1))] h27)) (
    out (.exit 16) [gv ws14 0, gv ws14 1] h27)

noncomputable def f62_l8 (rec : Rec) (k : Nat) (v2 : Value) (v14 : Value) (n40 : Int) (ws13 : List Value) (h26 : H) : Option (Ex × List Value × H) :=
  asI .i64 (gv ws13 1) fun n41 =>
  ifB (lt n41 n40) (
    asK (gv ws13 1) fun n42 =>
    six v14 n42 1 fun b20 b21 =>
    ld Try.prog h26 3 b20 b21 fun v15 =>
    asI .i64 v15 fun n43 =>
    asK (gv ws13 1) fun n44 =>
    six v2 n44 1 fun b22 b23 =>
    ld Try.prog h26 22 b22 b23 fun v16 =>
    len v16 fun n45 =>
    lp k (f62_l9 rec k v14 v16 n45) [(.bool (le 0 n43)), (.int .i64 0)] h26 fun e6 ws15 h28 =>
    onE e6 16 (
      asB (gv ws15 0) fun q2 =>
      ifB (not q2) (
        bls Try.prog h28 22 1 [(0, gv ws13 1)] fun v19 h29 =>
        app Try.prog h29 22 22 (gv ws13 0) v19 fun v20 h30 =>
        asI .i64 (gv ws13 1) fun n52 =>
        out .normal [v20, (.int .i64 (add .i64 n52 1))] h30) (
        asI .i64 (gv ws13 1) fun n53 =>
        out .normal [gv ws13 0, (.int .i64 (add .i64 n53 1))] h28)) (
      none)) (
    out (.exit 14) [gv ws13 0, gv ws13 1] h26)

noncomputable def f62_l10 (_rec : Rec) (_k : Nat) (v14 : Value) (ws12 : List Value) (ws16 : List Value) (n54 : Int) (ws17 : List Value) (h32 : H) : Option (Ex × List Value × H) :=
  asI .i64 (gv ws17 0) fun n55 =>
  ifB (lt n55 n54) (
    asK (gv ws17 0) fun n56 =>
    six (gv ws16 0) n56 1 fun b28 b29 =>
    ld Try.prog h32 3 b28 b29 fun v21 =>
    asI .i64 v21 fun n57 =>
    six v14 n57 1 fun b30 b31 =>
    st Try.prog h32 3 b30 b31 (gv ws12 1) fun h33 =>
    asI .i64 (gv ws17 0) fun n58 =>
    out .normal [(.int .i64 (add .i64 n58 1))] h33) (
    out (.exit 18) [gv ws17 0] h32)

noncomputable def f62_l7 (rec : Rec) (k : Nat) (v2 : Value) (v14 : Value) (ws12 : List Value) (h25 : H) : Option (Ex × List Value × H) :=
  len v14 fun n40 =>
  lp k (f62_l8 rec k v2 v14 n40) [(.slice none 0 0), (.int .i64 0)] h25 fun e7 ws16 h31 =>
  onE e7 14 (
    len (gv ws16 0) fun n54 =>
    lp k (f62_l10 rec k v14 ws12 ws16 n54) [(.int .i64 0)] h31 fun e8 _ h34 =>
    onE e8 18 (
      len (gv ws16 0) fun n59 =>
      ifB (eq n59 0) (
        out .ret [v14, gv ws12 1] h34) (
        asI .i64 (gv ws12 1) fun n60 =>
        out .normal [gv ws12 0, (.int .i64 (add .i64 n60 1))] h34)) (
      none)) (
    none)

noncomputable def f62 (rec : Rec) (k : Nat) (v0 : Value) (h0 : H) : Option (Value × H) :=
  len v0 fun n0 =>
  lp k (f62_l1 rec k v0 n0) [(.int .i64 1), (.int .i64 0)] h0 fun e0 ws1 h2 =>
  onE e0 0 (
    asK (gv ws1 0) fun n6 =>
    asK (gv ws1 0) fun n7 =>
    mks Try.prog h2 60 n6 n7 fun v2 h3 =>
    len v0 fun n8 =>
    mks Try.prog h3 22 n8 n8 fun v3 h4 =>
    len v3 fun n9 =>
    lp k (f62_l2 rec k v3 n9) [(.int .i64 0)] h4 fun e1 _ h7 =>
    onE e1 2 (
      lp k (f62_l3 rec k v0 ws1 v2 v3) [(.int .i64 0)] h7 fun e4 _ h20 =>
      onE e4 4 (
        asK (gv ws1 0) fun n34 =>
        asK (gv ws1 0) fun n35 =>
        mks Try.prog h20 22 n34 n35 fun v14 h21 =>
        len v14 fun n36 =>
        lp k (f62_l6 rec k v14 n36) [(.int .i64 0)] h21 fun e5 _ h24 =>
        onE e5 10 (
          lp k (f62_l7 rec k v2 v14) [(.slice none 0 0), (.int .i64 0)] h24 fun e9 ws19 h35 =>
          onR e9 (
            some (gv ws19 0, h35))) (
          none)) (
        none)) (
      none)) (
    none)

theorem e62 (rec : Rec) (k : Nat) (v0 : Value) (h : H) : bodyT Try.prog E0 SC (XC Try.prog rec k) 62 (Value × H) [.opq v0] h (fun v h => some (v, h)) = f62 rec k v0 h := by kernel_rfl
theorem t62 {k : Nat} {v0 : Value} {h h1 : H} {v : Value} (hh : f62 rn k v0 h = some (v, h1)) : rn 62 #[v0] h = some (v, trunc Try.prog h h1 v) :=
  run_of_bodyT (args := [.opq v0]) rfl ((e62 _ _ _ _).trans hh)
theorem p62 {k : Nat} {v0 : Value} {h h1 : H} {v : Value} (hh : f62 rn k v0 h = some (v, h1)) (hp : plainO v = true) (x : Ext h h1) : rn 62 #[v0] h = some (v, h) := by rw [t62 hh, trunc_pure hp x]
theorem x62 {k : Nat} {v0 : Value} {h h1 : H} {v : Value} (hh : f62 rn k v0 h = some (v, h1)) (hp : plainO v = false) : rn 62 #[v0] h = some (v, h1) := by rw [t62 hh, trunc_not hp]

noncomputable def f63_l1 (_rec : Rec) (_k : Nat) (v0 : Value) (v1 : Value) (n0 : Int) (ws0 : List Value) (h1 : H) : Option (Ex × List Value × H) :=
  asI .i64 (gv ws0 1) fun n1 =>
  ifB (lt n1 n0) (
    asK (gv ws0 1) fun n2 =>
    six v1 n2 1 fun b0 b1 =>
    ld Try.prog h1 3 b0 b1 fun v2 =>
    asI .i64 v2 fun n3 =>
    asK (gv ws0 1) fun n4 =>
    six v0 n4 1 fun b2 b3 =>
    ld Try.prog h1 3 b2 b3 fun v3 =>
    asI .i64 v3 fun n5 =>
    asI .i64 (gv ws0 0) fun n6 =>
    asI .i64 (gv ws0 1) fun n7 =>
    out .normal [(.int .i64 (sub .i64 (add .i64 (mul .i64 n6 n5) n3) 1)), (.int .i64 (add .i64 n7 1))] h1) (
    out (.exit 0) [gv ws0 0, gv ws0 1] h1)

noncomputable def f63 (rec : Rec) (k : Nat) (v0 : Value) (v1 : Value) (h0 : H) : Option (Value × H) :=
  len v1 fun n0 =>
  lp k (f63_l1 rec k v0 v1 n0) [(.int .i64 0), (.int .i64 0)] h0 fun e0 ws1 h2 =>
  onE e0 0 (
    some (gv ws1 0, h2)) (
    none)

theorem e63 (rec : Rec) (k : Nat) (v0 : Value) (v1 : Value) (h : H) : bodyT Try.prog E0 SC (XC Try.prog rec k) 63 (Value × H) [.opq v0, .opq v1] h (fun v h => some (v, h)) = f63 rec k v0 v1 h := by kernel_rfl
theorem t63 {k : Nat} {v0 : Value} {v1 : Value} {h h1 : H} {v : Value} (hh : f63 rn k v0 v1 h = some (v, h1)) : rn 63 #[v0, v1] h = some (v, trunc Try.prog h h1 v) :=
  run_of_bodyT (args := [.opq v0, .opq v1]) rfl ((e63 _ _ _ _ _).trans hh)
theorem p63 {k : Nat} {v0 : Value} {v1 : Value} {h h1 : H} {v : Value} (hh : f63 rn k v0 v1 h = some (v, h1)) (hp : plainO v = true) (x : Ext h h1) : rn 63 #[v0, v1] h = some (v, h) := by rw [t63 hh, trunc_pure hp x]
theorem x63 {k : Nat} {v0 : Value} {v1 : Value} {h h1 : H} {v : Value} (hh : f63 rn k v0 v1 h = some (v, h1)) (hp : plainO v = false) : rn 63 #[v0, v1] h = some (v, h1) := by rw [t63 hh, trunc_not hp]

noncomputable def f64_l1 (_rec : Rec) (_k : Nat) (v0 : Value) (n0 : Int) (v3 : Value) (n1 : Int) (ws0 : List Value) (h3 : H) : Option (Ex × List Value × H) :=
  asI .i64 (gv ws0 2) fun n2 =>
  ifB (lt n2 n1) (
    asK (gv ws0 2) fun n3 =>
    six v3 n3 1 fun b0 b1 =>
    ld Try.prog h3 3 b0 b1 fun v4 =>
    asI .i64 v4 fun n4 =>
    asK (gv ws0 2) fun n5 =>
    six v3 n5 1 fun b2 b3 =>
    st Try.prog h3 3 b2 b3 (.int .i64 (sub .i64 n4 1)) fun h4 =>
    asI .i64 (gv ws0 2) fun n6 =>
    ifB (eq n6 n0) (
      asK (gv ws0 2) fun n7 =>
      six v0 n7 1 fun b4 b5 =>
      ld Try.prog h4 3 b4 b5 fun v5 =>
      asI .i64 v5 fun n8 =>
      asK (gv ws0 2) fun n9 =>
      six v3 n9 1 fun b6 b7 =>
      st Try.prog h4 3 b6 b7 (.int .i64 n8) fun h5 =>
      asK (gv ws0 2) fun n10 =>
      six v3 n10 1 fun b8 b9 =>
      ld Try.prog h5 3 b8 b9 fun v6 =>
      asI .i64 v6 fun n11 =>
      ifB (eq n11 0) (
        out .ret [(.slice none 0 0), (.bool false), gv ws0 2] h5) (
        asI .i64 (gv ws0 2) fun n12 =>
        out .normal [gv ws0 0, gv ws0 1, (.int .i64 (add .i64 n12 1))] h5)) (
      asK (gv ws0 2) fun n13 =>
      six v3 n13 1 fun b10 b11 =>
      ld Try.prog h4 3 b10 b11 fun v7 =>
      asI .i64 v7 fun n14 =>
      ifB (eq n14 0) (
        out .ret [(.slice none 0 0), (.bool false), gv ws0 2] h4) (
        asI .i64 (gv ws0 2) fun n15 =>
        out .normal [gv ws0 0, gv ws0 1, (.int .i64 (add .i64 n15 1))] h4))) (
    out (.exit 0) [gv ws0 0, gv ws0 1, gv ws0 2] h3)

noncomputable def f64 (rec : Rec) (k : Nat) (v0 : Value) (v1 : Value) (n0 : Int) (h0 : H) : Option (Value × H) :=
  bls Try.prog h0 22 0 [] fun v2 h1 =>
  app Try.prog h1 22 22 v2 v1 fun v3 h2 =>
  len v3 fun n1 =>
  lp k (f64_l1 rec k v0 n0 v3 n1) [(.slice none 0 0), (.bool false), (.int .i64 0)] h2 fun e0 ws1 h6 =>
  onE e0 0 (
    some ((.tuple #[v3, (.bool true)]), h6)) (
    onR e0 (
      some ((.tuple #[gv ws1 0, gv ws1 1]), h6)))

theorem e64 (rec : Rec) (k : Nat) (v0 : Value) (v1 : Value) (n0 : Int) (h : H) : bodyT Try.prog E0 SC (XC Try.prog rec k) 64 (Value × H) [.opq v0, .opq v1, .int .i64 n0] h (fun v h => some (v, h)) = f64 rec k v0 v1 n0 h := by kernel_rfl
theorem t64 {k : Nat} {v0 : Value} {v1 : Value} {n0 : Int} {h h1 : H} {v : Value} (hh : f64 rn k v0 v1 n0 h = some (v, h1)) : rn 64 #[v0, v1, .int .i64 n0] h = some (v, trunc Try.prog h h1 v) :=
  run_of_bodyT (args := [.opq v0, .opq v1, .int .i64 n0]) rfl ((e64 _ _ _ _ _ _).trans hh)
theorem p64 {k : Nat} {v0 : Value} {v1 : Value} {n0 : Int} {h h1 : H} {v : Value} (hh : f64 rn k v0 v1 n0 h = some (v, h1)) (hp : plainO v = true) (x : Ext h h1) : rn 64 #[v0, v1, .int .i64 n0] h = some (v, h) := by rw [t64 hh, trunc_pure hp x]
theorem x64 {k : Nat} {v0 : Value} {v1 : Value} {n0 : Int} {h h1 : H} {v : Value} (hh : f64 rn k v0 v1 n0 h = some (v, h1)) (hp : plainO v = false) : rn 64 #[v0, v1, .int .i64 n0] h = some (v, h1) := by rw [t64 hh, trunc_not hp]

noncomputable def f65_l1 (_rec : Rec) (_k : Nat) (v0 : Value) (v1 : Value) (n2 : Int) (ws0 : List Value) (h1 : H) : Option (Ex × List Value × H) :=
  asI .i64 (gv ws0 1) fun n3 =>
  ifB (lt n3 n2) (
    asK (gv ws0 1) fun n4 =>
    six v1 n4 1 fun b0 b1 =>
    ld Try.prog h1 3 b0 b1 fun v2 =>
    asI .i64 v2 fun n5 =>
    ifB (lt n5 1) (
      out .ret [(.bool false), gv ws0 1] h1) (
      asK (gv ws0 1) fun n6 =>
      six v0 n6 1 fun b2 b3 =>
      ld Try.prog h1 3 b2 b3 fun v3 =>
      asI .i64 v3 fun n7 =>
      ifB (lt n7 n5) (
        out .ret [(.bool false), gv ws0 1] h1) (
        asI .i64 (gv ws0 1) fun n8 =>
        out .normal [gv ws0 0, (.int .i64 (add .i64 n8 1))] h1))) (
    out (.exit 0) [gv ws0 0, gv ws0 1] h1)

noncomputable def f65 (rec : Rec) (k : Nat) (v0 : Value) (v1 : Value) (h0 : H) : Option (Value × H) :=
  len v1 fun n0 =>
  len v0 fun n1 =>
  ifB (not (eq n0 n1)) (
    some ((.bool false), h0)) (
    len v1 fun n2 =>
    lp k (f65_l1 rec k v0 v1 n2) [(.bool false), (.int .i64 0)] h0 fun e0 ws1 h2 =>
    onE e0 0 (
      some ((.bool true), h2)) (
      onR e0 (
        some (gv ws1 0, h2))))

theorem e65 (rec : Rec) (k : Nat) (v0 : Value) (v1 : Value) (h : H) : bodyT Try.prog E0 SC (XC Try.prog rec k) 65 (Value × H) [.opq v0, .opq v1] h (fun v h => some (v, h)) = f65 rec k v0 v1 h := by kernel_rfl
theorem t65 {k : Nat} {v0 : Value} {v1 : Value} {h h1 : H} {v : Value} (hh : f65 rn k v0 v1 h = some (v, h1)) : rn 65 #[v0, v1] h = some (v, trunc Try.prog h h1 v) :=
  run_of_bodyT (args := [.opq v0, .opq v1]) rfl ((e65 _ _ _ _ _).trans hh)
theorem p65 {k : Nat} {v0 : Value} {v1 : Value} {h h1 : H} {v : Value} (hh : f65 rn k v0 v1 h = some (v, h1)) (hp : plainO v = true) (x : Ext h h1) : rn 65 #[v0, v1] h = some (v, h) := by rw [t65 hh, trunc_pure hp x]
theorem x65 {k : Nat} {v0 : Value} {v1 : Value} {h h1 : H} {v : Value} (hh : f65 rn k v0 v1 h = some (v, h1)) (hp : plainO v = false) : rn 65 #[v0, v1] h = some (v, h1) := by rw [t65 hh, trunc_not hp]

noncomputable def f66_l1 (_rec : Rec) (_k : Nat) (v0 : Value) (v1 : Value) (n0 : Int) (ws0 : List Value) (h1 : H) : Option (Ex × List Value × H) :=
  asI .i64 (gv ws0 1) fun n1 =>
  ifB (lt n1 n0) (
    asK (gv ws0 1) fun n2 =>
    six v0 n2 1 fun b0 b1 =>
    ld Try.prog h1 3 b0 b1 fun v2 =>
    asI .i64 v2 fun n3 =>
    asI .i64 (gv ws0 0) fun n4 =>
    asK (gv ws0 1) fun n5 =>
    six v1 n5 1 fun b2 b3 =>
    ld Try.prog h1 3 b2 b3 fun v3 =>
    asI .i64 v3 fun n6 =>
    asI .i64 (gv ws0 1) fun n7 =>
    out .normal [(.int .i64 (sub .i64 (add .i64 (mul .i64 n4 n3) n6) 1)), (.int .i64 (add .i64 n7 1))] h1) (
    out (.exit 0) [gv ws0 0, gv ws0 1] h1)

noncomputable def f66 (rec : Rec) (k : Nat) (v0 : Value) (v1 : Value) (h0 : H) : Option (Value × H) :=
  len v0 fun n0 =>
  lp k (f66_l1 rec k v0 v1 n0) [(.int .i64 0), (.int .i64 0)] h0 fun e0 ws1 h2 =>
  onE e0 0 (
    some (gv ws1 0, h2)) (
    none)

theorem e66 (rec : Rec) (k : Nat) (v0 : Value) (v1 : Value) (h : H) : bodyT Try.prog E0 SC (XC Try.prog rec k) 66 (Value × H) [.opq v0, .opq v1] h (fun v h => some (v, h)) = f66 rec k v0 v1 h := by kernel_rfl
theorem t66 {k : Nat} {v0 : Value} {v1 : Value} {h h1 : H} {v : Value} (hh : f66 rn k v0 v1 h = some (v, h1)) : rn 66 #[v0, v1] h = some (v, trunc Try.prog h h1 v) :=
  run_of_bodyT (args := [.opq v0, .opq v1]) rfl ((e66 _ _ _ _ _).trans hh)
theorem p66 {k : Nat} {v0 : Value} {v1 : Value} {h h1 : H} {v : Value} (hh : f66 rn k v0 v1 h = some (v, h1)) (hp : plainO v = true) (x : Ext h h1) : rn 66 #[v0, v1] h = some (v, h) := by rw [t66 hh, trunc_pure hp x]
theorem x66 {k : Nat} {v0 : Value} {v1 : Value} {h h1 : H} {v : Value} (hh : f66 rn k v0 v1 h = some (v, h1)) (hp : plainO v = false) : rn 66 #[v0, v1] h = some (v, h1) := by rw [t66 hh, trunc_not hp]

noncomputable def f67_l1 (_rec : Rec) (_k : Nat) (v0 : Value) (v1 : Value) (n0 : Int) (v2 : Value) (n2 : Int) (ws0 : List Value) (h2 : H) : Option (Ex × List Value × H) :=
  asI .i64 (gv ws0 2) fun n3 =>
  ifB (lt n3 n2) (
    asK (gv ws0 2) fun n4 =>
    six v1 n4 1 fun b0 b1 =>
    ld Try.prog h2 3 b0 b1 fun v3 =>
    asI .i64 v3 fun n5 =>
    asK (gv ws0 2) fun n6 =>
    six v2 n6 1 fun b2 b3 =>
    st Try.prog h2 3 b2 b3 (.int .i64 (sub .i64 n5 1)) fun h3 =>
    asI .i64 (gv ws0 2) fun n7 =>
    ifB (eq n7 n0) (
      asK (gv ws0 2) fun n8 =>
      six v0 n8 1 fun b4 b5 =>
      ld Try.prog h3 3 b4 b5 fun v4 =>
      asI .i64 v4 fun n9 =>
      asK (gv ws0 2) fun n10 =>
      six v2 n10 1 fun b6 b7 =>
      st Try.prog h3 3 b6 b7 (.int .i64 n9) fun h4 =>
      asK (gv ws0 2) fun n11 =>
      six v2 n11 1 fun b8 b9 =>
      ld Try.prog h4 3 b8 b9 fun v5 =>
      asI .i64 v5 fun n12 =>
      ifB (eq n12 0) (
        out .ret [(.slice none 0 0), (.bool false), gv ws0 2] h4) (
        asI .i64 (gv ws0 2) fun n13 =>
        out .normal [gv ws0 0, gv ws0 1, (.int .i64 (add .i64 n13 1))] h4)) (
      asK (gv ws0 2) fun n14 =>
      six v2 n14 1 fun b10 b11 =>
      ld Try.prog h3 3 b10 b11 fun v6 =>
      asI .i64 v6 fun n15 =>
      ifB (eq n15 0) (
        out .ret [(.slice none 0 0), (.bool false), gv ws0 2] h3) (
        asI .i64 (gv ws0 2) fun n16 =>
        out .normal [gv ws0 0, gv ws0 1, (.int .i64 (add .i64 n16 1))] h3))) (
    out (.exit 0) [gv ws0 0, gv ws0 1, gv ws0 2] h2)

noncomputable def f67 (rec : Rec) (k : Nat) (v0 : Value) (v1 : Value) (n0 : Int) (h0 : H) : Option (Value × H) :=
  len v0 fun n1 =>
  mks Try.prog h0 22 n1 n1 fun v2 h1 =>
  len v1 fun n2 =>
  lp k (f67_l1 rec k v0 v1 n0 v2 n2) [(.slice none 0 0), (.bool false), (.int .i64 0)] h1 fun e0 ws1 h5 =>
  onE e0 0 (
    some ((.tuple #[v2, (.bool true)]), h5)) (
    onR e0 (
      some ((.tuple #[gv ws1 0, gv ws1 1]), h5)))

theorem e67 (rec : Rec) (k : Nat) (v0 : Value) (v1 : Value) (n0 : Int) (h : H) : bodyT Try.prog E0 SC (XC Try.prog rec k) 67 (Value × H) [.opq v0, .opq v1, .int .i64 n0] h (fun v h => some (v, h)) = f67 rec k v0 v1 n0 h := by kernel_rfl
theorem t67 {k : Nat} {v0 : Value} {v1 : Value} {n0 : Int} {h h1 : H} {v : Value} (hh : f67 rn k v0 v1 n0 h = some (v, h1)) : rn 67 #[v0, v1, .int .i64 n0] h = some (v, trunc Try.prog h h1 v) :=
  run_of_bodyT (args := [.opq v0, .opq v1, .int .i64 n0]) rfl ((e67 _ _ _ _ _ _).trans hh)
theorem p67 {k : Nat} {v0 : Value} {v1 : Value} {n0 : Int} {h h1 : H} {v : Value} (hh : f67 rn k v0 v1 n0 h = some (v, h1)) (hp : plainO v = true) (x : Ext h h1) : rn 67 #[v0, v1, .int .i64 n0] h = some (v, h) := by rw [t67 hh, trunc_pure hp x]
theorem x67 {k : Nat} {v0 : Value} {v1 : Value} {n0 : Int} {h h1 : H} {v : Value} (hh : f67 rn k v0 v1 n0 h = some (v, h1)) (hp : plainO v = false) : rn 67 #[v0, v1, .int .i64 n0] h = some (v, h1) := by rw [t67 hh, trunc_not hp]

noncomputable def f89_l1 (_rec : Rec) (_k : Nat) (v0 : Value) (v1 : Value) (ws0 : List Value) (h2 : H) : Option (Ex × List Value × H) :=
  asI .i64 (gv ws0 1) fun n3 =>
  ifB (le 0 n3) (
    asK (gv ws0 1) fun n4 =>
    six v0 n4 1 fun b0 b1 =>
    ld Try.prog h2 3 b0 b1 fun v2 =>
    asI .i64 v2 fun n5 =>
    asI .i64 (gv ws0 0) fun n6 =>
    nz n5 (
      asK (gv ws0 1) fun n7 =>
      six v1 n7 1 fun b2 b3 =>
      st Try.prog h2 3 b2 b3 (.int .i64 (add .i64 (rem .i64 n6 n5) 1)) fun h3 =>
      asK (gv ws0 1) fun n8 =>
      six v0 n8 1 fun b4 b5 =>
      ld Try.prog h3 3 b4 b5 fun v3 =>
      asI .i64 v3 fun n9 =>
      asI .i64 (gv ws0 0) fun n10 =>
      nz n9 (
        asI .i64 (gv ws0 1) fun n11 =>
        out .normal [(.int .i64 (quo .i64 n10 n9)), (.int .i64 (sub .i64 n11 1))] h3))) (
    out (.exit 0) [gv ws0 0, gv ws0 1] h2)

noncomputable def f89 (rec : Rec) (k : Nat) (v0 : Value) (n0 : Int) (h0 : H) : Option (Value × H) :=
  len v0 fun n1 =>
  mks Try.prog h0 22 n1 n1 fun v1 h1 =>
  len v0 fun n2 =>
  lp k (f89_l1 rec k v0 v1) [(.int .i64 n0), (.int .i64 (sub .i64 n2 1))] h1 fun e0 _ h4 =>
  onE e0 0 (
    some (v1, h4)) (
    none)

theorem e89 (rec : Rec) (k : Nat) (v0 : Value) (n0 : Int) (h : H) : bodyT Try.prog E0 SC (XC Try.prog rec k) 89 (Value × H) [.opq v0, .int .i64 n0] h (fun v h => some (v, h)) = f89 rec k v0 n0 h := by kernel_rfl
theorem t89 {k : Nat} {v0 : Value} {n0 : Int} {h h1 : H} {v : Value} (hh : f89 rn k v0 n0 h = some (v, h1)) : rn 89 #[v0, .int .i64 n0] h = some (v, trunc Try.prog h h1 v) :=
  run_of_bodyT (args := [.opq v0, .int .i64 n0]) rfl ((e89 _ _ _ _ _).trans hh)
theorem p89 {k : Nat} {v0 : Value} {n0 : Int} {h h1 : H} {v : Value} (hh : f89 rn k v0 n0 h = some (v, h1)) (hp : plainO v = true) (x : Ext h h1) : rn 89 #[v0, .int .i64 n0] h = some (v, h) := by rw [t89 hh, trunc_pure hp x]
theorem x89 {k : Nat} {v0 : Value} {n0 : Int} {h h1 : H} {v : Value} (hh : f89 rn k v0 n0 h = some (v, h1)) (hp : plainO v = false) : rn 89 #[v0, .int .i64 n0] h = some (v, h1) := by rw [t89 hh, trunc_not hp]

noncomputable def f90_l1 (_rec : Rec) (_k : Nat) (v4 : Value) (ws0 : List Value) (h4 : H) : Option (Ex × List Value × H) :=
  len v4 fun n5 =>
  asI .i64 (gv ws0 0) fun n6 =>
  ifB (lt n6 n5) (
    sli Try.prog h4 22 v4 (some (gv ws0 0)) none none fun v5 =>
    sli Try.prog h4 22 v4 none (some (gv ws0 0)) none fun v6 =>
    cpy Try.prog h4 22 v5 v6 fun n7 h5 =>
    asI .i64 (gv ws0 0) fun n8 =>
    out .normal [(.int .i64 (add .i64 n8 n7))] h5) (
    out (.exit 0) [gv ws0 0] h4)

noncomputable def f90 (rec : Rec) (k : Nat) (v0 : Value) (n0 : Int) (h0 : H) : Option (Value × H) :=
  ifB (lt n0 0) (
    none) (
    len v0 fun n1 =>
    calls rec h0 102 [(.int .u64 (wr .u64 n1)), (.int .u64 (wr .u64 n0))] fun v1 h1 =>
    ext v1 0 fun v2 =>
    asI .u64 v2 fun n2 =>
    ext v1 1 fun v3 =>
    asI .u64 v3 fun n3 =>
    ifB (lt 0 n2) (
      none) (
      ifB (lt 9223372036854775807 n3) (
        none) (
        mks Try.prog h1 22 (wr .i64 n3) (wr .i64 n3) fun v4 h2 =>
        cpy Try.prog h2 22 v4 v0 fun n4 h3 =>
        lp k (f90_l1 rec k v4) [(.int .i64 n4)] h3 fun e0 _ h6 =>
        onE e0 0 (
          some (v4, h6)) (
          none))))

theorem e90 (rec : Rec) (k : Nat) (v0 : Value) (n0 : Int) (h : H) : bodyT Try.prog E0 SC (XC Try.prog rec k) 90 (Value × H) [.opq v0, .int .i64 n0] h (fun v h => some (v, h)) = f90 rec k v0 n0 h := by kernel_rfl
theorem t90 {k : Nat} {v0 : Value} {n0 : Int} {h h1 : H} {v : Value} (hh : f90 rn k v0 n0 h = some (v, h1)) : rn 90 #[v0, .int .i64 n0] h = some (v, trunc Try.prog h h1 v) :=
  run_of_bodyT (args := [.opq v0, .int .i64 n0]) rfl ((e90 _ _ _ _ _).trans hh)
theorem p90 {k : Nat} {v0 : Value} {n0 : Int} {h h1 : H} {v : Value} (hh : f90 rn k v0 n0 h = some (v, h1)) (hp : plainO v = true) (x : Ext h h1) : rn 90 #[v0, .int .i64 n0] h = some (v, h) := by rw [t90 hh, trunc_pure hp x]
theorem x90 {k : Nat} {v0 : Value} {n0 : Int} {h h1 : H} {v : Value} (hh : f90 rn k v0 n0 h = some (v, h1)) (hp : plainO v = false) : rn 90 #[v0, .int .i64 n0] h = some (v, h1) := by rw [t90 hh, trunc_not hp]

noncomputable def f102 (rec : Rec) (_k : Nat) (v0 : Value) (v1 : Value) (h0 : H) : Option (Value × H) :=
  calls rec h0 104 [v0, v1] fun v2 h1 =>
  ext v2 0 fun v3 =>
  asI .u64 v3 fun n0 =>
  ext v2 1 fun v4 =>
  asI .u64 v4 fun n1 =>
  some ((.tuple #[(.int .u64 n0), (.int .u64 n1)]), h1)

theorem e102 (rec : Rec) (k : Nat) (v0 : Value) (v1 : Value) (h : H) : bodyT Try.prog E0 SC (XC Try.prog rec k) 102 (Value × H) [.opq v0, .opq v1] h (fun v h => some (v, h)) = f102 rec k v0 v1 h := by kernel_rfl
theorem t102 {k : Nat} {v0 : Value} {v1 : Value} {h h1 : H} {v : Value} (hh : f102 rn k v0 v1 h = some (v, h1)) : rn 102 #[v0, v1] h = some (v, trunc Try.prog h h1 v) :=
  run_of_bodyT (args := [.opq v0, .opq v1]) rfl ((e102 _ _ _ _ _).trans hh)
theorem p102 {k : Nat} {v0 : Value} {v1 : Value} {h h1 : H} {v : Value} (hh : f102 rn k v0 v1 h = some (v, h1)) (hp : plainO v = true) (x : Ext h h1) : rn 102 #[v0, v1] h = some (v, h) := by rw [t102 hh, trunc_pure hp x]
theorem x102 {k : Nat} {v0 : Value} {v1 : Value} {h h1 : H} {v : Value} (hh : f102 rn k v0 v1 h = some (v, h1)) (hp : plainO v = false) : rn 102 #[v0, v1] h = some (v, h1) := by rw [t102 hh, trunc_not hp]

end Go.AM
