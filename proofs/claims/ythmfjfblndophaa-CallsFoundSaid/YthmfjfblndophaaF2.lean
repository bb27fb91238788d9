/- The staged forms of functions 5, 30, 31, 32, 33, 71, 72, 73, 74, 75, 76, 77, 78, 79, 89, 99, 100, 105, and what calls of these answer. -/
import Derived.Test.YthmfjfblndophaaSx
namespace Go.AM
open Go.Proofs

noncomputable def f5 (rec : Rec) (_k : Nat) (n0 : Int) (h0 : H) : Option (Value × H) :=
  calls rec h0 30 [(.int .i64 n0)] fun v0 h1 =>
  ext v0 0 fun v1 =>
  ext v0 1 fun v2 =>
  asI .i64 v2 fun n1 =>
  al h1 31 [(.int .i64 0), (.slice none 0 0)] fun h2 =>
  st Try.prog h2 31 (nx h1) 0 v1 fun h3 =>
  calls rec h3 31 [(.int .i64 n0)] fun v3 h4 =>
  ext v3 0 fun v4 =>
  asI .i64 v4 fun n2 =>
  ext v3 1 fun v5 =>
  asI .i64 v5 fun n3 =>
  ifB (lt n0 1) (
    ld Try.prog h4 31 (nx h1) 0 fun v6 =>
    calls rec h4 32 [v6] fun v7 h5 =>
    asB v7 fun q0 =>
    ifB q0 (
      ifB (eq n2 0) (
        ifB (eq n1 2) (
          ifB (eq n3 2) (
            calls rec h5 22 [] fun v8 h6 =>
            asB v8 fun q1 =>
            some ((.bool q1), h6)) (
            some ((.bool false), h5))) (
          some ((.bool false), h5))) (
        some ((.bool false), h5))) (
      some ((.bool false), h5))) (
    ifB (lt 7 n0) (
      ld Try.prog h4 31 (nx h1) 0 fun v9 =>
      calls rec h4 32 [v9] fun v10 h7 =>
      asB v10 fun q2 =>
      ifB q2 (
        ifB (eq n2 0) (
          ifB (eq n1 2) (
            ifB (eq n3 2) (
              calls rec h7 22 [] fun v11 h8 =>
              asB v11 fun q3 =>
              some ((.bool q3), h8)) (
              some ((.bool false), h7))) (
            some ((.bool false), h7))) (
          some ((.bool false), h7))) (
        some ((.bool false), h7))) (
      ld Try.prog h4 31 (nx h1) 0 fun v12 =>
      calls rec h4 33 [v12] fun v13 h9 =>
      al h9 24 [(.int .i64 0), (.slice none 0 0)] fun h10 =>
      st Try.prog h10 24 (nx h9) 0 v13 fun h11 =>
      ifB (eq n1 0) (
        ifB (eq n3 0) (
          calls rec h11 34 [(.int .i64 n0)] fun v14 h12 =>
          asI .i64 v14 fun n4 =>
          ifB (eq n2 n4) (
            ld Try.prog h12 24 (nx h9) 0 fun v15 =>
            calls rec h12 35 [v15] fun v16 h13 =>
            asB v16 fun q4 =>
            ifB q4 (
              ld Try.prog h13 3 (nx h9) 0 fun v17 =>
              asI .i64 v17 fun n5 =>
              ifB (eq n5 n0) (
                ld Try.prog h13 24 (nx h9) 0 fun v18 =>
                calls rec h13 36 [v18] fun v19 h14 =>
                asB v19 fun q5 =>
                ifB q5 (
                  ld Try.prog h14 22 (nx h9) (off 0 1) fun v20 =>
                  len v20 fun n6 =>
                  ifB (eq n6 n2) (
                    calls rec h14 22 [] fun v21 h15 =>
                    asB v21 fun q6 =>
                    some ((.bool q6), h15)) (
                    some ((.bool false), h14))) (
                  some ((.bool false), h14))) (
                some ((.bool false), h13))) (
              some ((.bool false), h13))) (
            some ((.bool false), h12))) (
          some ((.bool false), h11))) (
        some ((.bool false), h11))))

theorem e5 (rec : Rec) (k : Nat) (n0 : Int) (h : H) : bodyT Try.prog E0 SC (XC Try.prog rec k) 5 (Value × H) [.int .i64 n0] h (fun v h => some (v, h)) = f5 rec k n0 h := by kernel_rfl
theorem t5 {k : Nat} {n0 : Int} {h h1 : H} {v : Value} (hh : f5 rn k n0 h = some (v, h1)) : rn 5 #[.int .i64 n0] h = some (v, trunc Try.prog h h1 v) :=
  run_of_bodyT (args := [.int .i64 n0]) rfl ((e5 _ _ _ _).trans hh)
theorem p5 {k : Nat} {n0 : Int} {h h1 : H} {v : Value} (hh : f5 rn k n0 h = some (v, h1)) (hp : plainO v = true) (x : Ext h h1) : rn 5 #[.int .i64 n0] h = some (v, h) := by rw [t5 hh, trunc_pure hp x]
theorem x5 {k : Nat} {n0 : Int} {h h1 : H} {v : Value} (hh : f5 rn k n0 h = some (v, h1)) (hp : plainO v = false) : rn 5 #[.int .i64 n0] h = some (v, h1) := by rw [t5 hh, trunc_not hp]

noncomputable def f30 (rec : Rec) (_k : Nat) (n0 : Int) (h0 : H) : Option (Value × H) :=
  al h0 31 [(.int .i64 0), (.slice none 0 0)] fun h1 =>
  ifB (lt n0 1) (
    bld Try.prog 31 [] fun v0 =>
    st Try.prog h1 31 (nx h0) 0 v0 fun h2 =>
    ld Try.prog h2 31 (nx h0) 0 fun v1 =>
    some ((.tuple #[v1, (.int .i64 2)]), h2)) (
    ifB (lt 7 n0) (
      bld Try.prog 31 [] fun v2 =>
      st Try.prog h1 31 (nx h0) 0 v2 fun h3 =>
      ld Try.prog h3 31 (nx h0) 0 fun v3 =>
      some ((.tuple #[v3, (.int .i64 2)]), h3)) (
      calls rec h1 76 [(.int .i64 n0)] fun v4 h4 =>
      st Try.prog h4 31 (nx h0) 0 v4 fun h5 =>
      ld Try.prog h5 31 (nx h0) 0 fun v5 =>
      some ((.tuple #[v5, (.int .i64 0)]), h5)))

theorem e30 (rec : Rec) (k : Nat) (n0 : Int) (h : H) : bodyT Try.prog E0 SC (XC Try.prog rec k) 30 (Value × H) [.int .i64 n0] h (fun v h => some (v, h)) = f30 rec k n0 h := by kernel_rfl
theorem t30 {k : Nat} {n0 : Int} {h h1 : H} {v : Value} (hh : f30 rn k n0 h = some (v, h1)) : rn 30 #[.int .i64 n0] h = some (v, trunc Try.prog h h1 v) :=
  run_of_bodyT (args := [.int .i64 n0]) rfl ((e30 _ _ _ _).trans hh)
theorem p30 {k : Nat} {n0 : Int} {h h1 : H} {v : Value} (hh : f30 rn k n0 h = some (v, h1)) (hp : plainO v = true) (x : Ext h h1) : rn 30 #[.int .i64 n0] h = some (v, h) := by rw [t30 hh, trunc_pure hp x]
theorem x30 {k : Nat} {n0 : Int} {h h1 : H} {v : Value} (hh : f30 rn k n0 h = some (v, h1)) (hp : plainO v = false) : rn 30 #[.int .i64 n0] h = some (v, h1) := by rw [t30 hh, trunc_not hp]

noncomputable def f31 (rec : Rec) (_k : Nat) (n0 : Int) (h0 : H) : Option (Value × H) :=
  ifB (lt n0 1) (
    some ((.tuple #[(.int .i64 0), (.int .i64 2)]), h0)) (
    ifB (lt 7 n0) (
      some ((.tuple #[(.int .i64 0), (.int .i64 2)]), h0)) (
      calls rec h0 76 [(.int .i64 n0)] fun v0 h1 =>
      fld Try.prog 31 v0 1 fun v1 =>
      len v1 fun n1 =>
      some ((.tuple #[(.int .i64 n1), (.int .i64 0)]), h1)))

theorem e31 (rec : Rec) (k : Nat) (n0 : Int) (h : H) : bodyT Try.prog E0 SC (XC Try.prog rec k) 31 (Value × H) [.int .i64 n0] h (fun v h => some (v, h)) = f31 rec k n0 h := by kernel_rfl
theorem t31 {k : Nat} {n0 : Int} {h h1 : H} {v : Value} (hh : f31 rn k n0 h = some (v, h1)) : rn 31 #[.int .i64 n0] h = some (v, trunc Try.prog h h1 v) :=
  run_of_bodyT (args := [.int .i64 n0]) rfl ((e31 _ _ _ _).trans hh)
theorem p31 {k : Nat} {n0 : Int} {h h1 : H} {v : Value} (hh : f31 rn k n0 h = some (v, h1)) (hp : plainO v = true) (x : Ext h h1) : rn 31 #[.int .i64 n0] h = some (v, h) := by rw [t31 hh, trunc_pure hp x]
theorem x31 {k : Nat} {n0 : Int} {h h1 : H} {v : Value} (hh : f31 rn k n0 h = some (v, h1)) (hp : plainO v = false) : rn 31 #[.int .i64 n0] h = some (v, h1) := by rw [t31 hh, trunc_not hp]

noncomputable def f32 (_rec : Rec) (_k : Nat) (v0 : Value) (h0 : H) : Option (Value × H) :=
  bx h0 31 v0 fun h1 =>
  ld Try.prog h1 3 (nx h0) 0 fun v1 =>
  asI .i64 v1 fun n0 =>
  ifB (eq n0 0) (
    ld Try.prog h1 29 (nx h0) (off 0 1) fun v2 =>
    len v2 fun n1 =>
    some ((.bool (eq n1 0)), h1)) (
    some ((.bool false), h1))

theorem e32 (rec : Rec) (k : Nat) (v0 : Value) (h : H) : bodyT Try.prog E0 SC (XC Try.prog rec k) 32 (Value × H) [.opq v0] h (fun v h => some (v, h)) = f32 rec k v0 h := by kernel_rfl
theorem t32 {k : Nat} {v0 : Value} {h h1 : H} {v : Value} (hh : f32 rn k v0 h = some (v, h1)) : rn 32 #[v0] h = some (v, trunc Try.prog h h1 v) :=
  run_of_bodyT (args := [.opq v0]) rfl ((e32 _ _ _ _).trans hh)
theorem p32 {k : Nat} {v0 : Value} {h h1 : H} {v : Value} (hh : f32 rn k v0 h = some (v, h1)) (hp : plainO v = true) (x : Ext h h1) : rn 32 #[v0] h = some (v, h) := by rw [t32 hh, trunc_pure hp x]
theorem x32 {k : Nat} {v0 : Value} {h h1 : H} {v : Value} (hh : f32 rn k v0 h = some (v, h1)) (hp : plainO v = false) : rn 32 #[v0] h = some (v, h1) := by rw [t32 hh, trunc_not hp]

noncomputable def f33_l1 (_rec : Rec) (_k : Nat) (h2 : H) (v3 : Value) (n1 : Int) (ws0 : List Value) (h5 : H) : Option (Ex × List Value × H) :=
  asI .i64 (gv ws0 0) fun n2 =>
  ifB (lt n2 n1) (
    asK (gv ws0 0) fun n3 =>
    six v3 n3 3 fun b0 b1 =>
    ld Try.prog h5 56 b0 b1 fun v4 =>
    al h5 56 [(.int .i64 0), (.int .i64 0), (.int .i64 0)] fun h6 =>
    st Try.prog h6 56 (nx h5) 0 v4 fun h7 =>
    ld Try.prog h7 22 (nx h2) (off 0 1) fun v5 =>
    ld Try.prog h7 3 (nx h5) 0 fun v6 =>
    asI .i64 v6 fun n4 =>
    ld Try.prog h7 3 (nx h5) (off 0 1) fun v7 =>
    asI .i64 v7 fun n5 =>
    ld Try.prog h7 3 (nx h5) (off 0 2) fun v8 =>
    asI .i64 v8 fun n6 =>
    bld Try.prog 59 [(0, (.int .i64 n4)), (1, (.int .i64 n5)), (2, (.int .i64 n6))] fun v9 =>
    bls Try.prog h7 22 1 [(0, v9)] fun v10 h8 =>
    app Try.prog h8 22 22 v5 v10 fun v11 h9 =>
    st Try.prog h9 22 (nx h2) (off 0 1) v11 fun h10 =>
    asI .i64 (gv ws0 0) fun n7 =>
    out .normal [(.int .i64 (add .i64 n7 1))] h10) (
    out (.exit 0) [gv ws0 0] h5)

noncomputable def f33 (rec : Rec) (k : Nat) (v0 : Value) (h0 : H) : Option (Value × H) :=
  bx h0 31 v0 fun h1 =>
  al h1 24 [(.int .i64 0), (.slice none 0 0)] fun h2 =>
  ld Try.prog h2 3 (nx h0) 0 fun v1 =>
  asI .i64 v1 fun n0 =>
  bld Try.prog 24 [(0, (.int .i64 n0))] fun v2 =>
  al h2 24 [(.int .i64 0), (.slice none 0 0)] fun h3 =>
  st Try.prog h3 24 (nx h2) 0 v2 fun h4 =>
  ld Try.prog h4 29 (nx h0) (off 0 1) fun v3 =>
  len v3 fun n1 =>
  lp k (f33_l1 rec k h2 v3 n1) [(.int .i64 0)] h4 fun e0 _ h11 =>
  onE e0 0 (
    ld Try.prog h11 24 (nx h2) 0 fun v12 =>
    st Try.prog h11 24 (nx h1) 0 v12 fun h12 =>
    ld Try.prog h12 24 (nx h1) 0 fun v13 =>
    some (v13, h12)) (
    none)

theorem e33 (rec : Rec) (k : Nat) (v0 : Value) (h : H) : bodyT Try.prog E0 SC (XC Try.prog rec k) 33 (Value × H) [.opq v0] h (fun v h => some (v, h)) = f33 rec k v0 h := by kernel_rfl
theorem t33 {k : Nat} {v0 : Value} {h h1 : H} {v : Value} (hh : f33 rn k v0 h = some (v, h1)) : rn 33 #[v0] h = some (v, trunc Try.prog h h1 v) :=
  run_of_bodyT (args := [.opq v0]) rfl ((e33 _ _ _ _).trans hh)
theorem p33 {k : Nat} {v0 : Value} {h h1 : H} {v : Value} (hh : f33 rn k v0 h = some (v, h1)) (hp : plainO v = true) (x : Ext h h1) : rn 33 #[v0] h = some (v, h) := by rw [t33 hh, trunc_pure hp x]
theorem x33 {k : Nat} {v0 : Value} {h h1 : H} {v : Value} (hh : f33 rn k v0 h = some (v, h1)) (hp : plainO v = false) : rn 33 #[v0] h = some (v, h1) := by rw [t33 hh, trunc_not hp]

noncomputable def f71_l1 (rec : Rec) (_k : Nat) (h0 : H) (v4 : Value) (n3 : Int) (ws0 : List Value) (h2 : H) : Option (Ex × List Value × H) :=
  asI .i64 (gv ws0 1) fun n4 =>
  ifB (lt n4 n3) (
    asK (gv ws0 1) fun n5 =>
    six v4 n5 3 fun b0 b1 =>
    ld Try.prog h2 56 b0 b1 fun v5 =>
    al h2 56 [(.int .i64 0), (.int .i64 0), (.int .i64 0)] fun h3 =>
    st Try.prog h3 56 (nx h2) 0 v5 fun h4 =>
    ld Try.prog h4 31 (nx h0) 0 fun v6 =>
    ld Try.prog h4 3 (nx h2) 0 fun v7 =>
    asI .i64 v7 fun n6 =>
    calls rec h4 72 [v6, (.int .i64 n6)] fun v8 h5 =>
    asB v8 fun q0 =>
    ifB (not q0) (
      out .ret [(.bool false), gv ws0 1] h5) (
      ld Try.prog h5 31 (nx h0) 0 fun v9 =>
      ld Try.prog h5 3 (nx h2) (off 0 1) fun v10 =>
      asI .i64 v10 fun n7 =>
      calls rec h5 72 [v9, (.int .i64 n7)] fun v11 h6 =>
      asB v11 fun q1 =>
      ifB (not q1) (
        out .ret [(.bool false), gv ws0 1] h6) (
        ld Try.prog h6 3 (nx h2) 0 fun v12 =>
        asI .i64 v12 fun n8 =>
        ld Try.prog h6 3 (nx h2) (off 0 1) fun v13 =>
        asI .i64 v13 fun n9 =>
        ifB (eq n8 n9) (
          out .ret [(.bool false), gv ws0 1] h6) (
          ld Try.prog h6 3 (nx h2) (off 0 2) fun v14 =>
          asI .i64 v14 fun n10 =>
          ifB (lt n10 1) (
            out .ret [(.bool false), gv ws0 1] h6) (
            ld Try.prog h6 3 (nx h2) (off 0 2) fun v15 =>
            asI .i64 v15 fun n11 =>
            ifB (lt 30 n11) (
              out .ret [(.bool false), gv ws0 1] h6) (
              asI .i64 (gv ws0 1) fun n12 =>
              ifB (lt 0 n12) (
                ld Try.prog h6 29 (nx h0) (off 0 1) fun v16 =>
                asI .i64 (gv ws0 1) fun n13 =>
                six v16 (sub .i64 n13 1) 3 fun b2 b3 =>
                ld Try.prog h6 3 b2 (off b3 2) fun v17 =>
                asI .i64 v17 fun n14 =>
                ld Try.prog h6 3 (nx h2) (off 0 2) fun v18 =>
                asI .i64 v18 fun n15 =>
                ifB (lt n15 n14) (
                  out .ret [(.bool false), gv ws0 1] h6) (
                  ld Try.prog h6 29 (nx h0) (off 0 1) fun v19 =>
                  sli Try.prog h6 29 v19 none (some (gv ws0 1)) none fun v20 =>
                  calls rec h6 89 [v20, (.func (.func 99) #[] #[(pt (nx h2) 0)])] fun v21 h7 =>
                  asB v21 fun q2 =>
                  ifB q2 (
                    out .ret [(.bool false), gv ws0 1] h7) (
                    asI .i64 (gv ws0 1) fun n16 =>
                    out .normal [gv ws0 0, (.int .i64 (add .i64 n16 1))] h7))) (
                ld Try.prog h6 29 (nx h0) (off 0 1) fun v22 =>
                sli Try.prog h6 29 v22 none (some (gv ws0 1)) none fun v23 =>
                calls rec h6 89 [v23, (.func (.func 99) #[] #[(pt (nx h2) 0)])] fun v24 h8 =>
                asB v24 fun q3 =>
                ifB q3 (
                  out .ret [(.bool false), gv ws0 1] h8) (
                  asI .i64 (gv ws0 1) fun n17 =>
                  out .normal [gv ws0 0, (.int .i64 (add .i64 n17 1))] h8)))))))) (
    out (.exit 0) [gv ws0 0, gv ws0 1] h2)

noncomputable def f71 (rec : Rec) (k : Nat) (v0 : Value) (h0 : H) : Option (Value × H) :=
  bx h0 31 v0 fun h1 =>
  ld Try.prog h1 3 (nx h0) 0 fun v1 =>
  asI .i64 v1 fun n0 =>
  ifB (lt n0 1) (
    some ((.bool false), h1)) (
    ld Try.prog h1 3 (nx h0) 0 fun v2 =>
    asI .i64 v2 fun n1 =>
    ifB (lt 7 n1) (
      some ((.bool false), h1)) (
      ld Try.prog h1 29 (nx h0) (off 0 1) fun v3 =>
      len v3 fun n2 =>
      ifB (lt 24 n2) (
        some ((.bool false), h1)) (
        ld Try.prog h1 29 (nx h0) (off 0 1) fun v4 =>
        len v4 fun n3 =>
        lp k (f71_l1 rec k h0 v4 n3) [(.bool false), (.int .i64 0)] h1 fun e0 ws1 h9 =>
        onE e0 0 (
          some ((.bool true), h9)) (
          onR e0 (
            some (gv ws1 0, h9))))))

theorem e71 (rec : Rec) (k : Nat) (v0 : Value) (h : H) : bodyT Try.prog E0 SC (XC Try.prog rec k) 71 (Value × H) [.opq v0] h (fun v h => some (v, h)) = f71 rec k v0 h := by kernel_rfl
theorem t71 {k : Nat} {v0 : Value} {h h1 : H} {v : Value} (hh : f71 rn k v0 h = some (v, h1)) : rn 71 #[v0] h = some (v, trunc Try.prog h h1 v) :=
  run_of_bodyT (args := [.opq v0]) rfl ((e71 _ _ _ _).trans hh)
theorem p71 {k : Nat} {v0 : Value} {h h1 : H} {v : Value} (hh : f71 rn k v0 h = some (v, h1)) (hp : plainO v = true) (x : Ext h h1) : rn 71 #[v0] h = some (v, h) := by rw [t71 hh, trunc_pure hp x]
theorem x71 {k : Nat} {v0 : Value} {h h1 : H} {v : Value} (hh : f71 rn k v0 h = some (v, h1)) (hp : plainO v = false) : rn 71 #[v0] h = some (v, h1) := by rw [t71 hh, trunc_not hp]

noncomputable def f72 (_rec : Rec) (_k : Nat) (v0 : Value) (n0 : Int) (h0 : H) : Option (Value × H) :=
  bx h0 31 v0 fun h1 =>
  ifB (le 0 n0) (
    ld Try.prog h1 3 (nx h0) 0 fun v1 =>
    asI .i64 v1 fun n1 =>
    some ((.bool (lt n0 n1)), h1)) (
    some ((.bool false), h1))

theorem e72 (rec : Rec) (k : Nat) (v0 : Value) (n0 : Int) (h : H) : bodyT Try.prog E0 SC (XC Try.prog rec k) 72 (Value × H) [.opq v0, .int .i64 n0] h (fun v h => some (v, h)) = f72 rec k v0 n0 h := by kernel_rfl
theorem t72 {k : Nat} {v0 : Value} {n0 : Int} {h h1 : H} {v : Value} (hh : f72 rn k v0 n0 h = some (v, h1)) : rn 72 #[v0, .int .i64 n0] h = some (v, trunc Try.prog h h1 v) :=
  run_of_bodyT (args := [.opq v0, .int .i64 n0]) rfl ((e72 _ _ _ _ _).trans hh)
theorem p72 {k : Nat} {v0 : Value} {n0 : Int} {h h1 : H} {v : Value} (hh : f72 rn k v0 n0 h = some (v, h1)) (hp : plainO v = true) (x : Ext h h1) : rn 72 #[v0, .int .i64 n0] h = some (v, h) := by rw [t72 hh, trunc_pure hp x]
theorem x72 {k : Nat} {v0 : Value} {n0 : Int} {h h1 : H} {v : Value} (hh : f72 rn k v0 n0 h = some (v, h1)) (hp : plainO v = false) : rn 72 #[v0, .int .i64 n0] h = some (v, h1) := by rw [t72 hh, trunc_not hp]

noncomputable def f73 (_rec : Rec) (_k : Nat) (v0 : Value) (n0 : Int) (h0 : H) : Option (Value × H) :=
  bx h0 56 v0 fun h1 =>
  ld Try.prog h1 3 (nx h0) 0 fun v1 =>
  asI .i64 v1 fun n1 =>
  ifB (eq n1 n0) (
    some ((.bool true), h1)) (
    ld Try.prog h1 3 (nx h0) (off 0 1) fun v2 =>
    asI .i64 v2 fun n2 =>
    some ((.bool (eq n2 n0)), h1))

theorem e73 (rec : Rec) (k : Nat) (v0 : Value) (n0 : Int) (h : H) : bodyT Try.prog E0 SC (XC Try.prog rec k) 73 (Value × H) [.opq v0, .int .i64 n0] h (fun v h => some (v, h)) = f73 rec k v0 n0 h := by kernel_rfl
theorem t73 {k : Nat} {v0 : Value} {n0 : Int} {h h1 : H} {v : Value} (hh : f73 rn k v0 n0 h = some (v, h1)) : rn 73 #[v0, .int .i64 n0] h = some (v, trunc Try.prog h h1 v) :=
  run_of_bodyT (args := [.opq v0, .int .i64 n0]) rfl ((e73 _ _ _ _ _).trans hh)
theorem p73 {k : Nat} {v0 : Value} {n0 : Int} {h h1 : H} {v : Value} (hh : f73 rn k v0 n0 h = some (v, h1)) (hp : plainO v = true) (x : Ext h h1) : rn 73 #[v0, .int .i64 n0] h = some (v, h) := by rw [t73 hh, trunc_pure hp x]
theorem x73 {k : Nat} {v0 : Value} {n0 : Int} {h h1 : H} {v : Value} (hh : f73 rn k v0 n0 h = some (v, h1)) (hp : plainO v = false) : rn 73 #[v0, .int .i64 n0] h = some (v, h1) := by rw [t73 hh, trunc_not hp]

noncomputable def f74 (_rec : Rec) (_k : Nat) (v0 : Value) (n0 : Int) (h0 : H) : Option (Value × H) :=
  bx h0 56 v0 fun h1 =>
  ld Try.prog h1 3 (nx h0) 0 fun v1 =>
  asI .i64 v1 fun n1 =>
  ld Try.prog h1 3 (nx h0) (off 0 1) fun v2 =>
  asI .i64 v2 fun n2 =>
  some ((.int .i64 (sub .i64 (add .i64 n1 n2) n0)), h1)

theorem e74 (rec : Rec) (k : Nat) (v0 : Value) (n0 : Int) (h : H) : bodyT Try.prog E0 SC (XC Try.prog rec k) 74 (Value × H) [.opq v0, .int .i64 n0] h (fun v h => some (v, h)) = f74 rec k v0 n0 h := by kernel_rfl
theorem t74 {k : Nat} {v0 : Value} {n0 : Int} {h h1 : H} {v : Value} (hh : f74 rn k v0 n0 h = some (v, h1)) : rn 74 #[v0, .int .i64 n0] h = some (v, trunc Try.prog h h1 v) :=
  run_of_bodyT (args := [.opq v0, .int .i64 n0]) rfl ((e74 _ _ _ _ _).trans hh)
theorem p74 {k : Nat} {v0 : Value} {n0 : Int} {h h1 : H} {v : Value} (hh : f74 rn k v0 n0 h = some (v, h1)) (hp : plainO v = true) (x : Ext h h1) : rn 74 #[v0, .int .i64 n0] h = some (v, h) := by rw [t74 hh, trunc_pure hp x]
theorem x74 {k : Nat} {v0 : Value} {n0 : Int} {h h1 : H} {v : Value} (hh : f74 rn k v0 n0 h = some (v, h1)) (hp : plainO v = false) : rn 74 #[v0, .int .i64 n0] h = some (v, h1) := by rw [t74 hh, trunc_not hp]

noncomputable def f75 (_rec : Rec) (_k : Nat) (v0 : Value) (h0 : H) : Option (Value × H) :=
  eqv Try.prog 25 v0 (.slice none 0 0) fun q0 =>
  ifB q0 (
    some ((.slice none 0 0), h0)) (
    bls Try.prog h0 25 0 [] fun v1 h1 =>
    app Try.prog h1 25 25 v1 v0 fun v2 h2 =>
    some (v2, h2))

theorem e75 (rec : Rec) (k : Nat) (v0 : Value) (h : H) : bodyT Try.prog E0 SC (XC Try.prog rec k) 75 (Value × H) [.opq v0] h (fun v h => some (v, h)) = f75 rec k v0 h := by kernel_rfl
theorem t75 {k : Nat} {v0 : Value} {h h1 : H} {v : Value} (hh : f75 rn k v0 h = some (v, h1)) : rn 75 #[v0] h = some (v, trunc Try.prog h h1 v) :=
  run_of_bodyT (args := [.opq v0]) rfl ((e75 _ _ _ _).trans hh)
theorem p75 {k : Nat} {v0 : Value} {h h1 : H} {v : Value} (hh : f75 rn k v0 h = some (v, h1)) (hp : plainO v = true) (x : Ext h h1) : rn 75 #[v0] h = some (v, h) := by rw [t75 hh, trunc_pure hp x]
theorem x75 {k : Nat} {v0 : Value} {h h1 : H} {v : Value} (hh : f75 rn k v0 h = some (v, h1)) (hp : plainO v = false) : rn 75 #[v0] h = some (v, h1) := by rw [t75 hh, trunc_not hp]

noncomputable def f76_l1 (rec : Rec) (_k : Nat) (n0 : Int) (h1 : H) (h3 : H) (ws0 : List Value) (h6 : H) : Option (Ex × List Value × H) :=
  asI .i64 (gv ws0 0) fun n1 =>
  ifB (lt n1 n0) (
    asI .i64 (gv ws0 0) fun n2 =>
    calls rec h6 100 [(.int .i64 (sub .i64 n2 1)), gv ws0 0, (pt (nx h3) 0), (pt (nx h1) 0)] fun _ h7 =>
    asI .i64 (gv ws0 0) fun n3 =>
    out .normal [(.int .i64 (add .i64 n3 1))] h7) (
    out (.exit 0) [gv ws0 0] h6)

noncomputable def f76_l2 (rec : Rec) (_k : Nat) (n0 : Int) (h1 : H) (h3 : H) (ws2 : List Value) (h12 : H) : Option (Ex × List Value × H) :=
  asI .i64 (gv ws2 0) fun n4 =>
  ifB (lt n4 n0) (
    calls rec h12 100 [(.int .i64 0), gv ws2 0, (pt (nx h3) 0), (pt (nx h1) 0)] fun _ h13 =>
    asI .i64 (gv ws2 0) fun n5 =>
    out .normal [(.int .i64 (add .i64 n5 1))] h13) (
    out (.exit 2) [gv ws2 0] h12)

noncomputable def f76_l3 (rec : Rec) (_k : Nat) (n0 : Int) (h1 : H) (h3 : H) (ws4 : List Value) (h19 : H) : Option (Ex × List Value × H) :=
  asI .i64 (gv ws4 0) fun n6 =>
  ifB (lt n6 n0) (
    calls rec h19 100 [(.int .i64 0), gv ws4 0, (pt (nx h3) 0), (pt (nx h1) 0)] fun _ h20 =>
    asI .i64 (gv ws4 0) fun n7 =>
    out .normal [(.int .i64 (add .i64 n7 1))] h20) (
    out (.exit 4) [gv ws4 0] h19)

noncomputable def f76 (rec : Rec) (k : Nat) (n0 : Int) (h0 : H) : Option (Value × H) :=
  al h0 31 [(.int .i64 0), (.slice none 0 0)] fun h1 =>
  bld Try.prog 31 [(0, (.int .i64 n0))] fun v0 =>
  al h1 31 [(.int .i64 0), (.slice none 0 0)] fun h2 =>
  st Try.prog h2 31 (nx h1) 0 v0 fun h3 =>
  al h3 3 [(.int .i64 0)] fun h4 =>
  st Try.prog h4 3 (nx h3) 0 (.int .i64 0) fun h5 =>
  ifB (lt n0 4) (
    lp k (f76_l1 rec k n0 h1 h3) [(.int .i64 1)] h5 fun e0 _ h8 =>
    onE e0 0 (
      ifB (eq n0 3) (
        calls rec h8 100 [(.int .i64 0), (.int .i64 1), (pt (nx h3) 0), (pt (nx h1) 0)] fun _ h9 =>
        ld Try.prog h9 31 (nx h1) 0 fun v3 =>
        st Try.prog h9 31 (nx h0) 0 v3 fun h10 =>
        ld Try.prog h10 31 (nx h0) 0 fun v4 =>
        some (v4, h10)) (
        ld Try.prog h8 31 (nx h1) 0 fun v5 =>
        st Try.prog h8 31 (nx h0) 0 v5 fun h11 =>
        ld Try.prog h11 31 (nx h0) 0 fun v6 =>
        some (v6, h11))) (
      none)) (
    lp k (f76_l2 rec k n0 h1 h3) [(.int .i64 4)] h5 fun e1 _ h14 =>
    onE e1 2 (
      calls rec h14 100 [(.int .i64 0), (.int .i64 1), (pt (nx h3) 0), (pt (nx h1) 0)] fun _ h15 =>
      calls rec h15 100 [(.int .i64 2), (.int .i64 3), (pt (nx h3) 0), (pt (nx h1) 0)] fun _ h16 =>
      calls rec h16 100 [(.int .i64 0), (.int .i64 2), (pt (nx h3) 0), (pt (nx h1) 0)] fun _ h17 =>
      calls rec h17 100 [(.int .i64 1), (.int .i64 3), (pt (nx h3) 0), (pt (nx h1) 0)] fun _ h18 =>
      lp k (f76_l3 rec k n0 h1 h3) [(.int .i64 4)] h18 fun e2 _ h21 =>
      onE e2 4 (
        ld Try.prog h21 31 (nx h1) 0 fun v13 =>
        st Try.prog h21 31 (nx h0) 0 v13 fun h22 =>
        ld Try.prog h22 31 (nx h0) 0 fun v14 =>
        some (v14, h22)) (
        none)) (
      none))

theorem e76 (rec : Rec) (k : Nat) (n0 : Int) (h : H) : bodyT Try.prog E0 SC (XC Try.prog rec k) 76 (Value × H) [.int .i64 n0] h (fun v h => some (v, h)) = f76 rec k n0 h := by kernel_rfl
theorem t76 {k : Nat} {n0 : Int} {h h1 : H} {v : Value} (hh : f76 rn k n0 h = some (v, h1)) : rn 76 #[.int .i64 n0] h = some (v, trunc Try.prog h h1 v) :=
  run_of_bodyT (args := [.int .i64 n0]) rfl ((e76 _ _ _ _).trans hh)
theorem p76 {k : Nat} {n0 : Int} {h h1 : H} {v : Value} (hh : f76 rn k n0 h = some (v, h1)) (hp : plainO v = true) (x : Ext h h1) : rn 76 #[.int .i64 n0] h = some (v, h) := by rw [t76 hh, trunc_pure hp x]
theorem x76 {k : Nat} {n0 : Int} {h h1 : H} {v : Value} (hh : f76 rn k n0 h = some (v, h1)) (hp : plainO v = false) : rn 76 #[.int .i64 n0] h = some (v, h1) := by rw [t76 hh, trunc_not hp]

noncomputable def f77_l1 (_rec : Rec) (_k : Nat) (n0 : Int) (ws0 : List Value) (h2 : H) : Option (Ex × List Value × H) :=
  asI .i64 (gv ws0 1) fun n1 =>
  ifB (lt n1 n0) (
    asK (gv ws0 1) fun n2 =>
    nn n2 (
      bls Try.prog h2 25 1 [(0, (.int .i64 (shl .i64 1 n2)))] fun v2 h3 =>
      app Try.prog h3 25 25 (gv ws0 0) v2 fun v3 h4 =>
      asI .i64 (gv ws0 1) fun n3 =>
      out .normal [v3, (.int .i64 (add .i64 n3 1))] h4)) (
    out (.exit 0) [gv ws0 0, gv ws0 1] h2)

noncomputable def f77 (rec : Rec) (k : Nat) (v0 : Value) (h0 : H) : Option (Value × H) :=
  bx h0 31 v0 fun h1 =>
  ld Try.prog h1 3 (nx h0) 0 fun v1 =>
  asI .i64 v1 fun n0 =>
  lp k (f77_l1 rec k n0) [(.slice none 0 0), (.int .i64 0)] h1 fun e0 ws1 h5 =>
  onE e0 0 (
    some (gv ws1 0, h5)) (
    none)

theorem e77 (rec : Rec) (k : Nat) (v0 : Value) (h : H) : bodyT Try.prog E0 SC (XC Try.prog rec k) 77 (Value × H) [.opq v0] h (fun v h => some (v, h)) = f77 rec k v0 h := by kernel_rfl
theorem t77 {k : Nat} {v0 : Value} {h h1 : H} {v : Value} (hh : f77 rn k v0 h = some (v, h1)) : rn 77 #[v0] h = some (v, trunc Try.prog h h1 v) :=
  run_of_bodyT (args := [.opq v0]) rfl ((e77 _ _ _ _).trans hh)
theorem p77 {k : Nat} {v0 : Value} {h h1 : H} {v : Value} (hh : f77 rn k v0 h = some (v, h1)) (hp : plainO v = true) (x : Ext h h1) : rn 77 #[v0] h = some (v, h) := by rw [t77 hh, trunc_pure hp x]
theorem x77 {k : Nat} {v0 : Value} {h h1 : H} {v : Value} (hh : f77 rn k v0 h = some (v, h1)) (hp : plainO v = false) : rn 77 #[v0] h = some (v, h1) := by rw [t77 hh, trunc_not hp]

noncomputable def f78 (_rec : Rec) (_k : Nat) (v0 : Value) (v1 : Value) (h0 : H) : Option (Value × H) :=
  bx h0 56 v1 fun h1 =>
  ld Try.prog h1 3 (nx h0) 0 fun v2 =>
  asI .i64 v2 fun n0 =>
  six v0 n0 1 fun b0 b1 =>
  ld Try.prog h1 3 b0 b1 fun v3 =>
  asI .i64 v3 fun n1 =>
  ld Try.prog h1 3 (nx h0) (off 0 1) fun v4 =>
  asI .i64 v4 fun n2 =>
  six v0 n2 1 fun b2 b3 =>
  ld Try.prog h1 3 b2 b3 fun v5 =>
  asI .i64 v5 fun n3 =>
  ld Try.prog h1 3 (nx h0) 0 fun v6 =>
  asI .i64 v6 fun n4 =>
  six v0 n4 1 fun b4 b5 =>
  ld Try.prog h1 3 b4 b5 fun v7 =>
  asI .i64 v7 fun n5 =>
  ifB (not (eq n5 (or .i64 n1 n3))) (
    ld Try.prog h1 3 (nx h0) 0 fun v8 =>
    asI .i64 v8 fun n6 =>
    ld Try.prog h1 3 (nx h0) (off 0 1) fun v9 =>
    asI .i64 v9 fun n7 =>
    six v0 n6 1 fun b6 b7 =>
    st Try.prog h1 3 b6 b7 (.int .i64 (or .i64 n1 n3)) fun h2 =>
    ck (fre (nx h0) (nx h1) (off 0 1) 1 b6 b7 1) (
      six v0 n7 1 fun b8 b9 =>
      st Try.prog h2 3 b8 b9 (.int .i64 (or .i64 n1 n3)) fun h3 =>
      some ((.bool true), h3))) (
    ld Try.prog h1 3 (nx h0) (off 0 1) fun v10 =>
    asI .i64 v10 fun n8 =>
    six v0 n8 1 fun b10 b11 =>
    ld Try.prog h1 3 b10 b11 fun v11 =>
    asI .i64 v11 fun n9 =>
    ld Try.prog h1 3 (nx h0) 0 fun v12 =>
    asI .i64 v12 fun n10 =>
    ld Try.prog h1 3 (nx h0) (off 0 1) fun v13 =>
    asI .i64 v13 fun n11 =>
    six v0 n10 1 fun b12 b13 =>
    st Try.prog h1 3 b12 b13 (.int .i64 (or .i64 n1 n3)) fun h4 =>
    ck (fre (nx h0) (nx h1) (off 0 1) 1 b12 b13 1) (
      six v0 n11 1 fun b14 b15 =>
      st Try.prog h4 3 b14 b15 (.int .i64 (or .i64 n1 n3)) fun h5 =>
      some ((.bool (not (eq n9 (or .i64 n1 n3)))), h5)))

theorem e78 (rec : Rec) (k : Nat) (v0 : Value) (v1 : Value) (h : H) : bodyT Try.prog E0 SC (XC Try.prog rec k) 78 (Value × H) [.opq v0, .opq v1] h (fun v h => some (v, h)) = f78 rec k v0 v1 h := by kernel_rfl
theorem t78 {k : Nat} {v0 : Value} {v1 : Value} {h h1 : H} {v : Value} (hh : f78 rn k v0 v1 h = some (v, h1)) : rn 78 #[v0, v1] h = some (v, trunc Try.prog h h1 v) :=
  run_of_bodyT (args := [.opq v0, .opq v1]) rfl ((e78 _ _ _ _ _).trans hh)
theorem p78 {k : Nat} {v0 : Value} {v1 : Value} {h h1 : H} {v : Value} (hh : f78 rn k v0 v1 h = some (v, h1)) (hp : plainO v = true) (x : Ext h h1) : rn 78 #[v0, v1] h = some (v, h) := by rw [t78 hh, trunc_pure hp x]
theorem x78 {k : Nat} {v0 : Value} {v1 : Value} {h h1 : H} {v : Value} (hh : f78 rn k v0 v1 h = some (v, h1)) (hp : plainO v = false) : rn 78 #[v0, v1] h = some (v, h1) := by rw [t78 hh, trunc_not hp]

noncomputable def f79_l1 (_rec : Rec) (_k : Nat) (v2 : Value) (n1 : Int) (ws0 : List Value) (h3 : H) : Option (Ex × List Value × H) :=
  asI .i64 (gv ws0 0) fun n2 =>
  ifB (lt n2 n1) (
    asK (gv ws0 0) fun n3 =>
    nn n3 (
      asK (gv ws0 0) fun n4 =>
      six v2 n4 1 fun b0 b1 =>
      st Try.prog h3 3 b0 b1 (.int .i64 (shl .i64 1 n3)) fun h4 =>
      asI .i64 (gv ws0 0) fun n5 =>
      out .normal [(.int .i64 (add .i64 n5 1))] h4)) (
    out (.exit 0) [gv ws0 0] h3)

noncomputable def f79_l2 (_rec : Rec) (_k : Nat) (h0 : H) (v4 : Value) (n6 : Int) (ws2 : List Value) (h7 : H) : Option (Ex × List Value × H) :=
  asI .i64 (gv ws2 1) fun n7 =>
  ifB (lt n7 n6) (
    asK (gv ws2 1) fun n8 =>
    six v4 n8 3 fun b2 b3 =>
    ld Try.prog h7 59 b2 b3 fun v5 =>
    al h7 59 [(.int .i64 0), (.int .i64 0), (.int .i64 0)] fun h8 =>
    st Try.prog h8 59 (nx h7) 0 v5 fun h9 =>
    asI .i64 (gv ws2 1) fun n9 =>
    ifB (eq n9 0) (
      bls Try.prog h9 25 0 [] fun v6 h10 =>
      len (gv ws2 0) fun n10 =>
      six (gv ws2 0) (sub .i64 n10 1) 1 fun b4 b5 =>
      ld Try.prog h10 25 b4 b5 fun v7 =>
      app Try.prog h10 25 25 v6 v7 fun v8 h11 =>
      bls Try.prog h11 58 1 [(0, v8)] fun v9 h12 =>
      app Try.prog h12 58 58 (gv ws2 0) v9 fun v10 h13 =>
      len v10 fun n11 =>
      six v10 (sub .i64 n11 1) 1 fun b6 b7 =>
      ld Try.prog h13 25 b6 b7 fun v11 =>
      ld Try.prog h13 3 (nx h7) 0 fun v12 =>
      asI .i64 v12 fun n12 =>
      six v11 n12 1 fun b8 b9 =>
      ld Try.prog h13 3 b8 b9 fun v13 =>
      asI .i64 v13 fun n13 =>
      ld Try.prog h13 3 (nx h7) (off 0 1) fun v14 =>
      asI .i64 v14 fun n14 =>
      six v11 n14 1 fun b10 b11 =>
      ld Try.prog h13 3 b10 b11 fun v15 =>
      asI .i64 v15 fun n15 =>
      ld Try.prog h13 3 (nx h7) 0 fun v16 =>
      asI .i64 v16 fun n16 =>
      ld Try.prog h13 3 (nx h7) (off 0 1) fun v17 =>
      asI .i64 v17 fun n17 =>
      six v11 n16 1 fun b12 b13 =>
      st Try.prog h13 3 b12 b13 (.int .i64 (or .i64 n13 n15)) fun h14 =>
      ck (fre (nx h7) (nx h13) (off 0 1) 1 b12 b13 1) (
        six v11 n17 1 fun b14 b15 =>
        st Try.prog h14 3 b14 b15 (.int .i64 (or .i64 n13 n15)) fun h15 =>
        asI .i64 (gv ws2 1) fun n18 =>
        out .normal [v10, (.int .i64 (add .i64 n18 1))] h15)) (
      ld Try.prog h9 22 (nx h0) (off 0 1) fun v18 =>
      asI .i64 (gv ws2 1) fun n19 =>
      six v18 (sub .i64 n19 1) 3 fun b16 b17 =>
      ld Try.prog h9 3 b16 (off b17 2) fun v19 =>
      asI .i64 v19 fun n20 =>
      ld Try.prog h9 3 (nx h7) (off 0 2) fun v20 =>
      asI .i64 v20 fun n21 =>
      ifB (lt n20 n21) (
        bls Try.prog h9 25 0 [] fun v21 h16 =>
        len (gv ws2 0) fun n22 =>
        six (gv ws2 0) (sub .i64 n22 1) 1 fun b18 b19 =>
        ld Try.prog h16 25 b18 b19 fun v22 =>
        app Try.prog h16 25 25 v21 v22 fun v23 h17 =>
        bls Try.prog h17 58 1 [(0, v23)] fun v24 h18 =>
        app Try.prog h18 58 58 (gv ws2 0) v24 fun v25 h19 =>
        len v25 fun n23 =>
        six v25 (sub .i64 n23 1) 1 fun b20 b21 =>
        ld Try.prog h19 25 b20 b21 fun v26 =>
        ld Try.prog h19 3 (nx h7) 0 fun v27 =>
        asI .i64 v27 fun n24 =>
        six v26 n24 1 fun b22 b23 =>
        ld Try.prog h19 3 b22 b23 fun v28 =>
        asI .i64 v28 fun n25 =>
        ld Try.prog h19 3 (nx h7) (off 0 1) fun v29 =>
        asI .i64 v29 fun n26 =>
        six v26 n26 1 fun b24 b25 =>
        ld Try.prog h19 3 b24 b25 fun v30 =>
        asI .i64 v30 fun n27 =>
        ld Try.prog h19 3 (nx h7) 0 fun v31 =>
        asI .i64 v31 fun n28 =>
        ld Try.prog h19 3 (nx h7) (off 0 1) fun v32 =>
        asI .i64 v32 fun n29 =>
        six v26 n28 1 fun b26 b27 =>
        st Try.prog h19 3 b26 b27 (.int .i64 (or .i64 n25 n27)) fun h20 =>
        ck (fre (nx h7) (nx h19) (off 0 1) 1 b26 b27 1) (
          six v26 n29 1 fun b28 b29 =>
          st Try.prog h20 3 b28 b29 (.int .i64 (or .i64 n25 n27)) fun h21 =>
          asI .i64 (gv ws2 1) fun n30 =>
          out .normal [v25, (.int .i64 (add .i64 n30 1))] h21)) (
        len (gv ws2 0) fun n31 =>
        six (gv ws2 0) (sub .i64 n31 1) 1 fun b30 b31 =>
        ld Try.prog h9 25 b30 b31 fun v33 =>
        ld Try.prog h9 3 (nx h7) 0 fun v34 =>
        asI .i64 v34 fun n32 =>
        six v33 n32 1 fun b32 b33 =>
        ld Try.prog h9 3 b32 b33 fun v35 =>
        asI .i64 v35 fun n33 =>
        ld Try.prog h9 3 (nx h7) (off 0 1) fun v36 =>
        asI .i64 v36 fun n34 =>
        six v33 n34 1 fun b34 b35 =>
        ld Try.prog h9 3 b34 b35 fun v37 =>
        asI .i64 v37 fun n35 =>
        ld Try.prog h9 3 (nx h7) 0 fun v38 =>
        asI .i64 v38 fun n36 =>
        ld Try.prog h9 3 (nx h7) (off 0 1) fun v39 =>
        asI .i64 v39 fun n37 =>
        six v33 n36 1 fun b36 b37 =>
        st Try.prog h9 3 b36 b37 (.int .i64 (or .i64 n33 n35)) fun h22 =>
        ck (fre (nx h7) (nx h9) (off 0 1) 1 b36 b37 1) (
          six v33 n37 1 fun b38 b39 =>
          st Try.prog h22 3 b38 b39 (.int .i64 (or .i64 n33 n35)) fun h23 =>
          asI .i64 (gv ws2 1) fun n38 =>
          out .normal [gv ws2 0, (.int .i64 (add .i64 n38 1))] h23)))) (
    out (.exit 2) [gv ws2 0, gv ws2 1] h7)

noncomputable def f79 (rec : Rec) (k : Nat) (v0 : Value) (h0 : H) : Option (Value × H) :=
  bx h0 24 v0 fun h1 =>
  ld Try.prog h1 3 (nx h0) 0 fun v1 =>
  asI .i64 v1 fun n0 =>
  mks Try.prog h1 25 n0 n0 fun v2 h2 =>
  len v2 fun n1 =>
  lp k (f79_l1 rec k v2 n1) [(.int .i64 0)] h2 fun e0 _ h5 =>
  onE e0 0 (
    bls Try.prog h5 58 1 [(0, v2)] fun v3 h6 =>
    ld Try.prog h6 22 (nx h0) (off 0 1) fun v4 =>
    len v4 fun n6 =>
    lp k (f79_l2 rec k h0 v4 n6) [v3, (.int .i64 0)] h6 fun e1 ws3 h24 =>
    onE e1 2 (
      some (gv ws3 0, h24)) (
      none)) (
    none)

theorem e79 (rec : Rec) (k : Nat) (v0 : Value) (h : H) : bodyT Try.prog E0 SC (XC Try.prog rec k) 79 (Value × H) [.opq v0] h (fun v h => some (v, h)) = f79 rec k v0 h := by kernel_rfl
theorem t79 {k : Nat} {v0 : Value} {h h1 : H} {v : Value} (hh : f79 rn k v0 h = some (v, h1)) : rn 79 #[v0] h = some (v, trunc Try.prog h h1 v) :=
  run_of_bodyT (args := [.opq v0]) rfl ((e79 _ _ _ _).trans hh)
theorem p79 {k : Nat} {v0 : Value} {h h1 : H} {v : Value} (hh : f79 rn k v0 h = some (v, h1)) (hp : plainO v = true) (x : Ext h h1) : rn 79 #[v0] h = some (v, h) := by rw [t79 hh, trunc_pure hp x]
theorem x79 {k : Nat} {v0 : Value} {h h1 : H} {v : Value} (hh : f79 rn k v0 h = some (v, h1)) (hp : plainO v = false) : rn 79 #[v0] h = some (v, h1) := by rw [t79 hh, trunc_not hp]

noncomputable def f89 (rec : Rec) (_k : Nat) (v0 : Value) (v1 : Value) (h0 : H) : Option (Value × H) :=
  calls rec h0 105 [v0, v1] fun v2 h1 =>
  asI .i64 v2 fun n0 =>
  some ((.bool (le 0 n0)), h1)

theorem e89 (rec : Rec) (k : Nat) (v0 : Value) (v1 : Value) (h : H) : bodyT Try.prog E0 SC (XC Try.prog rec k) 89 (Value × H) [.opq v0, .opq v1] h (fun v h => some (v, h)) = f89 rec k v0 v1 h := by kernel_rfl
theorem t89 {k : Nat} {v0 : Value} {v1 : Value} {h h1 : H} {v : Value} (hh : f89 rn k v0 v1 h = some (v, h1)) : rn 89 #[v0, v1] h = some (v, trunc Try.prog h h1 v) :=
  run_of_bodyT (args := [.opq v0, .opq v1]) rfl ((e89 _ _ _ _ _).trans hh)
theorem p89 {k : Nat} {v0 : Value} {v1 : Value} {h h1 : H} {v : Value} (hh : f89 rn k v0 v1 h = some (v, h1)) (hp : plainO v = true) (x : Ext h h1) : rn 89 #[v0, v1] h = some (v, h) := by rw [t89 hh, trunc_pure hp x]
theorem x89 {k : Nat} {v0 : Value} {v1 : Value} {h h1 : H} {v : Value} (hh : f89 rn k v0 v1 h = some (v, h1)) (hp : plainO v = false) : rn 89 #[v0, v1] h = some (v, h1) := by rw [t89 hh, trunc_not hp]

noncomputable def f99 (rec : Rec) (_k : Nat) (v0 : Value) (v1 : Value) (h0 : H) : Option (Value × H) :=
  bx h0 56 v0 fun h1 =>
  ld Try.prog h1 3 (nx h0) (off 0 2) fun v2 =>
  asI .i64 v2 fun n0 =>
  asP v1 fun b0 b1 =>
  ld Try.prog h1 3 b0 (off b1 2) fun v3 =>
  asI .i64 v3 fun n1 =>
  ifB (eq n0 n1) (
    ld Try.prog h1 56 (nx h0) 0 fun v4 =>
    asP v1 fun b2 b3 =>
    ld Try.prog h1 3 b2 b3 fun v5 =>
    asI .i64 v5 fun n2 =>
    calls rec h1 73 [v4, (.int .i64 n2)] fun v6 h2 =>
    asB v6 fun q0 =>
    ifB q0 (
      some ((.bool true), h2)) (
      ld Try.prog h2 56 (nx h0) 0 fun v7 =>
      asP v1 fun b4 b5 =>
      ld Try.prog h2 3 b4 (off b5 1) fun v8 =>
      asI .i64 v8 fun n3 =>
      calls rec h2 73 [v7, (.int .i64 n3)] fun v9 h3 =>
      asB v9 fun q1 =>
      some ((.bool q1), h3))) (
    some ((.bool false), h1))

theorem e99 (rec : Rec) (k : Nat) (v0 : Value) (v1 : Value) (h : H) : bodyT Try.prog E0 SC (XC Try.prog rec k) 99 (Value × H) [.opq v0, .opq v1] h (fun v h => some (v, h)) = f99 rec k v0 v1 h := by kernel_rfl
theorem t99 {k : Nat} {v0 : Value} {v1 : Value} {h h1 : H} {v : Value} (hh : f99 rn k v0 v1 h = some (v, h1)) : rn 99 #[v0, v1] h = some (v, trunc Try.prog h h1 v) :=
  run_of_bodyT (args := [.opq v0, .opq v1]) rfl ((e99 _ _ _ _ _).trans hh)
theorem p99 {k : Nat} {v0 : Value} {v1 : Value} {h h1 : H} {v : Value} (hh : f99 rn k v0 v1 h = some (v, h1)) (hp : plainO v = true) (x : Ext h h1) : rn 99 #[v0, v1] h = some (v, h) := by rw [t99 hh, trunc_pure hp x]
theorem x99 {k : Nat} {v0 : Value} {v1 : Value} {h h1 : H} {v : Value} (hh : f99 rn k v0 v1 h = some (v, h1)) (hp : plainO v = false) : rn 99 #[v0, v1] h = some (v, h1) := by rw [t99 hh, trunc_not hp]

noncomputable def f100 (_rec : Rec) (_k : Nat) (n0 : Int) (n1 : Int) (v0 : Value) (v1 : Value) (h0 : H) : Option (Value × H) :=
  asP v0 fun b0 b1 =>
  ld Try.prog h0 3 b0 b1 fun v2 =>
  asI .i64 v2 fun n2 =>
  asP v0 fun b2 b3 =>
  st Try.prog h0 3 b2 b3 (.int .i64 (add .i64 n2 1)) fun h1 =>
  asP v1 fun b4 b5 =>
  ld Try.prog h1 29 b4 (off b5 1) fun v3 =>
  asP v0 fun b6 b7 =>
  ld Try.prog h1 3 b6 b7 fun v4 =>
  asI .i64 v4 fun n3 =>
  bld Try.prog 56 [(0, (.int .i64 n0)), (1, (.int .i64 n1)), (2, (.int .i64 n3))] fun v5 =>
  bls Try.prog h1 29 1 [(0, v5)] fun v6 h2 =>
  app Try.prog h2 29 29 v3 v6 fun v7 h3 =>
  asP v1 fun b8 b9 =>
  st Try.prog h3 29 b8 (off b9 1) v7 fun h4 =>
  some (undef, h4)

theorem e100 (rec : Rec) (k : Nat) (n0 : Int) (n1 : Int) (v0 : Value) (v1 : Value) (h : H) : bodyT Try.prog E0 SC (XC Try.prog rec k) 100 (Value × H) [.int .i64 n0, .int .i64 n1, .opq v0, .opq v1] h (fun v h => some (v, h)) = f100 rec k n0 n1 v0 v1 h := by kernel_rfl
theorem t100 {k : Nat} {n0 : Int} {n1 : Int} {v0 : Value} {v1 : Value} {h h1 : H} {v : Value} (hh : f100 rn k n0 n1 v0 v1 h = some (v, h1)) : rn 100 #[.int .i64 n0, .int .i64 n1, v0, v1] h = some (v, trunc Try.prog h h1 v) :=
  run_of_bodyT (args := [.int .i64 n0, .int .i64 n1, .opq v0, .opq v1]) rfl ((e100 _ _ _ _ _ _ _).trans hh)
theorem p100 {k : Nat} {n0 : Int} {n1 : Int} {v0 : Value} {v1 : Value} {h h1 : H} {v : Value} (hh : f100 rn k n0 n1 v0 v1 h = some (v, h1)) (hp : plainO v = true) (x : Ext h h1) : rn 100 #[.int .i64 n0, .int .i64 n1, v0, v1] h = some (v, h) := by rw [t100 hh, trunc_pure hp x]
theorem x100 {k : Nat} {n0 : Int} {n1 : Int} {v0 : Value} {v1 : Value} {h h1 : H} {v : Value} (hh : f100 rn k n0 n1 v0 v1 h = some (v, h1)) (hp : plainO v = false) : rn 100 #[.int .i64 n0, .int .i64 n1, v0, v1] h = some (v, h1) := by rw [t100 hh, trunc_not hp]

noncomputable def f105_l1 (rec : Rec) (_k : Nat) (v0 : Value) (v1 : Value) (n0 : Int) (ws0 : List Value) (h1 : H) : Option (Ex × List Value × H) :=
  asI .i64 (gv ws0 1) fun n1 =>
  ifB (lt n1 n0) (
    asK (gv ws0 1) fun n2 =>
    six v0 n2 3 fun b0 b1 =>
    ld Try.prog h1 56 b0 b1 fun v2 =>
    callsV rec h1 v1 [v2] fun v3 h2 =>
    asB v3 fun q0 =>
    ifB q0 (
      out .ret [gv ws0 1, gv ws0 1] h2) (
      asI .i64 (gv ws0 1) fun n3 =>
      out .normal [gv ws0 0, (.int .i64 (add .i64 n3 1))] h2)) (
    out (.exit 0) [gv ws0 0, gv ws0 1] h1)

noncomputable def f105 (rec : Rec) (k : Nat) (v0 : Value) (v1 : Value) (h0 : H) : Option (Value × H) :=
  len v0 fun n0 =>
  lp k (f105_l1 rec k v0 v1 n0) [(.int .i64 0), (.int .i64 0)] h0 fun e0 ws1 h3 =>
  onE e0 0 (
    some ((.int .i64 (-1)), h3)) (
    onR e0 (
      some (gv ws1 0, h3)))

theorem e105 (rec : Rec) (k : Nat) (v0 : Value) (v1 : Value) (h : H) : bodyT Try.prog E0 SC (XC Try.prog rec k) 105 (Value × H) [.opq v0, .opq v1] h (fun v h => some (v, h)) = f105 rec k v0 v1 h := by kernel_rfl
theorem t105 {k : Nat} {v0 : Value} {v1 : Value} {h h1 : H} {v : Value} (hh : f105 rn k v0 v1 h = some (v, h1)) : rn 105 #[v0, v1] h = some (v, trunc Try.prog h h1 v) :=
  run_of_bodyT (args := [.opq v0, .opq v1]) rfl ((e105 _ _ _ _ _).trans hh)
theorem p105 {k : Nat} {v0 : Value} {v1 : Value} {h h1 : H} {v : Value} (hh : f105 rn k v0 v1 h = some (v, h1)) (hp : plainO v = true) (x : Ext h h1) : rn 105 #[v0, v1] h = some (v, h) := by rw [t105 hh, trunc_pure hp x]
theorem x105 {k : Nat} {v0 : Value} {v1 : Value} {h h1 : H} {v : Value} (hh : f105 rn k v0 v1 h = some (v, h1)) (hp : plainO v = false) : rn 105 #[v0, v1] h = some (v, h1) := by rw [t105 hh, trunc_not hp]

end Go.AM
