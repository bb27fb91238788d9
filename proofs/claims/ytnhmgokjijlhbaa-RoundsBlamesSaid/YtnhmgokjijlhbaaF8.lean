/- The staged forms of functions 71, 72, 73, 74, 80, 92, 93, 94, 99, 10, 36, 37, 38, 39, 40, and what calls of these answer. -/
import Derived.Test.YtnhmgokjijlhbaaSx
namespace Go.AM
open Go.Proofs

noncomputable def f71 (rec : Rec) (_k : Nat) (v0 : Value) (h0 : H) : Option (Value × H) :=
  bx h0 52 v0 fun h1 =>
  ld Try.prog h1 3 (nx h0) 0 fun v1 =>
  asI .i64 v1 fun n0 =>
  ifB (lt n0 1) (
    some ((.bool false), h1)) (
    ld Try.prog h1 3 (nx h0) 0 fun v2 =>
    asI .i64 v2 fun n1 =>
    ifB (lt 12 n1) (
      some ((.bool false), h1)) (
      ld Try.prog h1 3 (nx h0) (off 0 1) fun v3 =>
      asI .i64 v3 fun n2 =>
      ifB (lt n2 1) (
        some ((.bool false), h1)) (
        ld Try.prog h1 3 (nx h0) (off 0 1) fun v4 =>
        asI .i64 v4 fun n3 =>
        ifB (lt 6 n3) (
          some ((.bool false), h1)) (
          ld Try.prog h1 50 (nx h0) (off 0 2) fun v5 =>
          len v5 fun n4 =>
          ifB (lt 12 n4) (
            some ((.bool false), h1)) (
            ld Try.prog h1 50 (nx h0) (off 0 2) fun v6 =>
            calls rec h1 80 [v6, (.func (.func 92) #[] #[(pt (nx h0) 0)])] fun v7 h2 =>
            asB v7 fun q0 =>
            some ((.bool (not q0)), h2))))))

theorem e71 (rec : Rec) (k : Nat) (v0 : Value) (h : H) : bodyT Try.prog E0 SC (XC Try.prog rec k) 71 (Value × H) [.opq v0] h (fun v h => some (v, h)) = f71 rec k v0 h := by kernel_rfl
theorem t71 {k : Nat} {v0 : Value} {h h1 : H} {v : Value} (hh : f71 rn k v0 h = some (v, h1)) : rn 71 #[v0] h = some (v, trunc Try.prog h h1 v) :=
  run_of_bodyT (args := [.opq v0]) rfl ((e71 _ _ _ _).trans hh)
theorem p71 {k : Nat} {v0 : Value} {h h1 : H} {v : Value} (hh : f71 rn k v0 h = some (v, h1)) (hp : plainO v = true) (x : Ext h h1) : rn 71 #[v0] h = some (v, h) := by rw [t71 hh, trunc_pure hp x]
theorem x71 {k : Nat} {v0 : Value} {h h1 : H} {v : Value} (hh : f71 rn k v0 h = some (v, h1)) (hp : plainO v = false) : rn 71 #[v0] h = some (v, h1) := by rw [t71 hh, trunc_not hp]

noncomputable def f72_l1 (_rec : Rec) (_k : Nat) (v1 : Value) (h0 : H) (h1 : H) (n2 : Int) (ws0 : List Value) (h3 : H) : Option (Ex × List Value × H) :=
  asI .i64 (gv ws0 3) fun n3 =>
  ifB (lt n3 n2) (
    asK (gv ws0 3) fun n4 =>
    six v1 n4 1 fun b0 b1 =>
    ld Try.prog h3 3 b0 b1 fun v2 =>
    asI .i64 v2 fun n5 =>
    ifB (lt (sub .i64 (imax n5 (sub .i64 0 n5)) 1) 0) (
      out .ret [(.slice none 0 0), (.bool false), gv ws0 2, gv ws0 3] h3) (
      ld Try.prog h3 50 (nx h0) (off 0 2) fun v3 =>
      len v3 fun n6 =>
      ifB (le n6 (sub .i64 (imax n5 (sub .i64 0 n5)) 1)) (
        out .ret [(.slice none 0 0), (.bool false), gv ws0 2, gv ws0 3] h3) (
        lok Try.prog h3 107 (.map (some (nx h1))) (.int .i64 (sub .i64 (imax n5 (sub .i64 0 n5)) 1)) false fun v4 =>
        asB v4 fun q0 =>
        ifB q0 (
          out .ret [(.slice none 0 0), (.bool false), gv ws0 2, gv ws0 3] h3) (
          mup Try.prog h3 107 (.map (some (nx h1))) (.int .i64 (sub .i64 (imax n5 (sub .i64 0 n5)) 1)) (.bool true) fun h4 =>
          ld Try.prog h4 50 (nx h0) (off 0 2) fun v5 =>
          six v5 (sub .i64 (imax n5 (sub .i64 0 n5)) 1) 4 fun b2 b3 =>
          ld Try.prog h4 67 b2 b3 fun v6 =>
          bld Try.prog 88 [(0, v6), (1, (.bool (lt n5 0)))] fun v7 =>
          bls Try.prog h4 84 1 [(0, v7)] fun v8 h5 =>
          app Try.prog h5 84 84 (gv ws0 2) v8 fun v9 h6 =>
          asI .i64 (gv ws0 3) fun n7 =>
          out .normal [gv ws0 0, gv ws0 1, v9, (.int .i64 (add .i64 n7 1))] h6)))) (
    out (.exit 0) [gv ws0 0, gv ws0 1, gv ws0 2, gv ws0 3] h3)

noncomputable def f72_l2 (rec : Rec) (_k : Nat) (ws1 : List Value) (n8 : Int) (ws2 : List Value) (h8 : H) : Option (Ex × List Value × H) :=
  asI .i64 (gv ws2 2) fun n9 =>
  ifB (lt n9 n8) (
    asK (gv ws2 2) fun n10 =>
    six (gv ws1 2) n10 5 fun b4 b5 =>
    ld Try.prog h8 88 b4 b5 fun v10 =>
    al h8 88 [(.int .i64 0), (.int .i64 0), (.int .i64 0), (.int .i64 0), (.bool false)] fun h9 =>
    st Try.prog h9 88 (nx h8) 0 v10 fun h10 =>
    ld Try.prog h10 88 (nx h8) 0 fun v11 =>
    calls rec h10 93 [v11] fun v12 h11 =>
    asI .i64 v12 fun n11 =>
    asI .i64 (gv ws2 2) fun n12 =>
    len (gv ws1 2) fun n13 =>
    nz n13 (
      six (gv ws1 2) (rem .i64 (add .i64 n12 1) n13) 5 fun b6 b7 =>
      ld Try.prog h11 88 b6 b7 fun v13 =>
      ck (freq b6 (nx h10) (same h11 h10)) (
        calls rec h11 94 [v13] fun v14 h12 =>
        asI .i64 v14 fun n14 =>
        ifB (not (eq n11 n14)) (
          out .ret [(.slice none 0 0), (.bool false), gv ws2 2] h12) (
          asI .i64 (gv ws2 2) fun n15 =>
          out .normal [gv ws2 0, gv ws2 1, (.int .i64 (add .i64 n15 1))] h12)))) (
    out (.exit 2) [gv ws2 0, gv ws2 1, gv ws2 2] h8)

noncomputable def f72 (rec : Rec) (k : Nat) (v0 : Value) (v1 : Value) (h0 : H) : Option (Value × H) :=
  bx h0 52 v0 fun h1 =>
  len v1 fun n0 =>
  ifB (lt n0 1) (
    some ((.tuple #[(.slice none 0 0), (.bool false)]), h1)) (
    len v1 fun n1 =>
    ifB (lt 12 n1) (
      some ((.tuple #[(.slice none 0 0), (.bool false)]), h1)) (
      mkm h1 fun h2 =>
      len v1 fun n2 =>
      lp k (f72_l1 rec k v1 h0 h1 n2) [(.slice none 0 0), (.bool false), (.slice none 0 0), (.int .i64 0)] h2 fun e0 ws1 h7 =>
      onE e0 0 (
        len (gv ws1 2) fun n8 =>
        lp k (f72_l2 rec k ws1 n8) [gv ws1 0, gv ws1 1, (.int .i64 0)] h7 fun e1 ws3 h13 =>
        onE e1 2 (
          some ((.tuple #[gv ws1 2, (.bool true)]), h13)) (
          onR e1 (
            some ((.tuple #[gv ws3 0, gv ws3 1]), h13)))) (
        onR e0 (
          some ((.tuple #[gv ws1 0, gv ws1 1]), h7)))))

theorem e72 (rec : Rec) (k : Nat) (v0 : Value) (v1 : Value) (h : H) : bodyT Try.prog E0 SC (XC Try.prog rec k) 72 (Value × H) [.opq v0, .opq v1] h (fun v h => some (v, h)) = f72 rec k v0 v1 h := by kernel_rfl
theorem t72 {k : Nat} {v0 : Value} {v1 : Value} {h h1 : H} {v : Value} (hh : f72 rn k v0 v1 h = some (v, h1)) : rn 72 #[v0, v1] h = some (v, trunc Try.prog h h1 v) :=
  run_of_bodyT (args := [.opq v0, .opq v1]) rfl ((e72 _ _ _ _ _).trans hh)
theorem p72 {k : Nat} {v0 : Value} {v1 : Value} {h h1 : H} {v : Value} (hh : f72 rn k v0 v1 h = some (v, h1)) (hp : plainO v = true) (x : Ext h h1) : rn 72 #[v0, v1] h = some (v, h) := by rw [t72 hh, trunc_pure hp x]
theorem x72 {k : Nat} {v0 : Value} {v1 : Value} {h h1 : H} {v : Value} (hh : f72 rn k v0 v1 h = some (v, h1)) (hp : plainO v = false) : rn 72 #[v0, v1] h = some (v, h1) := by rw [t72 hh, trunc_not hp]

noncomputable def f73 (_rec : Rec) (_k : Nat) (n0 : Int) (n1 : Int) (h0 : H) : Option (Value × H) :=
  nz n1 (
    nz n1 (
      nz n1 (
        some ((.int .i64 (quo .i64 (sub .i64 n0 (rem .i64 (add .i64 (rem .i64 n0 n1) n1) n1)) n1)), h0))))

theorem e73 (rec : Rec) (k : Nat) (n0 : Int) (n1 : Int) (h : H) : bodyT Try.prog E0 SC (XC Try.prog rec k) 73 (Value × H) [.int .i64 n0, .int .i64 n1] h (fun v h => some (v, h)) = f73 rec k n0 n1 h := by kernel_rfl
theorem t73 {k : Nat} {n0 : Int} {n1 : Int} {h h1 : H} {v : Value} (hh : f73 rn k n0 n1 h = some (v, h1)) : rn 73 #[.int .i64 n0, .int .i64 n1] h = some (v, trunc Try.prog h h1 v) :=
  run_of_bodyT (args := [.int .i64 n0, .int .i64 n1]) rfl ((e73 _ _ _ _ _).trans hh)
theorem p73 {k : Nat} {n0 : Int} {n1 : Int} {h h1 : H} {v : Value} (hh : f73 rn k n0 n1 h = some (v, h1)) (hp : plainO v = true) (x : Ext h h1) : rn 73 #[.int .i64 n0, .int .i64 n1] h = some (v, h) := by rw [t73 hh, trunc_pure hp x]
theorem x73 {k : Nat} {n0 : Int} {n1 : Int} {h h1 : H} {v : Value} (hh : f73 rn k n0 n1 h = some (v, h1)) (hp : plainO v = false) : rn 73 #[.int .i64 n0, .int .i64 n1] h = some (v, h1) := by rw [t73 hh, trunc_not hp]

noncomputable def f74 (_rec : Rec) (_k : Nat) (v0 : Value) (n0 : Int) (h0 : H) : Option (Value × H) :=
  bx h0 47 v0 fun h1 =>
  ifB (eq n0 0) (
    some ((.tuple #[(.int .i64 (-1)), (.int .i64 (-1))]), h1)) (
    ifB (lt (sub .i64 (imax n0 (sub .i64 0 n0)) 1) 0) (
      some ((.tuple #[(.int .i64 (-1)), (.int .i64 (-1))]), h1)) (
      ld Try.prog h1 45 (nx h0) (off 0 2) fun v1 =>
      len v1 fun n1 =>
      ifB (le n1 (sub .i64 (imax n0 (sub .i64 0 n0)) 1)) (
        some ((.tuple #[(.int .i64 (-1)), (.int .i64 (-1))]), h1)) (
        ifB (lt 0 n0) (
          ld Try.prog h1 45 (nx h0) (off 0 2) fun v2 =>
          six v2 (sub .i64 (imax n0 (sub .i64 0 n0)) 1) 4 fun b0 b1 =>
          ld Try.prog h1 3 b0 b1 fun v3 =>
          asI .i64 v3 fun n2 =>
          ld Try.prog h1 45 (nx h0) (off 0 2) fun v4 =>
          six v4 (sub .i64 (imax n0 (sub .i64 0 n0)) 1) 4 fun b2 b3 =>
          ld Try.prog h1 3 b2 (off b3 1) fun v5 =>
          asI .i64 v5 fun n3 =>
          some ((.tuple #[(.int .i64 n2), (.int .i64 n3)]), h1)) (
          ld Try.prog h1 45 (nx h0) (off 0 2) fun v6 =>
          six v6 (sub .i64 (imax n0 (sub .i64 0 n0)) 1) 4 fun b4 b5 =>
          ld Try.prog h1 3 b4 (off b5 1) fun v7 =>
          asI .i64 v7 fun n4 =>
          ld Try.prog h1 45 (nx h0) (off 0 2) fun v8 =>
          six v8 (sub .i64 (imax n0 (sub .i64 0 n0)) 1) 4 fun b6 b7 =>
          ld Try.prog h1 3 b6 b7 fun v9 =>
          asI .i64 v9 fun n5 =>
          some ((.tuple #[(.int .i64 n4), (.int .i64 n5)]), h1)))))

theorem e74 (rec : Rec) (k : Nat) (v0 : Value) (n0 : Int) (h : H) : bodyT Try.prog E0 SC (XC Try.prog rec k) 74 (Value × H) [.opq v0, .int .i64 n0] h (fun v h => some (v, h)) = f74 rec k v0 n0 h := by kernel_rfl
theorem t74 {k : Nat} {v0 : Value} {n0 : Int} {h h1 : H} {v : Value} (hh : f74 rn k v0 n0 h = some (v, h1)) : rn 74 #[v0, .int .i64 n0] h = some (v, trunc Try.prog h h1 v) :=
  run_of_bodyT (args := [.opq v0, .int .i64 n0]) rfl ((e74 _ _ _ _ _).trans hh)
theorem p74 {k : Nat} {v0 : Value} {n0 : Int} {h h1 : H} {v : Value} (hh : f74 rn k v0 n0 h = some (v, h1)) (hp : plainO v = true) (x : Ext h h1) : rn 74 #[v0, .int .i64 n0] h = some (v, h) := by rw [t74 hh, trunc_pure hp x]
theorem x74 {k : Nat} {v0 : Value} {n0 : Int} {h h1 : H} {v : Value} (hh : f74 rn k v0 n0 h = some (v, h1)) (hp : plainO v = false) : rn 74 #[v0, .int .i64 n0] h = some (v, h1) := by rw [t74 hh, trunc_not hp]

noncomputable def f80 (rec : Rec) (_k : Nat) (v0 : Value) (v1 : Value) (h0 : H) : Option (Value × H) :=
  calls rec h0 99 [v0, v1] fun v2 h1 =>
  asI .i64 v2 fun n0 =>
  some ((.bool (le 0 n0)), h1)

theorem e80 (rec : Rec) (k : Nat) (v0 : Value) (v1 : Value) (h : H) : bodyT Try.prog E0 SC (XC Try.prog rec k) 80 (Value × H) [.opq v0, .opq v1] h (fun v h => some (v, h)) = f80 rec k v0 v1 h := by kernel_rfl
theorem t80 {k : Nat} {v0 : Value} {v1 : Value} {h h1 : H} {v : Value} (hh : f80 rn k v0 v1 h = some (v, h1)) : rn 80 #[v0, v1] h = some (v, trunc Try.prog h h1 v) :=
  run_of_bodyT (args := [.opq v0, .opq v1]) rfl ((e80 _ _ _ _ _).trans hh)
theorem p80 {k : Nat} {v0 : Value} {v1 : Value} {h h1 : H} {v : Value} (hh : f80 rn k v0 v1 h = some (v, h1)) (hp : plainO v = true) (x : Ext h h1) : rn 80 #[v0, v1] h = some (v, h) := by rw [t80 hh, trunc_pure hp x]
theorem x80 {k : Nat} {v0 : Value} {v1 : Value} {h h1 : H} {v : Value} (hh : f80 rn k v0 v1 h = some (v, h1)) (hp : plainO v = false) : rn 80 #[v0, v1] h = some (v, h1) := by rw [t80 hh, trunc_not hp]

noncomputable def f92 (_rec : Rec) (_k : Nat) (v0 : Value) (v1 : Value) (h0 : H) : Option (Value × H) :=
  bx h0 67 v0 fun h1 =>
  ld Try.prog h1 3 (nx h0) 0 fun v2 =>
  asI .i64 v2 fun n0 =>
  ld Try.prog h1 3 (nx h0) (off 0 1) fun v3 =>
  asI .i64 v3 fun n1 =>
  ifB (lt (imin n0 n1) 0) (
    some ((.bool true), h1)) (
    ld Try.prog h1 3 (nx h0) 0 fun v4 =>
    asI .i64 v4 fun n2 =>
    ld Try.prog h1 3 (nx h0) (off 0 1) fun v5 =>
    asI .i64 v5 fun n3 =>
    asP v1 fun b0 b1 =>
    ld Try.prog h1 3 b0 (off b1 1) fun v6 =>
    asI .i64 v6 fun n4 =>
    ifB (le n4 (imax n2 n3)) (
      some ((.bool true), h1)) (
      ld Try.prog h1 3 (nx h0) 0 fun v7 =>
      asI .i64 v7 fun n5 =>
      ld Try.prog h1 3 (nx h0) (off 0 1) fun v8 =>
      asI .i64 v8 fun n6 =>
      ifB (eq n5 n6) (
        some ((.bool true), h1)) (
        ld Try.prog h1 3 (nx h0) (off 0 2) fun v9 =>
        asI .i64 v9 fun n7 =>
        ifB (lt n7 0) (
          some ((.bool true), h1)) (
          ld Try.prog h1 3 (nx h0) (off 0 2) fun v10 =>
          asI .i64 v10 fun n8 =>
          ifB (lt 11 n8) (
            some ((.bool true), h1)) (
            ld Try.prog h1 3 (nx h0) (off 0 3) fun v11 =>
            asI .i64 v11 fun n9 =>
            ld Try.prog h1 3 (nx h0) (off 0 2) fun v12 =>
            asI .i64 v12 fun n10 =>
            ifB (lt n9 n10) (
              some ((.bool true), h1)) (
              ld Try.prog h1 3 (nx h0) (off 0 3) fun v13 =>
              asI .i64 v13 fun n11 =>
              ld Try.prog h1 3 (nx h0) (off 0 2) fun v14 =>
              asI .i64 v14 fun n12 =>
              some ((.bool (lt (add .i64 n12 11) n11)), h1)))))))

theorem e92 (rec : Rec) (k : Nat) (v0 : Value) (v1 : Value) (h : H) : bodyT Try.prog E0 SC (XC Try.prog rec k) 92 (Value × H) [.opq v0, .opq v1] h (fun v h => some (v, h)) = f92 rec k v0 v1 h := by kernel_rfl
theorem t92 {k : Nat} {v0 : Value} {v1 : Value} {h h1 : H} {v : Value} (hh : f92 rn k v0 v1 h = some (v, h1)) : rn 92 #[v0, v1] h = some (v, trunc Try.prog h h1 v) :=
  run_of_bodyT (args := [.opq v0, .opq v1]) rfl ((e92 _ _ _ _ _).trans hh)
theorem p92 {k : Nat} {v0 : Value} {v1 : Value} {h h1 : H} {v : Value} (hh : f92 rn k v0 v1 h = some (v, h1)) (hp : plainO v = true) (x : Ext h h1) : rn 92 #[v0, v1] h = some (v, h) := by rw [t92 hh, trunc_pure hp x]
theorem x92 {k : Nat} {v0 : Value} {v1 : Value} {h h1 : H} {v : Value} (hh : f92 rn k v0 v1 h = some (v, h1)) (hp : plainO v = false) : rn 92 #[v0, v1] h = some (v, h1) := by rw [t92 hh, trunc_not hp]

noncomputable def f93 (_rec : Rec) (_k : Nat) (v0 : Value) (h0 : H) : Option (Value × H) :=
  bx h0 88 v0 fun h1 =>
  ld Try.prog h1 4 (nx h0) (off 0 4) fun v1 =>
  asB v1 fun q0 =>
  ifB q0 (
    ld Try.prog h1 3 (nx h0) 0 fun v2 =>
    asI .i64 v2 fun n0 =>
    some ((.int .i64 n0), h1)) (
    ld Try.prog h1 3 (nx h0) (off 0 1) fun v3 =>
    asI .i64 v3 fun n1 =>
    some ((.int .i64 n1), h1))

theorem e93 (rec : Rec) (k : Nat) (v0 : Value) (h : H) : bodyT Try.prog E0 SC (XC Try.prog rec k) 93 (Value × H) [.opq v0] h (fun v h => some (v, h)) = f93 rec k v0 h := by kernel_rfl
theorem t93 {k : Nat} {v0 : Value} {h h1 : H} {v : Value} (hh : f93 rn k v0 h = some (v, h1)) : rn 93 #[v0] h = some (v, trunc Try.prog h h1 v) :=
  run_of_bodyT (args := [.opq v0]) rfl ((e93 _ _ _ _).trans hh)
theorem p93 {k : Nat} {v0 : Value} {h h1 : H} {v : Value} (hh : f93 rn k v0 h = some (v, h1)) (hp : plainO v = true) (x : Ext h h1) : rn 93 #[v0] h = some (v, h) := by rw [t93 hh, trunc_pure hp x]
theorem x93 {k : Nat} {v0 : Value} {h h1 : H} {v : Value} (hh : f93 rn k v0 h = some (v, h1)) (hp : plainO v = false) : rn 93 #[v0] h = some (v, h1) := by rw [t93 hh, trunc_not hp]

noncomputable def f94 (_rec : Rec) (_k : Nat) (v0 : Value) (h0 : H) : Option (Value × H) :=
  bx h0 88 v0 fun h1 =>
  ld Try.prog h1 4 (nx h0) (off 0 4) fun v1 =>
  asB v1 fun q0 =>
  ifB q0 (
    ld Try.prog h1 3 (nx h0) (off 0 1) fun v2 =>
    asI .i64 v2 fun n0 =>
    some ((.int .i64 n0), h1)) (
    ld Try.prog h1 3 (nx h0) 0 fun v3 =>
    asI .i64 v3 fun n1 =>
    some ((.int .i64 n1), h1))

theorem e94 (rec : Rec) (k : Nat) (v0 : Value) (h : H) : bodyT Try.prog E0 SC (XC Try.prog rec k) 94 (Value × H) [.opq v0] h (fun v h => some (v, h)) = f94 rec k v0 h := by kernel_rfl
theorem t94 {k : Nat} {v0 : Value} {h h1 : H} {v : Value} (hh : f94 rn k v0 h = some (v, h1)) : rn 94 #[v0] h = some (v, trunc Try.prog h h1 v) :=
  run_of_bodyT (args := [.opq v0]) rfl ((e94 _ _ _ _).trans hh)
theorem p94 {k : Nat} {v0 : Value} {h h1 : H} {v : Value} (hh : f94 rn k v0 h = some (v, h1)) (hp : plainO v = true) (x : Ext h h1) : rn 94 #[v0] h = some (v, h) := by rw [t94 hh, trunc_pure hp x]
theorem x94 {k : Nat} {v0 : Value} {h h1 : H} {v : Value} (hh : f94 rn k v0 h = some (v, h1)) (hp : plainO v = false) : rn 94 #[v0] h = some (v, h1) := by rw [t94 hh, trunc_not hp]

noncomputable def f99_l1 (rec : Rec) (_k : Nat) (v0 : Value) (v1 : Value) (n0 : Int) (ws0 : List Value) (h1 : H) : Option (Ex × List Value × H) :=
  asI .i64 (gv ws0 1) fun n1 =>
  ifB (lt n1 n0) (
    asK (gv ws0 1) fun n2 =>
    six v0 n2 4 fun b0 b1 =>
    ld Try.prog h1 67 b0 b1 fun v2 =>
    callsV rec h1 v1 [v2] fun v3 h2 =>
    asB v3 fun q0 =>
    ifB q0 (
      out .ret [gv ws0 1, gv ws0 1] h2) (
      asI .i64 (gv ws0 1) fun n3 =>
      out .normal [gv ws0 0, (.int .i64 (add .i64 n3 1))] h2)) (
    out (.exit 0) [gv ws0 0, gv ws0 1] h1)

noncomputable def f99 (rec : Rec) (k : Nat) (v0 : Value) (v1 : Value) (h0 : H) : Option (Value × H) :=
  len v0 fun n0 =>
  lp k (f99_l1 rec k v0 v1 n0) [(.int .i64 0), (.int .i64 0)] h0 fun e0 ws1 h3 =>
  onE e0 0 (
    some ((.int .i64 (-1)), h3)) (
    onR e0 (
      some (gv ws1 0, h3)))

theorem e99 (rec : Rec) (k : Nat) (v0 : Value) (v1 : Value) (h : H) : bodyT Try.prog E0 SC (XC Try.prog rec k) 99 (Value × H) [.opq v0, .opq v1] h (fun v h => some (v, h)) = f99 rec k v0 v1 h := by kernel_rfl
theorem t99 {k : Nat} {v0 : Value} {v1 : Value} {h h1 : H} {v : Value} (hh : f99 rn k v0 v1 h = some (v, h1)) : rn 99 #[v0, v1] h = some (v, trunc Try.prog h h1 v) :=
  run_of_bodyT (args := [.opq v0, .opq v1]) rfl ((e99 _ _ _ _ _).trans hh)
theorem p99 {k : Nat} {v0 : Value} {v1 : Value} {h h1 : H} {v : Value} (hh : f99 rn k v0 v1 h = some (v, h1)) (hp : plainO v = true) (x : Ext h h1) : rn 99 #[v0, v1] h = some (v, h) := by rw [t99 hh, trunc_pure hp x]
theorem x99 {k : Nat} {v0 : Value} {v1 : Value} {h h1 : H} {v : Value} (hh : f99 rn k v0 v1 h = some (v, h1)) (hp : plainO v = false) : rn 99 #[v0, v1] h = some (v, h1) := by rw [t99 hh, trunc_not hp]

noncomputable def f10 (rec : Rec) (_k : Nat) (v0 : Value) (v1 : Value) (h0 : H) : Option (Value × H) :=
  bx h0 47 v0 fun h1 =>
  ld Try.prog h1 47 (nx h0) 0 fun v2 =>
  calls rec h1 37 [v2] fun v3 h2 =>
  calls rec h2 18 [v1] fun v4 h3 =>
  calls rec h3 36 [v3, v4] fun v5 h4 =>
  ext v5 0 fun v6 =>
  asI .i64 v6 fun n0 =>
  ext v5 1 fun v7 =>
  asI .i64 v7 fun n1 =>
  ext v5 2 fun v8 =>
  asI .i64 v8 fun n2 =>
  ld Try.prog h4 47 (nx h0) 0 fun v9 =>
  calls rec h4 38 [v9] fun v10 h5 =>
  asB v10 fun q0 =>
  ifB (not q0) (
    ifB (eq n0 0) (
      ifB (eq n1 0) (
        ifB (eq n2 2) (
          calls rec h5 19 [] fun v11 h6 =>
          asB v11 fun q1 =>
          some ((.bool q1), h6)) (
          some ((.bool false), h5))) (
        some ((.bool false), h5))) (
      some ((.bool false), h5))) (
    ld Try.prog h5 47 (nx h0) 0 fun v12 =>
    calls rec h5 39 [v12, v1] fun v13 h7 =>
    asB v13 fun q2 =>
    ifB (not q2) (
      ifB (eq n0 0) (
        ifB (eq n1 0) (
          ifB (eq n2 2) (
            calls rec h7 19 [] fun v14 h8 =>
            asB v14 fun q3 =>
            some ((.bool q3), h8)) (
            some ((.bool false), h7))) (
          some ((.bool false), h7))) (
        some ((.bool false), h7))) (
      ld Try.prog h7 47 (nx h0) 0 fun v15 =>
      calls rec h7 40 [v15, v1] fun v16 h9 =>
      ext v16 0 fun v17 =>
      asI .i64 v17 fun n3 =>
      ext v16 1 fun v18 =>
      asI .i64 v18 fun n4 =>
      ext v16 2 fun v19 =>
      asI .i64 v19 fun n5 =>
      ifB (eq n0 n3) (
        ifB (eq n1 n4) (
          ifB (eq n2 n5) (
            calls rec h9 19 [] fun v20 h10 =>
            asB v20 fun q4 =>
            some ((.bool q4), h10)) (
            some ((.bool false), h9))) (
          some ((.bool false), h9))) (
        some ((.bool false), h9))))

theorem e10 (rec : Rec) (k : Nat) (v0 : Value) (v1 : Value) (h : H) : bodyT Try.prog E0 SC (XC Try.prog rec k) 10 (Value × H) [.opq v0, .opq v1] h (fun v h => some (v, h)) = f10 rec k v0 v1 h := by kernel_rfl
theorem t10 {k : Nat} {v0 : Value} {v1 : Value} {h h1 : H} {v : Value} (hh : f10 rn k v0 v1 h = some (v, h1)) : rn 10 #[v0, v1] h = some (v, trunc Try.prog h h1 v) :=
  run_of_bodyT (args := [.opq v0, .opq v1]) rfl ((e10 _ _ _ _ _).trans hh)
theorem p10 {k : Nat} {v0 : Value} {v1 : Value} {h h1 : H} {v : Value} (hh : f10 rn k v0 v1 h = some (v, h1)) (hp : plainO v = true) (x : Ext h h1) : rn 10 #[v0, v1] h = some (v, h) := by rw [t10 hh, trunc_pure hp x]
theorem x10 {k : Nat} {v0 : Value} {v1 : Value} {h h1 : H} {v : Value} (hh : f10 rn k v0 v1 h = some (v, h1)) (hp : plainO v = false) : rn 10 #[v0, v1] h = some (v, h1) := by rw [t10 hh, trunc_not hp]

noncomputable def f36_l1 (_rec : Rec) (_k : Nat) (v6 : Value) (n0 : Int) (ws0 : List Value) (h4 : H) : Option (Ex × List Value × H) :=
  asI .i64 (gv ws0 2) fun n1 =>
  ifB (lt n1 n0) (
    asK (gv ws0 2) fun n2 =>
    six v6 n2 5 fun b0 b1 =>
    ld Try.prog h4 88 b0 b1 fun v8 =>
    al h4 88 [(.int .i64 0), (.int .i64 0), (.int .i64 0), (.int .i64 0), (.bool false)] fun h5 =>
    st Try.prog h5 88 (nx h4) 0 v8 fun h6 =>
    ld Try.prog h6 4 (nx h4) (off 0 4) fun v9 =>
    asB v9 fun q2 =>
    ifB q2 (
      ld Try.prog h6 3 (nx h4) (off 0 3) fun v10 =>
      asI .i64 v10 fun n3 =>
      asI .i64 (gv ws0 0) fun n4 =>
      ld Try.prog h6 3 (nx h4) (off 0 2) fun v11 =>
      asI .i64 v11 fun n5 =>
      asI .i64 (gv ws0 1) fun n6 =>
      asI .i64 (gv ws0 2) fun n7 =>
      out .normal [(.int .i64 (sub .i64 n4 n3)), (.int .i64 (sub .i64 n6 n5)), (.int .i64 (add .i64 n7 1))] h6) (
      ld Try.prog h6 3 (nx h4) (off 0 2) fun v12 =>
      asI .i64 v12 fun n8 =>
      asI .i64 (gv ws0 0) fun n9 =>
      ld Try.prog h6 3 (nx h4) (off 0 3) fun v13 =>
      asI .i64 v13 fun n10 =>
      asI .i64 (gv ws0 1) fun n11 =>
      asI .i64 (gv ws0 2) fun n12 =>
      out .normal [(.int .i64 (add .i64 n9 n8)), (.int .i64 (add .i64 n11 n10)), (.int .i64 (add .i64 n12 1))] h6)) (
    out (.exit 0) [gv ws0 0, gv ws0 1, gv ws0 2] h4)

noncomputable def f36 (rec : Rec) (k : Nat) (v0 : Value) (v1 : Value) (h0 : H) : Option (Value × H) :=
  bx h0 52 v0 fun h1 =>
  ld Try.prog h1 52 (nx h0) 0 fun v2 =>
  calls rec h1 71 [v2] fun v3 h2 =>
  asB v3 fun q0 =>
  ifB (not q0) (
    some ((.tuple #[(.int .i64 0), (.int .i64 0), (.int .i64 2)]), h2)) (
    ld Try.prog h2 52 (nx h0) 0 fun v4 =>
    calls rec h2 72 [v4, v1] fun v5 h3 =>
    ext v5 0 fun v6 =>
    ext v5 1 fun v7 =>
    asB v7 fun q1 =>
    ifB (not q1) (
      some ((.tuple #[(.int .i64 0), (.int .i64 0), (.int .i64 2)]), h3)) (
      len v6 fun n0 =>
      lp k (f36_l1 rec k v6 n0) [(.int .i64 0), (.int .i64 0), (.int .i64 0)] h3 fun e0 ws1 h7 =>
      onE e0 0 (
        asI .i64 (gv ws1 0) fun n13 =>
        ld Try.prog h7 3 (nx h0) 0 fun v14 =>
        asI .i64 v14 fun n14 =>
        calls rec h7 73 [(.int .i64 (sub .i64 0 n13)), (.int .i64 n14)] fun v15 h8 =>
        asI .i64 v15 fun n15 =>
        ld Try.prog h8 3 (nx h0) 0 fun v16 =>
        asI .i64 v16 fun n16 =>
        ck (freq (nx h0) (nx h7) (same h8 h7)) (
          calls rec h8 73 [gv ws1 1, (.int .i64 n16)] fun v17 h9 =>
          asI .i64 v17 fun n17 =>
          ifB (lt n17 (sub .i64 0 n15)) (
            some ((.tuple #[(.int .i64 0), (.int .i64 0), (.int .i64 4)]), h9)) (
            some ((.tuple #[(.int .i64 (sub .i64 0 n15)), (.int .i64 n17), (.int .i64 0)]), h9)))) (
        none)))

theorem e36 (rec : Rec) (k : Nat) (v0 : Value) (v1 : Value) (h : H) : bodyT Try.prog E0 SC (XC Try.prog rec k) 36 (Value × H) [.opq v0, .opq v1] h (fun v h => some (v, h)) = f36 rec k v0 v1 h := by kernel_rfl
theorem t36 {k : Nat} {v0 : Value} {v1 : Value} {h h1 : H} {v : Value} (hh : f36 rn k v0 v1 h = some (v, h1)) : rn 36 #[v0, v1] h = some (v, trunc Try.prog h h1 v) :=
  run_of_bodyT (args := [.opq v0, .opq v1]) rfl ((e36 _ _ _ _ _).trans hh)
theorem p36 {k : Nat} {v0 : Value} {v1 : Value} {h h1 : H} {v : Value} (hh : f36 rn k v0 v1 h = some (v, h1)) (hp : plainO v = true) (x : Ext h h1) : rn 36 #[v0, v1] h = some (v, h) := by rw [t36 hh, trunc_pure hp x]
theorem x36 {k : Nat} {v0 : Value} {v1 : Value} {h h1 : H} {v : Value} (hh : f36 rn k v0 v1 h = some (v, h1)) (hp : plainO v = false) : rn 36 #[v0, v1] h = some (v, h1) := by rw [t36 hh, trunc_not hp]

noncomputable def f37_l1 (_rec : Rec) (_k : Nat) (h2 : H) (v4 : Value) (n2 : Int) (ws0 : List Value) (h5 : H) : Option (Ex × List Value × H) :=
  asI .i64 (gv ws0 0) fun n3 =>
  ifB (lt n3 n2) (
    asK (gv ws0 0) fun n4 =>
    six v4 n4 4 fun b0 b1 =>
    ld Try.prog h5 89 b0 b1 fun v5 =>
    al h5 89 [(.int .i64 0), (.int .i64 0), (.int .i64 0), (.int .i64 0)] fun h6 =>
    st Try.prog h6 89 (nx h5) 0 v5 fun h7 =>
    asI .i64 (gv ws0 0) fun n5 =>
    ifB (lt n5 14) (
      ld Try.prog h7 50 (nx h2) (off 0 2) fun v6 =>
      ld Try.prog h7 3 (nx h5) 0 fun v7 =>
      asI .i64 v7 fun n6 =>
      ld Try.prog h7 3 (nx h5) (off 0 1) fun v8 =>
      asI .i64 v8 fun n7 =>
      ld Try.prog h7 3 (nx h5) (off 0 2) fun v9 =>
      asI .i64 v9 fun n8 =>
      ld Try.prog h7 3 (nx h5) (off 0 3) fun v10 =>
      asI .i64 v10 fun n9 =>
      bld Try.prog 67 [(0, (.int .i64 n6)), (1, (.int .i64 n7)), (2, (.int .i64 n8)), (3, (.int .i64 n9))] fun v11 =>
      bls Try.prog h7 50 1 [(0, v11)] fun v12 h8 =>
      app Try.prog h8 50 50 v6 v12 fun v13 h9 =>
      st Try.prog h9 50 (nx h2) (off 0 2) v13 fun h10 =>
      asI .i64 (gv ws0 0) fun n10 =>
      out .normal [(.int .i64 (add .i64 n10 1))] h10) (
      asI .i64 (gv ws0 0) fun n11 =>
      out .normal [(.int .i64 (add .i64 n11 1))] h7)) (
    out (.exit 0) [gv ws0 0] h5)

noncomputable def f37 (rec : Rec) (k : Nat) (v0 : Value) (h0 : H) : Option (Value × H) :=
  bx h0 47 v0 fun h1 =>
  al h1 52 [(.int .i64 0), (.int .i64 0), (.slice none 0 0)] fun h2 =>
  ld Try.prog h2 3 (nx h0) 0 fun v1 =>
  asI .i64 v1 fun n0 =>
  ld Try.prog h2 3 (nx h0) (off 0 1) fun v2 =>
  asI .i64 v2 fun n1 =>
  bld Try.prog 52 [(0, (.int .i64 n0)), (1, (.int .i64 n1))] fun v3 =>
  al h2 52 [(.int .i64 0), (.int .i64 0), (.slice none 0 0)] fun h3 =>
  st Try.prog h3 52 (nx h2) 0 v3 fun h4 =>
  ld Try.prog h4 45 (nx h0) (off 0 2) fun v4 =>
  len v4 fun n2 =>
  lp k (f37_l1 rec k h2 v4 n2) [(.int .i64 0)] h4 fun e0 _ h11 =>
  onE e0 0 (
    ld Try.prog h11 52 (nx h2) 0 fun v14 =>
    st Try.prog h11 52 (nx h1) 0 v14 fun h12 =>
    ld Try.prog h12 52 (nx h1) 0 fun v15 =>
    some (v15, h12)) (
    none)

theorem e37 (rec : Rec) (k : Nat) (v0 : Value) (h : H) : bodyT Try.prog E0 SC (XC Try.prog rec k) 37 (Value × H) [.opq v0] h (fun v h => some (v, h)) = f37 rec k v0 h := by kernel_rfl
theorem t37 {k : Nat} {v0 : Value} {h h1 : H} {v : Value} (hh : f37 rn k v0 h = some (v, h1)) : rn 37 #[v0] h = some (v, trunc Try.prog h h1 v) :=
  run_of_bodyT (args := [.opq v0]) rfl ((e37 _ _ _ _).trans hh)
theorem p37 {k : Nat} {v0 : Value} {h h1 : H} {v : Value} (hh : f37 rn k v0 h = some (v, h1)) (hp : plainO v = true) (x : Ext h h1) : rn 37 #[v0] h = some (v, h) := by rw [t37 hh, trunc_pure hp x]
theorem x37 {k : Nat} {v0 : Value} {h h1 : H} {v : Value} (hh : f37 rn k v0 h = some (v, h1)) (hp : plainO v = false) : rn 37 #[v0] h = some (v, h1) := by rw [t37 hh, trunc_not hp]

noncomputable def f38_l1 (_rec : Rec) (_k : Nat) (h0 : H) (v6 : Value) (n5 : Int) (ws0 : List Value) (h2 : H) : Option (Ex × List Value × H) :=
  asI .i64 (gv ws0 1) fun n6 =>
  ifB (lt n6 n5) (
    asK (gv ws0 1) fun n7 =>
    six v6 n7 4 fun b0 b1 =>
    ld Try.prog h2 89 b0 b1 fun v7 =>
    al h2 89 [(.int .i64 0), (.int .i64 0), (.int .i64 0), (.int .i64 0)] fun h3 =>
    st Try.prog h3 89 (nx h2) 0 v7 fun h4 =>
    ld Try.prog h4 3 (nx h2) 0 fun v8 =>
    asI .i64 v8 fun n8 =>
    ifB (lt n8 0) (
      out .ret [(.bool false), gv ws0 1] h4) (
      ld Try.prog h4 3 (nx h2) 0 fun v9 =>
      asI .i64 v9 fun n9 =>
      ld Try.prog h4 3 (nx h0) (off 0 1) fun v10 =>
      asI .i64 v10 fun n10 =>
      ifB (le n10 n9) (
        out .ret [(.bool false), gv ws0 1] h4) (
        ld Try.prog h4 3 (nx h2) (off 0 1) fun v11 =>
        asI .i64 v11 fun n11 =>
        ifB (lt n11 0) (
          out .ret [(.bool false), gv ws0 1] h4) (
          ld Try.prog h4 3 (nx h2) (off 0 1) fun v12 =>
          asI .i64 v12 fun n12 =>
          ld Try.prog h4 3 (nx h0) (off 0 1) fun v13 =>
          asI .i64 v13 fun n13 =>
          ifB (le n13 n12) (
            out .ret [(.bool false), gv ws0 1] h4) (
            ld Try.prog h4 3 (nx h2) 0 fun v14 =>
            asI .i64 v14 fun n14 =>
            ld Try.prog h4 3 (nx h2) (off 0 1) fun v15 =>
            asI .i64 v15 fun n15 =>
            ifB (eq n14 n15) (
              out .ret [(.bool false), gv ws0 1] h4) (
              ld Try.prog h4 3 (nx h2) (off 0 2) fun v16 =>
              asI .i64 v16 fun n16 =>
              ifB (lt n16 0) (
                out .ret [(.bool false), gv ws0 1] h4) (
                ld Try.prog h4 3 (nx h2) (off 0 2) fun v17 =>
                asI .i64 v17 fun n17 =>
                ifB (lt 11 n17) (
                  out .ret [(.bool false), gv ws0 1] h4) (
                  ld Try.prog h4 3 (nx h2) (off 0 3) fun v18 =>
                  asI .i64 v18 fun n18 =>
                  ld Try.prog h4 3 (nx h2) (off 0 2) fun v19 =>
                  asI .i64 v19 fun n19 =>
                  ifB (lt n18 n19) (
                    out .ret [(.bool false), gv ws0 1] h4) (
                    ld Try.prog h4 3 (nx h2) (off 0 3) fun v20 =>
                    asI .i64 v20 fun n20 =>
                    ld Try.prog h4 3 (nx h2) (off 0 2) fun v21 =>
                    asI .i64 v21 fun n21 =>
                    ifB (lt (add .i64 n21 11) n20) (
                      out .ret [(.bool false), gv ws0 1] h4) (
                      asI .i64 (gv ws0 1) fun n22 =>
                      out .normal [gv ws0 0, (.int .i64 (add .i64 n22 1))] h4)))))))))) (
    out (.exit 0) [gv ws0 0, gv ws0 1] h2)

noncomputable def f38 (rec : Rec) (k : Nat) (v0 : Value) (h0 : H) : Option (Value × H) :=
  bx h0 47 v0 fun h1 =>
  ld Try.prog h1 3 (nx h0) 0 fun v1 =>
  asI .i64 v1 fun n0 =>
  ifB (lt n0 1) (
    some ((.bool false), h1)) (
    ld Try.prog h1 3 (nx h0) 0 fun v2 =>
    asI .i64 v2 fun n1 =>
    ifB (lt 12 n1) (
      some ((.bool false), h1)) (
      ld Try.prog h1 3 (nx h0) (off 0 1) fun v3 =>
      asI .i64 v3 fun n2 =>
      ifB (lt n2 1) (
        some ((.bool false), h1)) (
        ld Try.prog h1 3 (nx h0) (off 0 1) fun v4 =>
        asI .i64 v4 fun n3 =>
        ifB (lt 6 n3) (
          some ((.bool false), h1)) (
          ld Try.prog h1 45 (nx h0) (off 0 2) fun v5 =>
          len v5 fun n4 =>
          ifB (lt 12 n4) (
            some ((.bool false), h1)) (
            ld Try.prog h1 45 (nx h0) (off 0 2) fun v6 =>
            len v6 fun n5 =>
            lp k (f38_l1 rec k h0 v6 n5) [(.bool false), (.int .i64 0)] h1 fun e0 ws1 h5 =>
            onE e0 0 (
              some ((.bool true), h5)) (
              onR e0 (
                some (gv ws1 0, h5))))))))

theorem e38 (rec : Rec) (k : Nat) (v0 : Value) (h : H) : bodyT Try.prog E0 SC (XC Try.prog rec k) 38 (Value × H) [.opq v0] h (fun v h => some (v, h)) = f38 rec k v0 h := by kernel_rfl
theorem t38 {k : Nat} {v0 : Value} {h h1 : H} {v : Value} (hh : f38 rn k v0 h = some (v, h1)) : rn 38 #[v0] h = some (v, trunc Try.prog h h1 v) :=
  run_of_bodyT (args := [.opq v0]) rfl ((e38 _ _ _ _).trans hh)
theorem p38 {k : Nat} {v0 : Value} {h h1 : H} {v : Value} (hh : f38 rn k v0 h = some (v, h1)) (hp : plainO v = true) (x : Ext h h1) : rn 38 #[v0] h = some (v, h) := by rw [t38 hh, trunc_pure hp x]
theorem x38 {k : Nat} {v0 : Value} {h h1 : H} {v : Value} (hh : f38 rn k v0 h = some (v, h1)) (hp : plainO v = false) : rn 38 #[v0] h = some (v, h1) := by rw [t38 hh, trunc_not hp]

noncomputable def f39_l1 (rec : Rec) (_k : Nat) (v1 : Value) (h0 : H) (n0 : Int) (ws0 : List Value) (h2 : H) : Option (Ex × List Value × H) :=
  asI .i64 (gv ws0 2) fun n1 =>
  ifB (lt n1 n0) (
    asK (gv ws0 2) fun n2 =>
    six v1 n2 1 fun b0 b1 =>
    ld Try.prog h2 3 b0 b1 fun v2 =>
    asI .i64 v2 fun n3 =>
    ifB (eq n3 0) (
      out .ret [(.bool false), gv ws0 1, gv ws0 2] h2) (
      ifB (lt (sub .i64 (imax n3 (sub .i64 0 n3)) 1) 0) (
        out .ret [(.bool false), gv ws0 1, gv ws0 2] h2) (
        ld Try.prog h2 45 (nx h0) (off 0 2) fun v3 =>
        len v3 fun n4 =>
        ifB (le n4 (sub .i64 (imax n3 (sub .i64 0 n3)) 1)) (
          out .ret [(.bool false), gv ws0 1, gv ws0 2] h2) (
          asI .i64 (gv ws0 1) fun n5 =>
          nn (sub .i64 (imax n3 (sub .i64 0 n3)) 1) (
            ifB (eq (and .i64 (shr .i64 n5 (sub .i64 (imax n3 (sub .i64 0 n3)) 1)) 1) 1) (
              out .ret [(.bool false), gv ws0 1, gv ws0 2] h2) (
              nn (sub .i64 (imax n3 (sub .i64 0 n3)) 1) (
                asI .i64 (gv ws0 1) fun n6 =>
                ld Try.prog h2 47 (nx h0) 0 fun v4 =>
                calls rec h2 74 [v4, (.int .i64 n3)] fun v5 h3 =>
                ext v5 0 fun v6 =>
                asI .i64 v6 fun _ =>
                ext v5 1 fun v7 =>
                asI .i64 v7 fun n8 =>
                ld Try.prog h3 47 (nx h0) 0 fun v8 =>
                asI .i64 (gv ws0 2) fun n9 =>
                len v1 fun n10 =>
                nz n10 (
                  six v1 (rem .i64 (add .i64 n9 1) n10) 1 fun b2 b3 =>
                  ld Try.prog h3 3 b2 b3 fun v9 =>
                  asI .i64 v9 fun n11 =>
                  calls rec h3 74 [v8, (.int .i64 n11)] fun v10 h4 =>
                  ext v10 0 fun v11 =>
                  asI .i64 v11 fun n12 =>
                  ext v10 1 fun v12 =>
                  asI .i64 v12 fun _ =>
                  ifB (not (eq n12 n8)) (
                    out .ret [(.bool false), (.int .i64 (or .i64 n6 (shl .i64 1 (sub .i64 (imax n3 (sub .i64 0 n3)) 1)))), gv ws0 2] h4) (
                    asI .i64 (gv ws0 2) fun n14 =>
                    out .normal [gv ws0 0, (.int .i64 (or .i64 n6 (shl .i64 1 (sub .i64 (imax n3 (sub .i64 0 n3)) 1)))), (.int .i64 (add .i64 n14 1))] h4))))))))) (
    out (.exit 0) [gv ws0 0, gv ws0 1, gv ws0 2] h2)

noncomputable def f39 (rec : Rec) (k : Nat) (v0 : Value) (v1 : Value) (h0 : H) : Option (Value × H) :=
  bx h0 47 v0 fun h1 =>
  len v1 fun n0 =>
  lp k (f39_l1 rec k v1 h0 n0) [(.bool false), (.int .i64 0), (.int .i64 0)] h1 fun e0 ws1 h5 =>
  onE e0 0 (
    len v1 fun n15 =>
    ifB (le 1 n15) (
      len v1 fun n16 =>
      some ((.bool (le n16 12)), h5)) (
      some ((.bool false), h5))) (
    onR e0 (
      some (gv ws1 0, h5)))

theorem e39 (rec : Rec) (k : Nat) (v0 : Value) (v1 : Value) (h : H) : bodyT Try.prog E0 SC (XC Try.prog rec k) 39 (Value × H) [.opq v0, .opq v1] h (fun v h => some (v, h)) = f39 rec k v0 v1 h := by kernel_rfl
theorem t39 {k : Nat} {v0 : Value} {v1 : Value} {h h1 : H} {v : Value} (hh : f39 rn k v0 v1 h = some (v, h1)) : rn 39 #[v0, v1] h = some (v, trunc Try.prog h h1 v) :=
  run_of_bodyT (args := [.opq v0, .opq v1]) rfl ((e39 _ _ _ _ _).trans hh)
theorem p39 {k : Nat} {v0 : Value} {v1 : Value} {h h1 : H} {v : Value} (hh : f39 rn k v0 v1 h = some (v, h1)) (hp : plainO v = true) (x : Ext h h1) : rn 39 #[v0, v1] h = some (v, h) := by rw [t39 hh, trunc_pure hp x]
theorem x39 {k : Nat} {v0 : Value} {v1 : Value} {h h1 : H} {v : Value} (hh : f39 rn k v0 v1 h = some (v, h1)) (hp : plainO v = false) : rn 39 #[v0, v1] h = some (v, h1) := by rw [t39 hh, trunc_not hp]

noncomputable def f40_l1 (_rec : Rec) (_k : Nat) (v1 : Value) (h0 : H) (n0 : Int) (ws0 : List Value) (h2 : H) : Option (Ex × List Value × H) :=
  asI .i64 (gv ws0 2) fun n1 =>
  ifB (lt n1 n0) (
    asK (gv ws0 2) fun n2 =>
    six v1 n2 1 fun b0 b1 =>
    ld Try.prog h2 3 b0 b1 fun v2 =>
    asI .i64 v2 fun n3 =>
    ld Try.prog h2 45 (nx h0) (off 0 2) fun v3 =>
    six v3 (sub .i64 (imax n3 (sub .i64 0 n3)) 1) 4 fun b2 b3 =>
    ld Try.prog h2 89 b2 b3 fun v4 =>
    al h2 89 [(.int .i64 0), (.int .i64 0), (.int .i64 0), (.int .i64 0)] fun h3 =>
    st Try.prog h3 89 (nx h2) 0 v4 fun h4 =>
    ifB (lt 0 n3) (
      ld Try.prog h4 3 (nx h2) (off 0 2) fun v5 =>
      asI .i64 v5 fun n4 =>
      asI .i64 (gv ws0 0) fun n5 =>
      ld Try.prog h4 3 (nx h2) (off 0 3) fun v6 =>
      asI .i64 v6 fun n6 =>
      asI .i64 (gv ws0 1) fun n7 =>
      asI .i64 (gv ws0 2) fun n8 =>
      out .normal [(.int .i64 (add .i64 n5 n4)), (.int .i64 (add .i64 n7 n6)), (.int .i64 (add .i64 n8 1))] h4) (
      ld Try.prog h4 3 (nx h2) (off 0 3) fun v7 =>
      asI .i64 v7 fun n9 =>
      asI .i64 (gv ws0 0) fun n10 =>
      ld Try.prog h4 3 (nx h2) (off 0 2) fun v8 =>
      asI .i64 v8 fun n11 =>
      asI .i64 (gv ws0 1) fun n12 =>
      asI .i64 (gv ws0 2) fun n13 =>
      out .normal [(.int .i64 (sub .i64 n10 n9)), (.int .i64 (sub .i64 n12 n11)), (.int .i64 (add .i64 n13 1))] h4)) (
    out (.exit 0) [gv ws0 0, gv ws0 1, gv ws0 2] h2)

noncomputable def f40_l2 (_rec : Rec) (_k : Nat) (h0 : H) (ws1 : List Value) (ws2 : List Value) (h6 : H) : Option (Ex × List Value × H) :=
  asI .i64 (gv ws2 3) fun n14 =>
  ifB (le n14 300) (
    ld Try.prog h6 3 (nx h0) 0 fun v9 =>
    asI .i64 v9 fun n15 =>
    asI .i64 (gv ws2 3) fun n16 =>
    asI .i64 (gv ws1 0) fun n17 =>
    ifB (le n17 (mul .i64 n15 n16)) (
      asI .i64 (gv ws1 1) fun n18 =>
      ifB (le (mul .i64 n15 n16) n18) (
        asB (gv ws2 2) fun q0 =>
        ifB (not q0) (
          asI .i64 (gv ws2 3) fun n19 =>
          out .normal [gv ws2 3, gv ws2 3, (.bool true), (.int .i64 (add .i64 n19 1))] h6) (
          asI .i64 (gv ws2 3) fun n20 =>
          out .normal [gv ws2 0, gv ws2 3, (.bool true), (.int .i64 (add .i64 n20 1))] h6)) (
        asI .i64 (gv ws2 3) fun n21 =>
        out .normal [gv ws2 0, gv ws2 1, gv ws2 2, (.int .i64 (add .i64 n21 1))] h6)) (
      asI .i64 (gv ws2 3) fun n22 =>
      out .normal [gv ws2 0, gv ws2 1, gv ws2 2, (.int .i64 (add .i64 n22 1))] h6)) (
    out (.exit 2) [gv ws2 0, gv ws2 1, gv ws2 2, gv ws2 3] h6)

noncomputable def f40 (rec : Rec) (k : Nat) (v0 : Value) (v1 : Value) (h0 : H) : Option (Value × H) :=
  bx h0 47 v0 fun h1 =>
  len v1 fun n0 =>
  lp k (f40_l1 rec k v1 h0 n0) [(.int .i64 0), (.int .i64 0), (.int .i64 0)] h1 fun e0 ws1 h5 =>
  onE e0 0 (
    lp k (f40_l2 rec k h0 ws1) [(.int .i64 0), (.int .i64 0), (.bool false), (.int .i64 (-300))] h5 fun e1 ws3 h7 =>
    onE e1 2 (
      asB (gv ws3 2) fun q1 =>
      ifB (not q1) (
        some ((.tuple #[(.int .i64 0), (.int .i64 0), (.int .i64 4)]), h7)) (
        some ((.tuple #[gv ws3 0, gv ws3 1, (.int .i64 0)]), h7))) (
      none)) (
    none)

theorem e40 (rec : Rec) (k : Nat) (v0 : Value) (v1 : Value) (h : H) : bodyT Try.prog E0 SC (XC Try.prog rec k) 40 (Value × H) [.opq v0, .opq v1] h (fun v h => some (v, h)) = f40 rec k v0 v1 h := by kernel_rfl
theorem t40 {k : Nat} {v0 : Value} {v1 : Value} {h h1 : H} {v : Value} (hh : f40 rn k v0 v1 h = some (v, h1)) : rn 40 #[v0, v1] h = some (v, trunc Try.prog h h1 v) :=
  run_of_bodyT (args := [.opq v0, .opq v1]) rfl ((e40 _ _ _ _ _).trans hh)
theorem p40 {k : Nat} {v0 : Value} {v1 : Value} {h h1 : H} {v : Value} (hh : f40 rn k v0 v1 h = some (v, h1)) (hp : plainO v = true) (x : Ext h h1) : rn 40 #[v0, v1] h = some (v, h) := by rw [t40 hh, trunc_pure hp x]
theorem x40 {k : Nat} {v0 : Value} {v1 : Value} {h h1 : H} {v : Value} (hh : f40 rn k v0 v1 h = some (v, h1)) (hp : plainO v = false) : rn 40 #[v0, v1] h = some (v, h1) := by rw [t40 hh, trunc_not hp]

end Go.AM
