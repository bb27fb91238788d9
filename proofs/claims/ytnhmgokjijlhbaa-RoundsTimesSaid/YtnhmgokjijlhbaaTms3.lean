/- Parts of the proof, put together: what the functions of the program answer, and plain laws. -/
import Derived.Test.YtnhmgokjijlhbaaAmMap
import Derived.Test.YtnhmgokjijlhbaaTms2

section

/- The staged forms of functions 71, 72, 73, 74, 80, 92, 93, 94, 99, 10, 36, 37, 38, 39, 40, and what calls of these answer. -/
namespace Go.AM
open Go.Proofs
noncomputable def f71 (rec : Rec) (_k : Nat) (v0 : Value) (h0 : H) : Option (Value × H) :=
  bx h0 52 v0 fun h1 =>
  ld Try.prog h1 3 (nx h0) 0 fun v1 =>
  asI .i64 v1 fun n0 =>
  ifB (lt n0 1) (
    some ((.bool false), h1)) (
    ld Try.prog h1 3 (nx h0) 0 fun v2 =>
    asI .i64 v2 fun n1 =>
    ifB (lt 12 n1) (
      some ((.bool false), h1)) (
      ld Try.prog h1 3 (nx h0) (off 0 1) fun v3 =>
      asI .i64 v3 fun n2 =>
      ifB (lt n2 1) (
        some ((.bool false), h1)) (
        ld Try.prog h1 3 (nx h0) (off 0 1) fun v4 =>
        asI .i64 v4 fun n3 =>
        ifB (lt 6 n3) (
          some ((.bool false), h1)) (
          ld Try.prog h1 50 (nx h0) (off 0 2) fun v5 =>
          len v5 fun n4 =>
          ifB (lt 12 n4) (
            some ((.bool false), h1)) (
            ld Try.prog h1 50 (nx h0) (off 0 2) fun v6 =>
            calls rec h1 80 [v6, (.func (.func 92) #[] #[(pt (nx h0) 0)])] fun v7 h2 =>
            asB v7 fun q0 =>
            some ((.bool (not q0)), h2))))))

theorem e71 (rec : Rec) (k : Nat) (v0 : Value) (h : H) : bodyT Try.prog E0 SC (XC Try.prog rec k) 71 (Value × H) [.opq v0] h (fun v h => some (v, h)) = f71 rec k v0 h := by kernel_rfl

theorem t71 {k : Nat} {v0 : Value} {h h1 : H} {v : Value} (hh : f71 rn k v0 h = some (v, h1)) : rn 71 #[v0] h = some (v, trunc Try.prog h h1 v) :=
  run_of_bodyT (args := [.opq v0]) rfl ((e71 _ _ _ _).trans hh)

theorem p71 {k : Nat} {v0 : Value} {h h1 : H} {v : Value} (hh : f71 rn k v0 h = some (v, h1)) (hp : plainO v = true) (x : Ext h h1) : rn 71 #[v0] h = some (v, h) := by rw [t71 hh, trunc_pure hp x]

noncomputable def f72_l1 (_rec : Rec) (_k : Nat) (v1 : Value) (h0 : H) (h1 : H) (n2 : Int) (ws0 : List Value) (h3 : H) : Option (Ex × List Value × H) :=
  asI .i64 (gv ws0 3) fun n3 =>
  ifB (lt n3 n2) (
    asK (gv ws0 3) fun n4 =>
    six v1 n4 1 fun b0 b1 =>
    ld Try.prog h3 3 b0 b1 fun v2 =>
    asI .i64 v2 fun n5 =>
    ifB (lt (sub .i64 (imax n5 (sub .i64 0 n5)) 1) 0) (
      out .ret [(.slice none 0 0), (.bool false), gv ws0 2, gv ws0 3] h3) (
      ld Try.prog h3 50 (nx h0) (off 0 2) fun v3 =>
      len v3 fun n6 =>
      ifB (le n6 (sub .i64 (imax n5 (sub .i64 0 n5)) 1)) (
        out .ret [(.slice none 0 0), (.bool false), gv ws0 2, gv ws0 3] h3) (
        lok Try.prog h3 107 (.map (some (nx h1))) (.int .i64 (sub .i64 (imax n5 (sub .i64 0 n5)) 1)) false fun v4 =>
        asB v4 fun q0 =>
        ifB q0 (
          out .ret [(.slice none 0 0), (.bool false), gv ws0 2, gv ws0 3] h3) (
          mup Try.prog h3 107 (.map (some (nx h1))) (.int .i64 (sub .i64 (imax n5 (sub .i64 0 n5)) 1)) (.bool true) fun h4 =>
          ld Try.prog h4 50 (nx h0) (off 0 2) fun v5 =>
          six v5 (sub .i64 (imax n5 (sub .i64 0 n5)) 1) 4 fun b2 b3 =>
          ld Try.prog h4 67 b2 b3 fun v6 =>
          bld Try.prog 88 [(0, v6), (1, (.bool (lt n5 0)))] fun v7 =>
          bls Try.prog h4 84 1 [(0, v7)] fun v8 h5 =>
          app Try.prog h5 84 84 (gv ws0 2) v8 fun v9 h6 =>
          asI .i64 (gv ws0 3) fun n7 =>
          out .normal [gv ws0 0, gv ws0 1, v9, (.int .i64 (add .i64 n7 1))] h6)))) (
    out (.exit 0) [gv ws0 0, gv ws0 1, gv ws0 2, gv ws0 3] h3)

noncomputable def f72_l2 (rec : Rec) (_k : Nat) (ws1 : List Value) (n8 : Int) (ws2 : List Value) (h8 : H) : Option (Ex × List Value × H) :=
  asI .i64 (gv ws2 2) fun n9 =>
  ifB (lt n9 n8) (
    asK (gv ws2 2) fun n10 =>
    six (gv ws1 2) n10 5 fun b4 b5 =>
    ld Try.prog h8 88 b4 b5 fun v10 =>
    al h8 88 [(.int .i64 0), (.int .i64 0), (.int .i64 0), (.int .i64 0), (.bool false)] fun h9 =>
    st Try.prog h9 88 (nx h8) 0 v10 fun h10 =>
    ld Try.prog h10 88 (nx h8) 0 fun v11 =>
    calls rec h10 93 [v11] fun v12 h11 =>
    asI .i64 v12 fun n11 =>
    asI .i64 (gv ws2 2) fun n12 =>
    len (gv ws1 2) fun n13 =>
    nz n13 (
      six (gv ws1 2) (rem .i64 (add .i64 n12 1) n13) 5 fun b6 b7 =>
      ld Try.prog h11 88 b6 b7 fun v13 =>
      ck (freq b6 (nx h10) (same h11 h10)) (
        calls rec h11 94 [v13] fun v14 h12 =>
        asI .i64 v14 fun n14 =>
        ifB (not (eq n11 n14)) (
          out .ret [(.slice none 0 0), (.bool false), gv ws2 2] h12) (
          asI .i64 (gv ws2 2) fun n15 =>
          out .normal [gv ws2 0, gv ws2 1, (.int .i64 (add .i64 n15 1))] h12)))) (
    out (.exit 2) [gv ws2 0, gv ws2 1, gv ws2 2] h8)

noncomputable def f72 (rec : Rec) (k : Nat) (v0 : Value) (v1 : Value) (h0 : H) : Option (Value × H) :=
  bx h0 52 v0 fun h1 =>
  len v1 fun n0 =>
  ifB (lt n0 1) (
    some ((.tuple #[(.slice none 0 0), (.bool false)]), h1)) (
    len v1 fun n1 =>
    ifB (lt 12 n1) (
      some ((.tuple #[(.slice none 0 0), (.bool false)]), h1)) (
      mkm h1 fun h2 =>
      len v1 fun n2 =>
      lp k (f72_l1 rec k v1 h0 h1 n2) [(.slice none 0 0), (.bool false), (.slice none 0 0), (.int .i64 0)] h2 fun e0 ws1 h7 =>
      onE e0 0 (
        len (gv ws1 2) fun n8 =>
        lp k (f72_l2 rec k ws1 n8) [gv ws1 0, gv ws1 1, (.int .i64 0)] h7 fun e1 ws3 h13 =>
        onE e1 2 (
          some ((.tuple #[gv ws1 2, (.bool true)]), h13)) (
          onR e1 (
            some ((.tuple #[gv ws3 0, gv ws3 1]), h13)))) (
        onR e0 (
          some ((.tuple #[gv ws1 0, gv ws1 1]), h7)))))

theorem e72 (rec : Rec) (k : Nat) (v0 : Value) (v1 : Value) (h : H) : bodyT Try.prog E0 SC (XC Try.prog rec k) 72 (Value × H) [.opq v0, .opq v1] h (fun v h => some (v, h)) = f72 rec k v0 v1 h := by kernel_rfl

theorem t72 {k : Nat} {v0 : Value} {v1 : Value} {h h1 : H} {v : Value} (hh : f72 rn k v0 v1 h = some (v, h1)) : rn 72 #[v0, v1] h = some (v, trunc Try.prog h h1 v) :=
  run_of_bodyT (args := [.opq v0, .opq v1]) rfl ((e72 _ _ _ _ _).trans hh)

theorem x72 {k : Nat} {v0 : Value} {v1 : Value} {h h1 : H} {v : Value} (hh : f72 rn k v0 v1 h = some (v, h1)) (hp : plainO v = false) : rn 72 #[v0, v1] h = some (v, h1) := by rw [t72 hh, trunc_not hp]

noncomputable def f73 (_rec : Rec) (_k : Nat) (n0 : Int) (n1 : Int) (h0 : H) : Option (Value × H) :=
  nz n1 (
    nz n1 (
      nz n1 (
        some ((.int .i64 (quo .i64 (sub .i64 n0 (rem .i64 (add .i64 (rem .i64 n0 n1) n1) n1)) n1)), h0))))

theorem e73 (rec : Rec) (k : Nat) (n0 : Int) (n1 : Int) (h : H) : bodyT Try.prog E0 SC (XC Try.prog rec k) 73 (Value × H) [.int .i64 n0, .int .i64 n1] h (fun v h => some (v, h)) = f73 rec k n0 n1 h := by kernel_rfl

theorem t73 {k : Nat} {n0 : Int} {n1 : Int} {h h1 : H} {v : Value} (hh : f73 rn k n0 n1 h = some (v, h1)) : rn 73 #[.int .i64 n0, .int .i64 n1] h = some (v, trunc Try.prog h h1 v) :=
  run_of_bodyT (args := [.int .i64 n0, .int .i64 n1]) rfl ((e73 _ _ _ _ _).trans hh)

theorem p73 {k : Nat} {n0 : Int} {n1 : Int} {h h1 : H} {v : Value} (hh : f73 rn k n0 n1 h = some (v, h1)) (hp : plainO v = true) (x : Ext h h1) : rn 73 #[.int .i64 n0, .int .i64 n1] h = some (v, h) := by rw [t73 hh, trunc_pure hp x]

noncomputable def f74 (_rec : Rec) (_k : Nat) (v0 : Value) (n0 : Int) (h0 : H) : Option (Value × H) :=
  bx h0 47 v0 fun h1 =>
  ifB (eq n0 0) (
    some ((.tuple #[(.int .i64 (-1)), (.int .i64 (-1))]), h1)) (
    ifB (lt (sub .i64 (imax n0 (sub .i64 0 n0)) 1) 0) (
      some ((.tuple #[(.int .i64 (-1)), (.int .i64 (-1))]), h1)) (
      ld Try.prog h1 45 (nx h0) (off 0 2) fun v1 =>
      len v1 fun n1 =>
      ifB (le n1 (sub .i64 (imax n0 (sub .i64 0 n0)) 1)) (
        some ((.tuple #[(.int .i64 (-1)), (.int .i64 (-1))]), h1)) (
        ifB (lt 0 n0) (
          ld Try.prog h1 45 (nx h0) (off 0 2) fun v2 =>
          six v2 (sub .i64 (imax n0 (sub .i64 0 n0)) 1) 4 fun b0 b1 =>
          ld Try.prog h1 3 b0 b1 fun v3 =>
          asI .i64 v3 fun n2 =>
          ld Try.prog h1 45 (nx h0) (off 0 2) fun v4 =>
          six v4 (sub .i64 (imax n0 (sub .i64 0 n0)) 1) 4 fun b2 b3 =>
          ld Try.prog h1 3 b2 (off b3 1) fun v5 =>
          asI .i64 v5 fun n3 =>
          some ((.tuple #[(.int .i64 n2), (.int .i64 n3)]), h1)) (
          ld Try.prog h1 45 (nx h0) (off 0 2) fun v6 =>
          six v6 (sub .i64 (imax n0 (sub .i64 0 n0)) 1) 4 fun b4 b5 =>
          ld Try.prog h1 3 b4 (off b5 1) fun v7 =>
          asI .i64 v7 fun n4 =>
          ld Try.prog h1 45 (nx h0) (off 0 2) fun v8 =>
          six v8 (sub .i64 (imax n0 (sub .i64 0 n0)) 1) 4 fun b6 b7 =>
          ld Try.prog h1 3 b6 b7 fun v9 =>
          asI .i64 v9 fun n5 =>
          some ((.tuple #[(.int .i64 n4), (.int .i64 n5)]), h1)))))

theorem e74 (rec : Rec) (k : Nat) (v0 : Value) (n0 : Int) (h : H) : bodyT Try.prog E0 SC (XC Try.prog rec k) 74 (Value × H) [.opq v0, .int .i64 n0] h (fun v h => some (v, h)) = f74 rec k v0 n0 h := by kernel_rfl

noncomputable def f80 (rec : Rec) (_k : Nat) (v0 : Value) (v1 : Value) (h0 : H) : Option (Value × H) :=
  calls rec h0 99 [v0, v1] fun v2 h1 =>
  asI .i64 v2 fun n0 =>
  some ((.bool (le 0 n0)), h1)

theorem e80 (rec : Rec) (k : Nat) (v0 : Value) (v1 : Value) (h : H) : bodyT Try.prog E0 SC (XC Try.prog rec k) 80 (Value × H) [.opq v0, .opq v1] h (fun v h => some (v, h)) = f80 rec k v0 v1 h := by kernel_rfl

theorem t80 {k : Nat} {v0 : Value} {v1 : Value} {h h1 : H} {v : Value} (hh : f80 rn k v0 v1 h = some (v, h1)) : rn 80 #[v0, v1] h = some (v, trunc Try.prog h h1 v) :=
  run_of_bodyT (args := [.opq v0, .opq v1]) rfl ((e80 _ _ _ _ _).trans hh)

theorem p80 {k : Nat} {v0 : Value} {v1 : Value} {h h1 : H} {v : Value} (hh : f80 rn k v0 v1 h = some (v, h1)) (hp : plainO v = true) (x : Ext h h1) : rn 80 #[v0, v1] h = some (v, h) := by rw [t80 hh, trunc_pure hp x]

noncomputable def f92 (_rec : Rec) (_k : Nat) (v0 : Value) (v1 : Value) (h0 : H) : Option (Value × H) :=
  bx h0 67 v0 fun h1 =>
  ld Try.prog h1 3 (nx h0) 0 fun v2 =>
  asI .i64 v2 fun n0 =>
  ld Try.prog h1 3 (nx h0) (off 0 1) fun v3 =>
  asI .i64 v3 fun n1 =>
  ifB (lt (imin n0 n1) 0) (
    some ((.bool true), h1)) (
    ld Try.prog h1 3 (nx h0) 0 fun v4 =>
    asI .i64 v4 fun n2 =>
    ld Try.prog h1 3 (nx h0) (off 0 1) fun v5 =>
    asI .i64 v5 fun n3 =>
    asP v1 fun b0 b1 =>
    ld Try.prog h1 3 b0 (off b1 1) fun v6 =>
    asI .i64 v6 fun n4 =>
    ifB (le n4 (imax n2 n3)) (
      some ((.bool true), h1)) (
      ld Try.prog h1 3 (nx h0) 0 fun v7 =>
      asI .i64 v7 fun n5 =>
      ld Try.prog h1 3 (nx h0) (off 0 1) fun v8 =>
      asI .i64 v8 fun n6 =>
      ifB (eq n5 n6) (
        some ((.bool true), h1)) (
        ld Try.prog h1 3 (nx h0) (off 0 2) fun v9 =>
        asI .i64 v9 fun n7 =>
        ifB (lt n7 0) (
          some ((.bool true), h1)) (
          ld Try.prog h1 3 (nx h0) (off 0 2) fun v10 =>
          asI .i64 v10 fun n8 =>
          ifB (lt 11 n8) (
            some ((.bool true), h1)) (
            ld Try.prog h1 3 (nx h0) (off 0 3) fun v11 =>
            asI .i64 v11 fun n9 =>
            ld Try.prog h1 3 (nx h0) (off 0 2) fun v12 =>
            asI .i64 v12 fun n10 =>
            ifB (lt n9 n10) (
              some ((.bool true), h1)) (
              ld Try.prog h1 3 (nx h0) (off 0 3) fun v13 =>
              asI .i64 v13 fun n11 =>
              ld Try.prog h1 3 (nx h0) (off 0 2) fun v14 =>
              asI .i64 v14 fun n12 =>
              some ((.bool (lt (add .i64 n12 11) n11)), h1)))))))

theorem e92 (rec : Rec) (k : Nat) (v0 : Value) (v1 : Value) (h : H) : bodyT Try.prog E0 SC (XC Try.prog rec k) 92 (Value × H) [.opq v0, .opq v1] h (fun v h => some (v, h)) = f92 rec k v0 v1 h := by kernel_rfl

theorem t92 {k : Nat} {v0 : Value} {v1 : Value} {h h1 : H} {v : Value} (hh : f92 rn k v0 v1 h = some (v, h1)) : rn 92 #[v0, v1] h = some (v, trunc Try.prog h h1 v) :=
  run_of_bodyT (args := [.opq v0, .opq v1]) rfl ((e92 _ _ _ _ _).trans hh)

theorem p92 {k : Nat} {v0 : Value} {v1 : Value} {h h1 : H} {v : Value} (hh : f92 rn k v0 v1 h = some (v, h1)) (hp : plainO v = true) (x : Ext h h1) : rn 92 #[v0, v1] h = some (v, h) := by rw [t92 hh, trunc_pure hp x]

noncomputable def f93 (_rec : Rec) (_k : Nat) (v0 : Value) (h0 : H) : Option (Value × H) :=
  bx h0 88 v0 fun h1 =>
  ld Try.prog h1 4 (nx h0) (off 0 4) fun v1 =>
  asB v1 fun q0 =>
  ifB q0 (
    ld Try.prog h1 3 (nx h0) 0 fun v2 =>
    asI .i64 v2 fun n0 =>
    some ((.int .i64 n0), h1)) (
    ld Try.prog h1 3 (nx h0) (off 0 1) fun v3 =>
    asI .i64 v3 fun n1 =>
    some ((.int .i64 n1), h1))

theorem e93 (rec : Rec) (k : Nat) (v0 : Value) (h : H) : bodyT Try.prog E0 SC (XC Try.prog rec k) 93 (Value × H) [.opq v0] h (fun v h => some (v, h)) = f93 rec k v0 h := by kernel_rfl

theorem t93 {k : Nat} {v0 : Value} {h h1 : H} {v : Value} (hh : f93 rn k v0 h = some (v, h1)) : rn 93 #[v0] h = some (v, trunc Try.prog h h1 v) :=
  run_of_bodyT (args := [.opq v0]) rfl ((e93 _ _ _ _).trans hh)

theorem p93 {k : Nat} {v0 : Value} {h h1 : H} {v : Value} (hh : f93 rn k v0 h = some (v, h1)) (hp : plainO v = true) (x : Ext h h1) : rn 93 #[v0] h = some (v, h) := by rw [t93 hh, trunc_pure hp x]

noncomputable def f94 (_rec : Rec) (_k : Nat) (v0 : Value) (h0 : H) : Option (Value × H) :=
  bx h0 88 v0 fun h1 =>
  ld Try.prog h1 4 (nx h0) (off 0 4) fun v1 =>
  asB v1 fun q0 =>
  ifB q0 (
    ld Try.prog h1 3 (nx h0) (off 0 1) fun v2 =>
    asI .i64 v2 fun n0 =>
    some ((.int .i64 n0), h1)) (
    ld Try.prog h1 3 (nx h0) 0 fun v3 =>
    asI .i64 v3 fun n1 =>
    some ((.int .i64 n1), h1))

theorem e94 (rec : Rec) (k : Nat) (v0 : Value) (h : H) : bodyT Try.prog E0 SC (XC Try.prog rec k) 94 (Value × H) [.opq v0] h (fun v h => some (v, h)) = f94 rec k v0 h := by kernel_rfl

theorem t94 {k : Nat} {v0 : Value} {h h1 : H} {v : Value} (hh : f94 rn k v0 h = some (v, h1)) : rn 94 #[v0] h = some (v, trunc Try.prog h h1 v) :=
  run_of_bodyT (args := [.opq v0]) rfl ((e94 _ _ _ _).trans hh)

theorem p94 {k : Nat} {v0 : Value} {h h1 : H} {v : Value} (hh : f94 rn k v0 h = some (v, h1)) (hp : plainO v = true) (x : Ext h h1) : rn 94 #[v0] h = some (v, h) := by rw [t94 hh, trunc_pure hp x]

noncomputable def f99_l1 (rec : Rec) (_k : Nat) (v0 : Value) (v1 : Value) (n0 : Int) (ws0 : List Value) (h1 : H) : Option (Ex × List Value × H) :=
  asI .i64 (gv ws0 1) fun n1 =>
  ifB (lt n1 n0) (
    asK (gv ws0 1) fun n2 =>
    six v0 n2 4 fun b0 b1 =>
    ld Try.prog h1 67 b0 b1 fun v2 =>
    callsV rec h1 v1 [v2] fun v3 h2 =>
    asB v3 fun q0 =>
    ifB q0 (
      out .ret [gv ws0 1, gv ws0 1] h2) (
      asI .i64 (gv ws0 1) fun n3 =>
      out .normal [gv ws0 0, (.int .i64 (add .i64 n3 1))] h2)) (
    out (.exit 0) [gv ws0 0, gv ws0 1] h1)

noncomputable def f99 (rec : Rec) (k : Nat) (v0 : Value) (v1 : Value) (h0 : H) : Option (Value × H) :=
  len v0 fun n0 =>
  lp k (f99_l1 rec k v0 v1 n0) [(.int .i64 0), (.int .i64 0)] h0 fun e0 ws1 h3 =>
  onE e0 0 (
    some ((.int .i64 (-1)), h3)) (
    onR e0 (
      some (gv ws1 0, h3)))

theorem e99 (rec : Rec) (k : Nat) (v0 : Value) (v1 : Value) (h : H) : bodyT Try.prog E0 SC (XC Try.prog rec k) 99 (Value × H) [.opq v0, .opq v1] h (fun v h => some (v, h)) = f99 rec k v0 v1 h := by kernel_rfl

theorem t99 {k : Nat} {v0 : Value} {v1 : Value} {h h1 : H} {v : Value} (hh : f99 rn k v0 v1 h = some (v, h1)) : rn 99 #[v0, v1] h = some (v, trunc Try.prog h h1 v) :=
  run_of_bodyT (args := [.opq v0, .opq v1]) rfl ((e99 _ _ _ _ _).trans hh)

theorem p99 {k : Nat} {v0 : Value} {v1 : Value} {h h1 : H} {v : Value} (hh : f99 rn k v0 v1 h = some (v, h1)) (hp : plainO v = true) (x : Ext h h1) : rn 99 #[v0, v1] h = some (v, h) := by rw [t99 hh, trunc_pure hp x]

noncomputable def f10 (rec : Rec) (_k : Nat) (v0 : Value) (v1 : Value) (h0 : H) : Option (Value × H) :=
  bx h0 47 v0 fun h1 =>
  ld Try.prog h1 47 (nx h0) 0 fun v2 =>
  calls rec h1 37 [v2] fun v3 h2 =>
  calls rec h2 18 [v1] fun v4 h3 =>
  calls rec h3 36 [v3, v4] fun v5 h4 =>
  ext v5 0 fun v6 =>
  asI .i64 v6 fun n0 =>
  ext v5 1 fun v7 =>
  asI .i64 v7 fun n1 =>
  ext v5 2 fun v8 =>
  asI .i64 v8 fun n2 =>
  ld Try.prog h4 47 (nx h0) 0 fun v9 =>
  calls rec h4 38 [v9] fun v10 h5 =>
  asB v10 fun q0 =>
  ifB (not q0) (
    ifB (eq n0 0) (
      ifB (eq n1 0) (
        ifB (eq n2 2) (
          calls rec h5 19 [] fun v11 h6 =>
          asB v11 fun q1 =>
          some ((.bool q1), h6)) (
          some ((.bool false), h5))) (
        some ((.bool false), h5))) (
      some ((.bool false), h5))) (
    ld Try.prog h5 47 (nx h0) 0 fun v12 =>
    calls rec h5 39 [v12, v1] fun v13 h7 =>
    asB v13 fun q2 =>
    ifB (not q2) (
      ifB (eq n0 0) (
        ifB (eq n1 0) (
          ifB (eq n2 2) (
            calls rec h7 19 [] fun v14 h8 =>
            asB v14 fun q3 =>
            some ((.bool q3), h8)) (
            some ((.bool false), h7))) (
          some ((.bool false), h7))) (
        some ((.bool false), h7))) (
      ld Try.prog h7 47 (nx h0) 0 fun v15 =>
      calls rec h7 40 [v15, v1] fun v16 h9 =>
      ext v16 0 fun v17 =>
      asI .i64 v17 fun n3 =>
      ext v16 1 fun v18 =>
      asI .i64 v18 fun n4 =>
      ext v16 2 fun v19 =>
      asI .i64 v19 fun n5 =>
      ifB (eq n0 n3) (
        ifB (eq n1 n4) (
          ifB (eq n2 n5) (
            calls rec h9 19 [] fun v20 h10 =>
            asB v20 fun q4 =>
            some ((.bool q4), h10)) (
            some ((.bool false), h9))) (
          some ((.bool false), h9))) (
        some ((.bool false), h9))))

theorem e10 (rec : Rec) (k : Nat) (v0 : Value) (v1 : Value) (h : H) : bodyT Try.prog E0 SC (XC Try.prog rec k) 10 (Value × H) [.opq v0, .opq v1] h (fun v h => some (v, h)) = f10 rec k v0 v1 h := by kernel_rfl

theorem t10 {k : Nat} {v0 : Value} {v1 : Value} {h h1 : H} {v : Value} (hh : f10 rn k v0 v1 h = some (v, h1)) : rn 10 #[v0, v1] h = some (v, trunc Try.prog h h1 v) :=
  run_of_bodyT (args := [.opq v0, .opq v1]) rfl ((e10 _ _ _ _ _).trans hh)

theorem x10 {k : Nat} {v0 : Value} {v1 : Value} {h h1 : H} {v : Value} (hh : f10 rn k v0 v1 h = some (v, h1)) (hp : plainO v = false) : rn 10 #[v0, v1] h = some (v, h1) := by rw [t10 hh, trunc_not hp]

noncomputable def f36_l1 (_rec : Rec) (_k : Nat) (v6 : Value) (n0 : Int) (ws0 : List Value) (h4 : H) : Option (Ex × List Value × H) :=
  asI .i64 (gv ws0 2) fun n1 =>
  ifB (lt n1 n0) (
    asK (gv ws0 2) fun n2 =>
    six v6 n2 5 fun b0 b1 =>
    ld Try.prog h4 88 b0 b1 fun v8 =>
    al h4 88 [(.int .i64 0), (.int .i64 0), (.int .i64 0), (.int .i64 0), (.bool false)] fun h5 =>
    st Try.prog h5 88 (nx h4) 0 v8 fun h6 =>
    ld Try.prog h6 4 (nx h4) (off 0 4) fun v9 =>
    asB v9 fun q2 =>
    ifB q2 (
      ld Try.prog h6 3 (nx h4) (off 0 3) fun v10 =>
      asI .i64 v10 fun n3 =>
      asI .i64 (gv ws0 0) fun n4 =>
      ld Try.prog h6 3 (nx h4) (off 0 2) fun v11 =>
      asI .i64 v11 fun n5 =>
      asI .i64 (gv ws0 1) fun n6 =>
      asI .i64 (gv ws0 2) fun n7 =>
      out .normal [(.int .i64 (sub .i64 n4 n3)), (.int .i64 (sub .i64 n6 n5)), (.int .i64 (add .i64 n7 1))] h6) (
      ld Try.prog h6 3 (nx h4) (off 0 2) fun v12 =>
      asI .i64 v12 fun n8 =>
      asI .i64 (gv ws0 0) fun n9 =>
      ld Try.prog h6 3 (nx h4) (off 0 3) fun v13 =>
      asI .i64 v13 fun n10 =>
      asI .i64 (gv ws0 1) fun n11 =>
      asI .i64 (gv ws0 2) fun n12 =>
      out .normal [(.int .i64 (add .i64 n9 n8)), (.int .i64 (add .i64 n11 n10)), (.int .i64 (add .i64 n12 1))] h6)) (
    out (.exit 0) [gv ws0 0, gv ws0 1, gv ws0 2] h4)

noncomputable def f36 (rec : Rec) (k : Nat) (v0 : Value) (v1 : Value) (h0 : H) : Option (Value × H) :=
  bx h0 52 v0 fun h1 =>
  ld Try.prog h1 52 (nx h0) 0 fun v2 =>
  calls rec h1 71 [v2] fun v3 h2 =>
  asB v3 fun q0 =>
  ifB (not q0) (
    some ((.tuple #[(.int .i64 0), (.int .i64 0), (.int .i64 2)]), h2)) (
    ld Try.prog h2 52 (nx h0) 0 fun v4 =>
    calls rec h2 72 [v4, v1] fun v5 h3 =>
    ext v5 0 fun v6 =>
    ext v5 1 fun v7 =>
    asB v7 fun q1 =>
    ifB (not q1) (
      some ((.tuple #[(.int .i64 0), (.int .i64 0), (.int .i64 2)]), h3)) (
      len v6 fun n0 =>
      lp k (f36_l1 rec k v6 n0) [(.int .i64 0), (.int .i64 0), (.int .i64 0)] h3 fun e0 ws1 h7 =>
      onE e0 0 (
        asI .i64 (gv ws1 0) fun n13 =>
        ld Try.prog h7 3 (nx h0) 0 fun v14 =>
        asI .i64 v14 fun n14 =>
        calls rec h7 73 [(.int .i64 (sub .i64 0 n13)), (.int .i64 n14)] fun v15 h8 =>
        asI .i64 v15 fun n15 =>
        ld Try.prog h8 3 (nx h0) 0 fun v16 =>
        asI .i64 v16 fun n16 =>
        ck (freq (nx h0) (nx h7) (same h8 h7)) (
          calls rec h8 73 [gv ws1 1, (.int .i64 n16)] fun v17 h9 =>
          asI .i64 v17 fun n17 =>
          ifB (lt n17 (sub .i64 0 n15)) (
            some ((.tuple #[(.int .i64 0), (.int .i64 0), (.int .i64 4)]), h9)) (
            some ((.tuple #[(.int .i64 (sub .i64 0 n15)), (.int .i64 n17), (.int .i64 0)]), h9)))) (
        none)))

theorem e36 (rec : Rec) (k : Nat) (v0 : Value) (v1 : Value) (h : H) : bodyT Try.prog E0 SC (XC Try.prog rec k) 36 (Value × H) [.opq v0, .opq v1] h (fun v h => some (v, h)) = f36 rec k v0 v1 h := by kernel_rfl

theorem t36 {k : Nat} {v0 : Value} {v1 : Value} {h h1 : H} {v : Value} (hh : f36 rn k v0 v1 h = some (v, h1)) : rn 36 #[v0, v1] h = some (v, trunc Try.prog h h1 v) :=
  run_of_bodyT (args := [.opq v0, .opq v1]) rfl ((e36 _ _ _ _ _).trans hh)

theorem p36 {k : Nat} {v0 : Value} {v1 : Value} {h h1 : H} {v : Value} (hh : f36 rn k v0 v1 h = some (v, h1)) (hp : plainO v = true) (x : Ext h h1) : rn 36 #[v0, v1] h = some (v, h) := by rw [t36 hh, trunc_pure hp x]

noncomputable def f37_l1 (_rec : Rec) (_k : Nat) (h2 : H) (v4 : Value) (n2 : Int) (ws0 : List Value) (h5 : H) : Option (Ex × List Value × H) :=
  asI .i64 (gv ws0 0) fun n3 =>
  ifB (lt n3 n2) (
    asK (gv ws0 0) fun n4 =>
    six v4 n4 4 fun b0 b1 =>
    ld Try.prog h5 89 b0 b1 fun v5 =>
    al h5 89 [(.int .i64 0), (.int .i64 0), (.int .i64 0), (.int .i64 0)] fun h6 =>
    st Try.prog h6 89 (nx h5) 0 v5 fun h7 =>
    asI .i64 (gv ws0 0) fun n5 =>
    ifB (lt n5 14) (
      ld Try.prog h7 50 (nx h2) (off 0 2) fun v6 =>
      ld Try.prog h7 3 (nx h5) 0 fun v7 =>
      asI .i64 v7 fun n6 =>
      ld Try.prog h7 3 (nx h5) (off 0 1) fun v8 =>
      asI .i64 v8 fun n7 =>
      ld Try.prog h7 3 (nx h5) (off 0 2) fun v9 =>
      asI .i64 v9 fun n8 =>
      ld Try.prog h7 3 (nx h5) (off 0 3) fun v10 =>
      asI .i64 v10 fun n9 =>
      bld Try.prog 67 [(0, (.int .i64 n6)), (1, (.int .i64 n7)), (2, (.int .i64 n8)), (3, (.int .i64 n9))] fun v11 =>
      bls Try.prog h7 50 1 [(0, v11)] fun v12 h8 =>
      app Try.prog h8 50 50 v6 v12 fun v13 h9 =>
      st Try.prog h9 50 (nx h2) (off 0 2) v13 fun h10 =>
      asI .i64 (gv ws0 0) fun n10 =>
      out .normal [(.int .i64 (add .i64 n10 1))] h10) (
      asI .i64 (gv ws0 0) fun n11 =>
      out .normal [(.int .i64 (add .i64 n11 1))] h7)) (
    out (.exit 0) [gv ws0 0] h5)

noncomputable def f37 (rec : Rec) (k : Nat) (v0 : Value) (h0 : H) : Option (Value × H) :=
  bx h0 47 v0 fun h1 =>
  al h1 52 [(.int .i64 0), (.int .i64 0), (.slice none 0 0)] fun h2 =>
  ld Try.prog h2 3 (nx h0) 0 fun v1 =>
  asI .i64 v1 fun n0 =>
  ld Try.prog h2 3 (nx h0) (off 0 1) fun v2 =>
  asI .i64 v2 fun n1 =>
  bld Try.prog 52 [(0, (.int .i64 n0)), (1, (.int .i64 n1))] fun v3 =>
  al h2 52 [(.int .i64 0), (.int .i64 0), (.slice none 0 0)] fun h3 =>
  st Try.prog h3 52 (nx h2) 0 v3 fun h4 =>
  ld Try.prog h4 45 (nx h0) (off 0 2) fun v4 =>
  len v4 fun n2 =>
  lp k (f37_l1 rec k h2 v4 n2) [(.int .i64 0)] h4 fun e0 _ h11 =>
  onE e0 0 (
    ld Try.prog h11 52 (nx h2) 0 fun v14 =>
    st Try.prog h11 52 (nx h1) 0 v14 fun h12 =>
    ld Try.prog h12 52 (nx h1) 0 fun v15 =>
    some (v15, h12)) (
    none)

theorem e37 (rec : Rec) (k : Nat) (v0 : Value) (h : H) : bodyT Try.prog E0 SC (XC Try.prog rec k) 37 (Value × H) [.opq v0] h (fun v h => some (v, h)) = f37 rec k v0 h := by kernel_rfl

theorem t37 {k : Nat} {v0 : Value} {h h1 : H} {v : Value} (hh : f37 rn k v0 h = some (v, h1)) : rn 37 #[v0] h = some (v, trunc Try.prog h h1 v) :=
  run_of_bodyT (args := [.opq v0]) rfl ((e37 _ _ _ _).trans hh)

theorem x37 {k : Nat} {v0 : Value} {h h1 : H} {v : Value} (hh : f37 rn k v0 h = some (v, h1)) (hp : plainO v = false) : rn 37 #[v0] h = some (v, h1) := by rw [t37 hh, trunc_not hp]

noncomputable def f38_l1 (_rec : Rec) (_k : Nat) (h0 : H) (v6 : Value) (n5 : Int) (ws0 : List Value) (h2 : H) : Option (Ex × List Value × H) :=
  asI .i64 (gv ws0 1) fun n6 =>
  ifB (lt n6 n5) (
    asK (gv ws0 1) fun n7 =>
    six v6 n7 4 fun b0 b1 =>
    ld Try.prog h2 89 b0 b1 fun v7 =>
    al h2 89 [(.int .i64 0), (.int .i64 0), (.int .i64 0), (.int .i64 0)] fun h3 =>
    st Try.prog h3 89 (nx h2) 0 v7 fun h4 =>
    ld Try.prog h4 3 (nx h2) 0 fun v8 =>
    asI .i64 v8 fun n8 =>
    ifB (lt n8 0) (
      out .ret [(.bool false), gv ws0 1] h4) (
      ld Try.prog h4 3 (nx h2) 0 fun v9 =>
      asI .i64 v9 fun n9 =>
      ld Try.prog h4 3 (nx h0) (off 0 1) fun v10 =>
      asI .i64 v10 fun n10 =>
      ifB (le n10 n9) (
        out .ret [(.bool false), gv ws0 1] h4) (
        ld Try.prog h4 3 (nx h2) (off 0 1) fun v11 =>
        asI .i64 v11 fun n11 =>
        ifB (lt n11 0) (
          out .ret [(.bool false), gv ws0 1] h4) (
          ld Try.prog h4 3 (nx h2) (off 0 1) fun v12 =>
          asI .i64 v12 fun n12 =>
          ld Try.prog h4 3 (nx h0) (off 0 1) fun v13 =>
          asI .i64 v13 fun n13 =>
          ifB (le n13 n12) (
            out .ret [(.bool false), gv ws0 1] h4) (
            ld Try.prog h4 3 (nx h2) 0 fun v14 =>
            asI .i64 v14 fun n14 =>
            ld Try.prog h4 3 (nx h2) (off 0 1) fun v15 =>
            asI .i64 v15 fun n15 =>
            ifB (eq n14 n15) (
              out .ret [(.bool false), gv ws0 1] h4) (
              ld Try.prog h4 3 (nx h2) (off 0 2) fun v16 =>
              asI .i64 v16 fun n16 =>
              ifB (lt n16 0) (
                out .ret [(.bool false), gv ws0 1] h4) (
                ld Try.prog h4 3 (nx h2) (off 0 2) fun v17 =>
                asI .i64 v17 fun n17 =>
                ifB (lt 11 n17) (
                  out .ret [(.bool false), gv ws0 1] h4) (
                  ld Try.prog h4 3 (nx h2) (off 0 3) fun v18 =>
                  asI .i64 v18 fun n18 =>
                  ld Try.prog h4 3 (nx h2) (off 0 2) fun v19 =>
                  asI .i64 v19 fun n19 =>
                  ifB (lt n18 n19) (
                    out .ret [(.bool false), gv ws0 1] h4) (
                    ld Try.prog h4 3 (nx h2) (off 0 3) fun v20 =>
                    asI .i64 v20 fun n20 =>
                    ld Try.prog h4 3 (nx h2) (off 0 2) fun v21 =>
                    asI .i64 v21 fun n21 =>
                    ifB (lt (add .i64 n21 11) n20) (
                      out .ret [(.bool false), gv ws0 1] h4) (
                      asI .i64 (gv ws0 1) fun n22 =>
                      out .normal [gv ws0 0, (.int .i64 (add .i64 n22 1))] h4)))))))))) (
    out (.exit 0) [gv ws0 0, gv ws0 1] h2)

noncomputable def f38 (rec : Rec) (k : Nat) (v0 : Value) (h0 : H) : Option (Value × H) :=
  bx h0 47 v0 fun h1 =>
  ld Try.prog h1 3 (nx h0) 0 fun v1 =>
  asI .i64 v1 fun n0 =>
  ifB (lt n0 1) (
    some ((.bool false), h1)) (
    ld Try.prog h1 3 (nx h0) 0 fun v2 =>
    asI .i64 v2 fun n1 =>
    ifB (lt 12 n1) (
      some ((.bool false), h1)) (
      ld Try.prog h1 3 (nx h0) (off 0 1) fun v3 =>
      asI .i64 v3 fun n2 =>
      ifB (lt n2 1) (
        some ((.bool false), h1)) (
        ld Try.prog h1 3 (nx h0) (off 0 1) fun v4 =>
        asI .i64 v4 fun n3 =>
        ifB (lt 6 n3) (
          some ((.bool false), h1)) (
          ld Try.prog h1 45 (nx h0) (off 0 2) fun v5 =>
          len v5 fun n4 =>
          ifB (lt 12 n4) (
            some ((.bool false), h1)) (
            ld Try.prog h1 45 (nx h0) (off 0 2) fun v6 =>
            len v6 fun n5 =>
            lp k (f38_l1 rec k h0 v6 n5) [(.bool false), (.int .i64 0)] h1 fun e0 ws1 h5 =>
            onE e0 0 (
              some ((.bool true), h5)) (
              onR e0 (
                some (gv ws1 0, h5))))))))

theorem e38 (rec : Rec) (k : Nat) (v0 : Value) (h : H) : bodyT Try.prog E0 SC (XC Try.prog rec k) 38 (Value × H) [.opq v0] h (fun v h => some (v, h)) = f38 rec k v0 h := by kernel_rfl

theorem t38 {k : Nat} {v0 : Value} {h h1 : H} {v : Value} (hh : f38 rn k v0 h = some (v, h1)) : rn 38 #[v0] h = some (v, trunc Try.prog h h1 v) :=
  run_of_bodyT (args := [.opq v0]) rfl ((e38 _ _ _ _).trans hh)

theorem x38 {k : Nat} {v0 : Value} {h h1 : H} {v : Value} (hh : f38 rn k v0 h = some (v, h1)) (hp : plainO v = false) : rn 38 #[v0] h = some (v, h1) := by rw [t38 hh, trunc_not hp]

noncomputable def f39_l1 (rec : Rec) (_k : Nat) (v1 : Value) (h0 : H) (n0 : Int) (ws0 : List Value) (h2 : H) : Option (Ex × List Value × H) :=
  asI .i64 (gv ws0 2) fun n1 =>
  ifB (lt n1 n0) (
    asK (gv ws0 2) fun n2 =>
    six v1 n2 1 fun b0 b1 =>
    ld Try.prog h2 3 b0 b1 fun v2 =>
    asI .i64 v2 fun n3 =>
    ifB (eq n3 0) (
      out .ret [(.bool false), gv ws0 1, gv ws0 2] h2) (
      ifB (lt (sub .i64 (imax n3 (sub .i64 0 n3)) 1) 0) (
        out .ret [(.bool false), gv ws0 1, gv ws0 2] h2) (
        ld Try.prog h2 45 (nx h0) (off 0 2) fun v3 =>
        len v3 fun n4 =>
        ifB (le n4 (sub .i64 (imax n3 (sub .i64 0 n3)) 1)) (
          out .ret [(.bool false), gv ws0 1, gv ws0 2] h2) (
          asI .i64 (gv ws0 1) fun n5 =>
          nn (sub .i64 (imax n3 (sub .i64 0 n3)) 1) (
            ifB (eq (and .i64 (shr .i64 n5 (sub .i64 (imax n3 (sub .i64 0 n3)) 1)) 1) 1) (
              out .ret [(.bool false), gv ws0 1, gv ws0 2] h2) (
              nn (sub .i64 (imax n3 (sub .i64 0 n3)) 1) (
                asI .i64 (gv ws0 1) fun n6 =>
                ld Try.prog h2 47 (nx h0) 0 fun v4 =>
                calls rec h2 74 [v4, (.int .i64 n3)] fun v5 h3 =>
                ext v5 0 fun v6 =>
                asI .i64 v6 fun _ =>
                ext v5 1 fun v7 =>
                asI .i64 v7 fun n8 =>
                ld Try.prog h3 47 (nx h0) 0 fun v8 =>
                asI .i64 (gv ws0 2) fun n9 =>
                len v1 fun n10 =>
                nz n10 (
                  six v1 (rem .i64 (add .i64 n9 1) n10) 1 fun b2 b3 =>
                  ld Try.prog h3 3 b2 b3 fun v9 =>
                  asI .i64 v9 fun n11 =>
                  calls rec h3 74 [v8, (.int .i64 n11)] fun v10 h4 =>
                  ext v10 0 fun v11 =>
                  asI .i64 v11 fun n12 =>
                  ext v10 1 fun v12 =>
                  asI .i64 v12 fun _ =>
                  ifB (not (eq n12 n8)) (
                    out .ret [(.bool false), (.int .i64 (or .i64 n6 (shl .i64 1 (sub .i64 (imax n3 (sub .i64 0 n3)) 1)))), gv ws0 2] h4) (
                    asI .i64 (gv ws0 2) fun n14 =>
                    out .normal [gv ws0 0, (.int .i64 (or .i64 n6 (shl .i64 1 (sub .i64 (imax n3 (sub .i64 0 n3)) 1)))), (.int .i64 (add .i64 n14 1))] h4))))))))) (
    out (.exit 0) [gv ws0 0, gv ws0 1, gv ws0 2] h2)

noncomputable def f39 (rec : Rec) (k : Nat) (v0 : Value) (v1 : Value) (h0 : H) : Option (Value × H) :=
  bx h0 47 v0 fun h1 =>
  len v1 fun n0 =>
  lp k (f39_l1 rec k v1 h0 n0) [(.bool false), (.int .i64 0), (.int .i64 0)] h1 fun e0 ws1 h5 =>
  onE e0 0 (
    len v1 fun n15 =>
    ifB (le 1 n15) (
      len v1 fun n16 =>
      some ((.bool (le n16 12)), h5)) (
      some ((.bool false), h5))) (
    onR e0 (
      some (gv ws1 0, h5)))

theorem e39 (rec : Rec) (k : Nat) (v0 : Value) (v1 : Value) (h : H) : bodyT Try.prog E0 SC (XC Try.prog rec k) 39 (Value × H) [.opq v0, .opq v1] h (fun v h => some (v, h)) = f39 rec k v0 v1 h := by kernel_rfl

noncomputable def f40_l1 (_rec : Rec) (_k : Nat) (v1 : Value) (h0 : H) (n0 : Int) (ws0 : List Value) (h2 : H) : Option (Ex × List Value × H) :=
  asI .i64 (gv ws0 2) fun n1 =>
  ifB (lt n1 n0) (
    asK (gv ws0 2) fun n2 =>
    six v1 n2 1 fun b0 b1 =>
    ld Try.prog h2 3 b0 b1 fun v2 =>
    asI .i64 v2 fun n3 =>
    ld Try.prog h2 45 (nx h0) (off 0 2) fun v3 =>
    six v3 (sub .i64 (imax n3 (sub .i64 0 n3)) 1) 4 fun b2 b3 =>
    ld Try.prog h2 89 b2 b3 fun v4 =>
    al h2 89 [(.int .i64 0), (.int .i64 0), (.int .i64 0), (.int .i64 0)] fun h3 =>
    st Try.prog h3 89 (nx h2) 0 v4 fun h4 =>
    ifB (lt 0 n3) (
      ld Try.prog h4 3 (nx h2) (off 0 2) fun v5 =>
      asI .i64 v5 fun n4 =>
      asI .i64 (gv ws0 0) fun n5 =>
      ld Try.prog h4 3 (nx h2) (off 0 3) fun v6 =>
      asI .i64 v6 fun n6 =>
      asI .i64 (gv ws0 1) fun n7 =>
      asI .i64 (gv ws0 2) fun n8 =>
      out .normal [(.int .i64 (add .i64 n5 n4)), (.int .i64 (add .i64 n7 n6)), (.int .i64 (add .i64 n8 1))] h4) (
      ld Try.prog h4 3 (nx h2) (off 0 3) fun v7 =>
      asI .i64 v7 fun n9 =>
      asI .i64 (gv ws0 0) fun n10 =>
      ld Try.prog h4 3 (nx h2) (off 0 2) fun v8 =>
      asI .i64 v8 fun n11 =>
      asI .i64 (gv ws0 1) fun n12 =>
      asI .i64 (gv ws0 2) fun n13 =>
      out .normal [(.int .i64 (sub .i64 n10 n9)), (.int .i64 (sub .i64 n12 n11)), (.int .i64 (add .i64 n13 1))] h4)) (
    out (.exit 0) [gv ws0 0, gv ws0 1, gv ws0 2] h2)

noncomputable def f40_l2 (_rec : Rec) (_k : Nat) (h0 : H) (ws1 : List Value) (ws2 : List Value) (h6 : H) : Option (Ex × List Value × H) :=
  asI .i64 (gv ws2 3) fun n14 =>
  ifB (le n14 300) (
    ld Try.prog h6 3 (nx h0) 0 fun v9 =>
    asI .i64 v9 fun n15 =>
    asI .i64 (gv ws2 3) fun n16 =>
    asI .i64 (gv ws1 0) fun n17 =>
    ifB (le n17 (mul .i64 n15 n16)) (
      asI .i64 (gv ws1 1) fun n18 =>
      ifB (le (mul .i64 n15 n16) n18) (
        asB (gv ws2 2) fun q0 =>
        ifB (not q0) (
          asI .i64 (gv ws2 3) fun n19 =>
          out .normal [gv ws2 3, gv ws2 3, (.bool true), (.int .i64 (add .i64 n19 1))] h6) (
          asI .i64 (gv ws2 3) fun n20 =>
          out .normal [gv ws2 0, gv ws2 3, (.bool true), (.int .i64 (add .i64 n20 1))] h6)) (
        asI .i64 (gv ws2 3) fun n21 =>
        out .normal [gv ws2 0, gv ws2 1, gv ws2 2, (.int .i64 (add .i64 n21 1))] h6)) (
      asI .i64 (gv ws2 3) fun n22 =>
      out .normal [gv ws2 0, gv ws2 1, gv ws2 2, (.int .i64 (add .i64 n22 1))] h6)) (
    out (.exit 2) [gv ws2 0, gv ws2 1, gv ws2 2, gv ws2 3] h6)

noncomputable def f40 (rec : Rec) (k : Nat) (v0 : Value) (v1 : Value) (h0 : H) : Option (Value × H) :=
  bx h0 47 v0 fun h1 =>
  len v1 fun n0 =>
  lp k (f40_l1 rec k v1 h0 n0) [(.int .i64 0), (.int .i64 0), (.int .i64 0)] h1 fun e0 ws1 h5 =>
  onE e0 0 (
    lp k (f40_l2 rec k h0 ws1) [(.int .i64 0), (.int .i64 0), (.bool false), (.int .i64 (-300))] h5 fun e1 ws3 h7 =>
    onE e1 2 (
      asB (gv ws3 2) fun q1 =>
      ifB (not q1) (
        some ((.tuple #[(.int .i64 0), (.int .i64 0), (.int .i64 4)]), h7)) (
        some ((.tuple #[gv ws3 0, gv ws3 1, (.int .i64 0)]), h7))) (
      none)) (
    none)

theorem e40 (rec : Rec) (k : Nat) (v0 : Value) (v1 : Value) (h : H) : bodyT Try.prog E0 SC (XC Try.prog rec k) 40 (Value × H) [.opq v0, .opq v1] h (fun v h => some (v, h)) = f40 rec k v0 v1 h := by kernel_rfl

end Go.AM

end

section

/- The staged forms of functions 4, 18, 20, 21, 22, 53, 56, 57, 58, 87, 88, and what calls of these answer. -/
namespace Go.AM
open Go.Proofs
noncomputable def f4 (rec : Rec) (_k : Nat) (v0 : Value) (h0 : H) : Option (Value × H) :=
  calls rec h0 18 [v0] fun v1 h1 =>
  calls rec h1 20 [v1] fun v2 h2 =>
  ext v2 0 fun v3 =>
  ext v2 1 fun v4 =>
  asI .i64 v4 fun n0 =>
  al h2 31 [(.int .i64 0), (.int .i64 0)] fun h3 =>
  st Try.prog h3 31 (nx h2) 0 v3 fun h4 =>
  calls rec h4 21 [v0] fun v5 h5 =>
  asB v5 fun q0 =>
  ifB (not q0) (
    ld Try.prog h5 31 (nx h2) 0 fun v6 =>
    bld Try.prog 31 [] fun v7 =>
    eqv Try.prog 31 v6 v7 fun q1 =>
    ifB q1 (
      ifB (eq n0 2) (
        calls rec h5 19 [] fun v8 h6 =>
        asB v8 fun q2 =>
        some ((.bool q2), h6)) (
        some ((.bool false), h5))) (
      some ((.bool false), h5))) (
    ld Try.prog h5 31 (nx h2) 0 fun v9 =>
    calls rec h5 22 [v0] fun v10 h7 =>
    ck (freq (nx h2) (nx h5) (same h7 h5)) (
      eqv Try.prog 31 v9 v10 fun q3 =>
      ifB q3 (
        ifB (eq n0 0) (
          calls rec h7 19 [] fun v11 h8 =>
          asB v11 fun q4 =>
          some ((.bool q4), h8)) (
          some ((.bool false), h7))) (
        some ((.bool false), h7))))

theorem e4 (rec : Rec) (k : Nat) (v0 : Value) (h : H) : bodyT Try.prog E0 SC (XC Try.prog rec k) 4 (Value × H) [.opq v0] h (fun v h => some (v, h)) = f4 rec k v0 h := by kernel_rfl

theorem t4 {k : Nat} {v0 : Value} {h h1 : H} {v : Value} (hh : f4 rn k v0 h = some (v, h1)) : rn 4 #[v0] h = some (v, trunc Try.prog h h1 v) :=
  run_of_bodyT (args := [.opq v0]) rfl ((e4 _ _ _ _).trans hh)

theorem x4 {k : Nat} {v0 : Value} {h h1 : H} {v : Value} (hh : f4 rn k v0 h = some (v, h1)) (hp : plainO v = false) : rn 4 #[v0] h = some (v, h1) := by rw [t4 hh, trunc_not hp]

noncomputable def f18 (rec : Rec) (_k : Nat) (v0 : Value) (h0 : H) : Option (Value × H) :=
  len v0 fun n0 =>
  sli Try.prog h0 22 v0 none (some (.int .i64 (imin n0 14))) none fun v1 =>
  calls rec h0 56 [v1] fun v2 h1 =>
  some (v2, h1)

theorem e18 (rec : Rec) (k : Nat) (v0 : Value) (h : H) : bodyT Try.prog E0 SC (XC Try.prog rec k) 18 (Value × H) [.opq v0] h (fun v h => some (v, h)) = f18 rec k v0 h := by kernel_rfl

theorem t18 {k : Nat} {v0 : Value} {h h1 : H} {v : Value} (hh : f18 rn k v0 h = some (v, h1)) : rn 18 #[v0] h = some (v, trunc Try.prog h h1 v) :=
  run_of_bodyT (args := [.opq v0]) rfl ((e18 _ _ _ _).trans hh)

theorem x18 {k : Nat} {v0 : Value} {h h1 : H} {v : Value} (hh : f18 rn k v0 h = some (v, h1)) (hp : plainO v = false) : rn 18 #[v0] h = some (v, h1) := by rw [t18 hh, trunc_not hp]

noncomputable def f20_l1 (_rec : Rec) (_k : Nat) (v0 : Value) (n0 : Int) (n1 : Int) (ws0 : List Value) (h5 : H) : Option (Ex × List Value × H) :=
  asI .i64 (gv ws0 1) fun n2 =>
  ifB (lt n2 n1) (
    asK (gv ws0 1) fun n3 =>
    six v0 n3 1 fun b0 b1 =>
    ld Try.prog h5 3 b0 b1 fun v5 =>
    asI .i64 v5 fun n4 =>
    nz n4 (
      asI .i64 (gv ws0 0) fun n5 =>
      asI .i64 (gv ws0 1) fun n6 =>
      out .normal [(.int .i64 (add .i64 n5 (quo .i64 n0 n4))), (.int .i64 (add .i64 n6 1))] h5)) (
    out (.exit 0) [gv ws0 0, gv ws0 1] h5)

noncomputable def f20_l2 (_rec : Rec) (_k : Nat)  (ws2 : List Value) (h7 : H) : Option (Ex × List Value × H) :=
  asI .i64 (gv ws2 1) fun n7 =>
  ifB (not (eq n7 0)) (
    asI .i64 (gv ws2 0) fun n8 =>
    asI .i64 (gv ws2 1) fun n9 =>
    nz n9 (
      out .normal [gv ws2 1, (.int .i64 (rem .i64 n8 n9))] h7)) (
    out (.exit 2) [gv ws2 0, gv ws2 1] h7)

noncomputable def f20 (rec : Rec) (k : Nat) (v0 : Value) (h0 : H) : Option (Value × H) :=
  al h0 31 [(.int .i64 0), (.int .i64 0)] fun h1 =>
  calls rec h1 53 [v0] fun v1 h2 =>
  asB v1 fun q0 =>
  ifB (not q0) (
    bld Try.prog 31 [] fun v2 =>
    st Try.prog h2 31 (nx h0) 0 v2 fun h3 =>
    ld Try.prog h3 31 (nx h0) 0 fun v3 =>
    some ((.tuple #[v3, (.int .i64 2)]), h3)) (
    calls rec h2 57 [v0] fun v4 h4 =>
    asI .i64 v4 fun n0 =>
    len v0 fun n1 =>
    lp k (f20_l1 rec k v0 n0 n1) [(.int .i64 0), (.int .i64 0)] h4 fun e0 ws1 h6 =>
    onE e0 0 (
      lp k (f20_l2 rec k) [gv ws1 0, (.int .i64 n0)] h6 fun e1 ws3 h8 =>
      onE e1 2 (
        asI .i64 (gv ws1 0) fun n10 =>
        asI .i64 (gv ws3 0) fun n11 =>
        nz n11 (
          asI .i64 (gv ws3 0) fun n12 =>
          nz n12 (
            bld Try.prog 31 [(0, (.int .i64 (quo .i64 n10 n11))), (1, (.int .i64 (quo .i64 n0 n12)))] fun v6 =>
            st Try.prog h8 31 (nx h0) 0 v6 fun h9 =>
            ld Try.prog h9 31 (nx h0) 0 fun v7 =>
            some ((.tuple #[v7, (.int .i64 0)]), h9)))) (
        none)) (
      none))

theorem e20 (rec : Rec) (k : Nat) (v0 : Value) (h : H) : bodyT Try.prog E0 SC (XC Try.prog rec k) 20 (Value × H) [.opq v0] h (fun v h => some (v, h)) = f20 rec k v0 h := by kernel_rfl

noncomputable def f21_l1 (_rec : Rec) (_k : Nat) (v0 : Value) (n0 : Int) (ws0 : List Value) (h1 : H) : Option (Ex × List Value × H) :=
  asI .i64 (gv ws0 2) fun n1 =>
  ifB (lt n1 n0) (
    asK (gv ws0 2) fun n2 =>
    six v0 n2 1 fun b0 b1 =>
    ld Try.prog h1 3 b0 b1 fun v1 =>
    asI .i64 v1 fun n3 =>
    ifB (lt n3 1) (
      out .ret [(.bool false), gv ws0 1, gv ws0 2] h1) (
      ifB (lt 12 n3) (
        out .ret [(.bool false), gv ws0 1, gv ws0 2] h1) (
        asI .i64 (gv ws0 1) fun n4 =>
        ifB (lt 4000 n4) (
          out .ret [(.bool false), gv ws0 1, gv ws0 2] h1) (
          asI .i64 (gv ws0 1) fun n5 =>
          asI .i64 (gv ws0 2) fun n6 =>
          out .normal [gv ws0 0, (.int .i64 (mul .i64 n5 n3)), (.int .i64 (add .i64 n6 1))] h1)))) (
    out (.exit 0) [gv ws0 0, gv ws0 1, gv ws0 2] h1)

noncomputable def f21 (rec : Rec) (k : Nat) (v0 : Value) (h0 : H) : Option (Value × H) :=
  len v0 fun n0 =>
  lp k (f21_l1 rec k v0 n0) [(.bool false), (.int .i64 1), (.int .i64 0)] h0 fun e0 ws1 h2 =>
  onE e0 0 (
    len v0 fun n7 =>
    ifB (le 1 n7) (
      len v0 fun n8 =>
      ifB (le n8 5) (
        asI .i64 (gv ws1 1) fun n9 =>
        some ((.bool (le n9 4000)), h2)) (
        some ((.bool false), h2))) (
      some ((.bool false), h2))) (
    onR e0 (
      some (gv ws1 0, h2)))

theorem e21 (rec : Rec) (k : Nat) (v0 : Value) (h : H) : bodyT Try.prog E0 SC (XC Try.prog rec k) 21 (Value × H) [.opq v0] h (fun v h => some (v, h)) = f21 rec k v0 h := by kernel_rfl

noncomputable def f22_l1 (rec : Rec) (_k : Nat) (v0 : Value) (h1 : H) (n0 : Int) (ws0 : List Value) (h4 : H) : Option (Ex × List Value × H) :=
  asI .i64 (gv ws0 0) fun n1 =>
  ifB (lt n1 n0) (
    asK (gv ws0 0) fun n2 =>
    six v0 n2 1 fun b0 b1 =>
    ld Try.prog h4 3 b0 b1 fun v2 =>
    asI .i64 v2 fun n3 =>
    ld Try.prog h4 3 (nx h1) 0 fun v3 =>
    asI .i64 v3 fun n4 =>
    ld Try.prog h4 3 (nx h1) (off 0 1) fun v4 =>
    asI .i64 v4 fun n5 =>
    ld Try.prog h4 3 (nx h1) (off 0 1) fun v5 =>
    asI .i64 v5 fun n6 =>
    bld Try.prog 31 [(0, (.int .i64 (add .i64 (mul .i64 n4 n3) n5))), (1, (.int .i64 (mul .i64 n6 n3)))] fun v6 =>
    st Try.prog h4 31 (nx h1) 0 v6 fun h5 =>
    ld Try.prog h5 3 (nx h1) 0 fun v7 =>
    asI .i64 v7 fun n7 =>
    ld Try.prog h5 3 (nx h1) (off 0 1) fun v8 =>
    asI .i64 v8 fun n8 =>
    calls rec h5 58 [(.int .i64 n7), (.int .i64 n8)] fun v9 h6 =>
    asI .i64 v9 fun n9 =>
    ld Try.prog h6 3 (nx h1) 0 fun v10 =>
    asI .i64 v10 fun n10 =>
    nz n9 (
      ld Try.prog h6 3 (nx h1) (off 0 1) fun v11 =>
      asI .i64 v11 fun n11 =>
      nz n9 (
        bld Try.prog 31 [(0, (.int .i64 (quo .i64 n10 n9))), (1, (.int .i64 (quo .i64 n11 n9)))] fun v12 =>
        st Try.prog h6 31 (nx h1) 0 v12 fun h7 =>
        asI .i64 (gv ws0 0) fun n12 =>
        out .normal [(.int .i64 (add .i64 n12 1))] h7))) (
    out (.exit 0) [gv ws0 0] h4)

noncomputable def f22 (rec : Rec) (k : Nat) (v0 : Value) (h0 : H) : Option (Value × H) :=
  al h0 31 [(.int .i64 0), (.int .i64 0)] fun h1 =>
  bld Try.prog 31 [(1, (.int .i64 1))] fun v1 =>
  al h1 31 [(.int .i64 0), (.int .i64 0)] fun h2 =>
  st Try.prog h2 31 (nx h1) 0 v1 fun h3 =>
  len v0 fun n0 =>
  lp k (f22_l1 rec k v0 h1 n0) [(.int .i64 0)] h3 fun e0 _ h8 =>
  onE e0 0 (
    ld Try.prog h8 31 (nx h1) 0 fun v13 =>
    st Try.prog h8 31 (nx h0) 0 v13 fun h9 =>
    ld Try.prog h9 31 (nx h0) 0 fun v14 =>
    some (v14, h9)) (
    none)

theorem e22 (rec : Rec) (k : Nat) (v0 : Value) (h : H) : bodyT Try.prog E0 SC (XC Try.prog rec k) 22 (Value × H) [.opq v0] h (fun v h => some (v, h)) = f22 rec k v0 h := by kernel_rfl

noncomputable def f53 (rec : Rec) (_k : Nat) (v0 : Value) (h0 : H) : Option (Value × H) :=
  len v0 fun n0 =>
  ifB (lt n0 1) (
    some ((.bool false), h0)) (
    len v0 fun n1 =>
    ifB (lt 5 n1) (
      some ((.bool false), h0)) (
      calls rec h0 87 [v0] fun v1 h1 =>
      asI .i64 v1 fun n2 =>
      ifB (lt n2 1) (
        some ((.bool false), h1)) (
        calls rec h1 88 [v0] fun v2 h2 =>
        asI .i64 v2 fun n3 =>
        ifB (lt 12 n3) (
          some ((.bool false), h2)) (
          calls rec h2 57 [v0] fun v3 h3 =>
          asI .i64 v3 fun n4 =>
          some ((.bool (le n4 4000)), h3)))))

theorem e53 (rec : Rec) (k : Nat) (v0 : Value) (h : H) : bodyT Try.prog E0 SC (XC Try.prog rec k) 53 (Value × H) [.opq v0] h (fun v h => some (v, h)) = f53 rec k v0 h := by kernel_rfl

noncomputable def f56 (_rec : Rec) (_k : Nat) (v0 : Value) (h0 : H) : Option (Value × H) :=
  eqv Try.prog 22 v0 (.slice none 0 0) fun q0 =>
  ifB q0 (
    some ((.slice none 0 0), h0)) (
    bls Try.prog h0 22 0 [] fun v1 h1 =>
    app Try.prog h1 22 22 v1 v0 fun v2 h2 =>
    some (v2, h2))

theorem e56 (rec : Rec) (k : Nat) (v0 : Value) (h : H) : bodyT Try.prog E0 SC (XC Try.prog rec k) 56 (Value × H) [.opq v0] h (fun v h => some (v, h)) = f56 rec k v0 h := by kernel_rfl

theorem t56 {k : Nat} {v0 : Value} {h h1 : H} {v : Value} (hh : f56 rn k v0 h = some (v, h1)) : rn 56 #[v0] h = some (v, trunc Try.prog h h1 v) :=
  run_of_bodyT (args := [.opq v0]) rfl ((e56 _ _ _ _).trans hh)

theorem x56 {k : Nat} {v0 : Value} {h h1 : H} {v : Value} (hh : f56 rn k v0 h = some (v, h1)) (hp : plainO v = false) : rn 56 #[v0] h = some (v, h1) := by rw [t56 hh, trunc_not hp]

noncomputable def f57_l1 (_rec : Rec) (_k : Nat) (v0 : Value) (n0 : Int) (ws0 : List Value) (h1 : H) : Option (Ex × List Value × H) :=
  asI .i64 (gv ws0 1) fun n1 =>
  ifB (lt n1 n0) (
    asK (gv ws0 1) fun n2 =>
    six v0 n2 1 fun b0 b1 =>
    ld Try.prog h1 3 b0 b1 fun v1 =>
    asI .i64 v1 fun n3 =>
    asI .i64 (gv ws0 0) fun n4 =>
    asI .i64 (gv ws0 1) fun n5 =>
    out .normal [(.int .i64 (mul .i64 n4 n3)), (.int .i64 (add .i64 n5 1))] h1) (
    out (.exit 0) [gv ws0 0, gv ws0 1] h1)

noncomputable def f57 (rec : Rec) (k : Nat) (v0 : Value) (h0 : H) : Option (Value × H) :=
  len v0 fun n0 =>
  lp k (f57_l1 rec k v0 n0) [(.int .i64 1), (.int .i64 0)] h0 fun e0 ws1 h2 =>
  onE e0 0 (
    some (gv ws1 0, h2)) (
    none)

theorem e57 (rec : Rec) (k : Nat) (v0 : Value) (h : H) : bodyT Try.prog E0 SC (XC Try.prog rec k) 57 (Value × H) [.opq v0] h (fun v h => some (v, h)) = f57 rec k v0 h := by kernel_rfl

noncomputable def f58_l1 (_rec : Rec) (_k : Nat)  (ws0 : List Value) (h1 : H) : Option (Ex × List Value × H) :=
  asI .i64 (gv ws0 1) fun n2 =>
  ifB (not (eq n2 0)) (
    asI .i64 (gv ws0 0) fun n3 =>
    asI .i64 (gv ws0 1) fun n4 =>
    nz n4 (
      out .normal [gv ws0 1, (.int .i64 (rem .i64 n3 n4))] h1)) (
    out (.exit 0) [gv ws0 0, gv ws0 1] h1)

noncomputable def f58 (rec : Rec) (k : Nat) (n0 : Int) (n1 : Int) (h0 : H) : Option (Value × H) :=
  lp k (f58_l1 rec k) [(.int .i64 n0), (.int .i64 n1)] h0 fun e0 ws1 h2 =>
  onE e0 0 (
    some (gv ws1 0, h2)) (
    none)

theorem e58 (rec : Rec) (k : Nat) (n0 : Int) (n1 : Int) (h : H) : bodyT Try.prog E0 SC (XC Try.prog rec k) 58 (Value × H) [.int .i64 n0, .int .i64 n1] h (fun v h => some (v, h)) = f58 rec k n0 n1 h := by kernel_rfl

noncomputable def f87_l1 (_rec : Rec) (_k : Nat) (v0 : Value) (ws0 : List Value) (h1 : H) : Option (Ex × List Value × H) :=
  len v0 fun n2 =>
  asI .i64 (gv ws0 1) fun n3 =>
  ifB (lt n3 n2) (
    asK (gv ws0 1) fun n4 =>
    six v0 n4 1 fun b2 b3 =>
    ld Try.prog h1 3 b2 b3 fun v2 =>
    asI .i64 v2 fun n5 =>
    asI .i64 (gv ws0 0) fun n6 =>
    asI .i64 (gv ws0 1) fun n7 =>
    out .normal [(.int .i64 (imin n6 n5)), (.int .i64 (add .i64 n7 1))] h1) (
    out (.exit 0) [gv ws0 0, gv ws0 1] h1)

noncomputable def f87 (rec : Rec) (k : Nat) (v0 : Value) (h0 : H) : Option (Value × H) :=
  len v0 fun n0 =>
  ifB (lt n0 1) (
    none) (
    six v0 0 1 fun b0 b1 =>
    ld Try.prog h0 3 b0 b1 fun v1 =>
    asI .i64 v1 fun n1 =>
    lp k (f87_l1 rec k v0) [(.int .i64 n1), (.int .i64 1)] h0 fun e0 ws1 h2 =>
    onE e0 0 (
      some (gv ws1 0, h2)) (
      none))

theorem e87 (rec : Rec) (k : Nat) (v0 : Value) (h : H) : bodyT Try.prog E0 SC (XC Try.prog rec k) 87 (Value × H) [.opq v0] h (fun v h => some (v, h)) = f87 rec k v0 h := by kernel_rfl

noncomputable def f88_l1 (_rec : Rec) (_k : Nat) (v0 : Value) (ws0 : List Value) (h1 : H) : Option (Ex × List Value × H) :=
  len v0 fun n2 =>
  asI .i64 (gv ws0 1) fun n3 =>
  ifB (lt n3 n2) (
    asK (gv ws0 1) fun n4 =>
    six v0 n4 1 fun b2 b3 =>
    ld Try.prog h1 3 b2 b3 fun v2 =>
    asI .i64 v2 fun n5 =>
    asI .i64 (gv ws0 0) fun n6 =>
    asI .i64 (gv ws0 1) fun n7 =>
    out .normal [(.int .i64 (imax n6 n5)), (.int .i64 (add .i64 n7 1))] h1) (
    out (.exit 0) [gv ws0 0, gv ws0 1] h1)

noncomputable def f88 (rec : Rec) (k : Nat) (v0 : Value) (h0 : H) : Option (Value × H) :=
  len v0 fun n0 =>
  ifB (lt n0 1) (
    none) (
    six v0 0 1 fun b0 b1 =>
    ld Try.prog h0 3 b0 b1 fun v1 =>
    asI .i64 v1 fun n1 =>
    lp k (f88_l1 rec k v0) [(.int .i64 n1), (.int .i64 1)] h0 fun e0 ws1 h2 =>
    onE e0 0 (
      some (gv ws1 0, h2)) (
      none))

theorem e88 (rec : Rec) (k : Nat) (v0 : Value) (h : H) : bodyT Try.prog E0 SC (XC Try.prog rec k) 88 (Value × H) [.opq v0] h (fun v h => some (v, h)) = f88 rec k v0 h := by kernel_rfl

end Go.AM

end

section

/- Tasks that are valid; copies of slices; it is awake. -/
namespace Go.AM
open Go.Proofs
variable {k : Nat} {R : Type}
attribute [local simp] nx_eq nx_new nx_set blk_new blk_set asI_int asK_int asB_bool asP_ptr al_eq bx_eq len_slice onE_exit onE_ret onR_ret Value.cells d3 d22 d31 cell_new cell_set rd_new rd_set off eq lt le ifB gv out
abbrev cellsI (l : List Int) : List (List Value) := l.map fun z => [iv z]

theorem app22 : okApp Try.prog 22 3 1 = true := by kernel_rfl

theorem under22 : Try.prog.underlying 22 = some (.slice 3) := by kernel_rfl

theorem bls22e (h : H) : buildSlice Try.prog 22 0 [] h = some (.slice (some ⟨h.nx, 0, none⟩) 0 0, h.new (.row [] 3 true)) := by kernel_rfl

theorem bls22 (z : Int) (h : H) : buildSlice Try.prog 22 1 [(0, .int .i64 z)] h = some (.slice (some ⟨h.nx, 0, none⟩) 1 1, h.new (.row [iv z] 3 true)) := by kernel_rfl

theorem nil22 : binOp Try.prog .eql 22 (.slice none 0 0) (.slice none 0 0) = some (.bool true) := by kernel_rfl

theorem some22 (b o n c : Nat) : binOp Try.prog .eql 22 (.slice (some ⟨b, o, none⟩) n c) (.slice none 0 0) = some (.bool false) := by kernel_rfl

/-- Clone. -/
theorem s56 {v : Value} {l : List (List Value)} {h : H} (hs : SlR h 3 1 v l) (hm : l.length < 2 ^ 30) : ∃ v' h', rn 56 #[v] h = some (v', h') ∧ Ext h h' ∧ SlR h' 3 1 v' l ∧ ∃ a n c, v' = .slice a n c := by
  have hs0 := hs
  have key : ∃ v' h', f56 rn 0 v h = some (v', h') ∧ Ext h h' ∧ SlR h' 3 1 v' l := by
    cases hs with
    | nil =>
      refine ⟨.slice none 0 0, h, ?_, .refl _, .nil⟩
      unfold f56 eqv
      rw [nil22]
      rfl
    | @at_ b o c cs own l hb hr hk hc hl hx =>
      unfold f56 eqv
      rw [some22]
      simp only []
      rw [show ifB false = fun (x y : Option (Value × H)) => y from rfl]
      simp only []
      rw [bls_some (bls22e h)]
      have x1 := Ext.new h (.row [] 3 true)
      obtain ⟨v', h', e, x, s⟩ := app_all (b := h.nx) app22 app22 (Nat.lt_succ_self _) (blk_new_self _ _) (hs0.ext x1) hm
      exact ⟨v', h', e _, x1.trans x, s⟩
  obtain ⟨v', h', e, x, s⟩ := key
  have hv : ∃ a n c, v' = .slice a n c := by cases s <;> exact ⟨_, _, _, rfl⟩
  obtain ⟨a, n, c, rfl⟩ := hv
  exact ⟨_, h', x56 e rfl, x, s, a, n, c, rfl⟩

/-- The beginning of a slice. -/
theorem s18 {v : Value} {l : List Int} {h : H} (hs : SlR h 3 1 v (cellsI l)) : ∃ v' h', rn 18 #[v] h = some (v', h') ∧ Ext h h' ∧ SlR h' 3 1 v' (cellsI (l.take 14)) := by
  have e1 : imin ((cellsI l).length : Int) 14 = ((min l.length 14 : Nat) : Int) := by
    rw [List.length_map]
    unfold imin
    split <;> omega
  obtain ⟨v1, s1, e2⟩ := hs.take (i := ((min l.length 14 : Nat) : Int)) under22 sz3 (by omega) (by rw [List.length_map]; omega)
  have e3 : (cellsI l).take ((min l.length 14 : Nat) : Int).toNat = cellsI (l.take 14) := by
    rw [Int.toNat_natCast, ← List.map_take]
    congr 1
    rcases Nat.le_total l.length 14 with h1 | h1
    · rw [Nat.min_eq_left h1, List.take_of_length_le (Nat.le_refl _), List.take_of_length_le h1]
    · rw [Nat.min_eq_right h1]
  rw [e3] at s1
  obtain ⟨v', h', e4, x, s, a, n, c, rfl⟩ := s56 s1 (by rw [List.length_map, List.length_take]; omega)
  refine ⟨_, h', x18 (k := 0) ?_ rfl, x, s⟩
  unfold f18
  rw [hs.len, e1, e2, calls_eq e4]

def minP : List Int → Int
  | [] => 0
  | x :: l => l.foldl imin x

def maxP : List Int → Int
  | [] => 0
  | x :: l => l.foldl imax x

theorem fold_min (l : List Int) : ∀ (x k : Int), (k ≤ l.foldl imin x ↔ k ≤ x ∧ ∀ y ∈ l, k ≤ y) := by
  induction l with
  | nil => intro x k; simp
  | cons y l ih =>
    intro x k
    rw [List.foldl_cons, ih]
    have : k ≤ imin x y ↔ k ≤ x ∧ k ≤ y := by unfold imin; split <;> omega
    rw [this]
    simp only [List.mem_cons, forall_eq_or_imp, and_assoc]

theorem fold_max (l : List Int) : ∀ (x k : Int), (l.foldl imax x ≤ k ↔ x ≤ k ∧ ∀ y ∈ l, y ≤ k) := by
  induction l with
  | nil => intro x k; simp
  | cons y l ih =>
    intro x k
    rw [List.foldl_cons, ih]
    have : imax x y ≤ k ↔ x ≤ k ∧ y ≤ k := by unfold imax; split <;> omega
    rw [this]
    simp only [List.mem_cons, forall_eq_or_imp, and_assoc]

end Go.AM

end

section

/- Tables: the copy that the program is handed, and whether they are valid. -/
namespace Go.AM
open Go.Proofs
/-- A span. -/
structure Sp where
  a : Int
  b : Int
  lo : Int
  hi : Int
deriving DecidableEq

def Sp.cells (c : Sp) : List Value := [iv c.a, iv c.b, iv c.lo, iv c.hi]

abbrev Sp.val (c : Sp) : Value := .agg c.cells.toArray

/-- May a span be in a table of some events? -/
def spOk (e : Int) (c : Sp) : Bool :=
  decide (0 ≤ c.a) && decide (c.a < e) && decide (0 ≤ c.b) && decide (c.b < e) && decide (c.a ≠ c.b) && decide (0 ≤ c.lo) && decide (c.lo ≤ 11) && decide (c.lo ≤ c.hi) && decide (c.hi ≤ c.lo + 11)

def tabOk (p e : Int) (l : List Sp) : Bool := decide (1 ≤ p) && decide (p ≤ 12) && decide (1 ≤ e) && decide (e ≤ 6) && decide (l.length ≤ 12) && l.all (spOk e)

variable {k : Nat} {R : Type}
attribute [local simp] nx_eq nx_new nx_set blk_new blk_set asI_int asK_int asB_bool asP_ptr al_eq bx_eq len_slice onE_exit onE_ret onR_ret Value.cells d3 d22 d45 d47 d50 d52 d67 d89 cell_new cell_set rd_new rd_set off eq lt le ifB gv out eqF1 eqF2 eqF3 eqF4 eqF5 eqF6 eqF7 eqF8
theorem app50 : okApp Try.prog 50 67 4 = true := by kernel_rfl

theorem kbld52 (p e : Int) (K : Value → Option R) : bld Try.prog 52 [(0, .int .i64 p), (1, .int .i64 e)] K = K (.agg #[.int .i64 p, .int .i64 e, .slice none 0 0]) := bld_some (by kernel_rfl)

theorem kbld47 (p e : Int) (K : Value → Option R) : bld Try.prog 47 [(0, .int .i64 p), (1, .int .i64 e)] K = K (.agg #[.int .i64 p, .int .i64 e, .slice none 0 0]) := bld_some (by kernel_rfl)

theorem kbld67 (a b c d : Int) (K : Value → Option R) : bld Try.prog 67 [(0, .int .i64 a), (1, .int .i64 b), (2, .int .i64 c), (3, .int .i64 d)] K = K (.agg #[.int .i64 a, .int .i64 b, .int .i64 c, .int .i64 d]) := bld_some (by kernel_rfl)

theorem kbld89 (a b c d : Int) (K : Value → Option R) : bld Try.prog 89 [(0, .int .i64 a), (1, .int .i64 b), (2, .int .i64 c), (3, .int .i64 d)] K = K (.agg #[.int .i64 a, .int .i64 b, .int .i64 c, .int .i64 d]) := bld_some (by kernel_rfl)

theorem bls50 (c : Sp) (h : H) : buildSlice Try.prog 50 1 [(0, .agg #[.int .i64 c.a, .int .i64 c.b, .int .i64 c.lo, .int .i64 c.hi])] h = some (.slice (some ⟨h.nx, 0, none⟩) 1 1, h.new (.row c.cells 67 true)) := by kernel_rfl

attribute [local simp] kbld52 kbld47 kbld67 kbld89
/-- The program's table. -/
theorem s37 {p e : Int} {sl : Value} {l : List Sp} {h : H} (hs : SlR h 89 4 sl (l.map Sp.cells)) :
    ∃ sl' h', rn 37 #[.agg #[iv p, iv e, sl]] h = some (.agg #[iv p, iv e, sl'], h') ∧ Ext h h' ∧ SlR h' 67 4 sl' ((l.take 14).map Sp.cells) := by
  have hlen := hs.lt62
  rw [List.length_map] at hlen
  let h1 := h.new (.row [iv p, iv e, sl] 47 true)
  let h2 := h1.new (.row [.int .i64 0, .int .i64 0, .slice none 0 0] 52 true)
  let h4 := h2.fresh 52 [.int .i64 0, .int .i64 0, .slice none 0 0] [.int .i64 p, .int .i64 e, .slice none 0 0]
  have n1 : h1.nx = h.nx + 1 := rfl
  have n2 : h2.nx = h.nx + 2 := rfl
  have n4 : h4.nx = h.nx + 3 := rfl
  have x4 : Ext h h4 := (((Ext.refl h).new' _).new' _).fresh _ _ _
  have b0 : h4.blk h.nx = some (.row [iv p, iv e, sl] 47 true) := by simp [h4, h2, h1, H.fresh]
  have b1 : h4.blk (h.nx + 1) = some (.row [.int .i64 0, .int .i64 0, .slice none 0 0] 52 true) := by simp [h4, h2, h1, H.fresh]
  have b2 : h4.blk (h.nx + 2) = some (.row [.int .i64 p, .int .i64 e, .slice none 0 0] 52 true) := by simp [h4, h2, h1, H.fresh]
  obtain ⟨ws', h', hl, hx, hgn, hg1, sv, hg2, hap, rfl⟩ := lp_for (F := f37_l1 rn (l.length + 1) h2 sl l.length) (k := l.length + 1) (l := l) (fun _ _ (_ : Unit) => ())
    (fun i _ ws g => Ext h g ∧ h.nx + 3 ≤ g.nx ∧ g.blk (h.nx + 1) = some (.row [.int .i64 0, .int .i64 0, .slice none 0 0] 52 true) ∧
      ∃ sv, g.blk (h.nx + 2) = some (.row [iv p, iv e, sv] 52 true) ∧ AqR h.nx g 67 4 sv ((l.take (min i 14)).map Sp.cells) ∧ ws = [iv i]) 0 (ws := [iv 0]) (h := h4) (s0 := ())
    ⟨x4, by omega, b1, _, b2, .nil, rfl⟩ (by omega)
    (by
      rintro _ ws g ⟨hx, hgn, hg1, sv, hg2, hap, rfl⟩
      simp [f37_l1])
    (by
      rintro i c _ ws g hc ⟨hx, hgn, hg1, sv, hg2, hap, rfl⟩
      have hi := (List.getElem?_eq_some_iff.1 hc).1
      have y7 := (Ext.refl g).fresh 89 [iv 0, iv 0, iv 0, iv 0] c.cells
      have hcb := blk_fresh g 89 [iv 0, iv 0, iv 0, iv 0] c.cells
      have n7 : (g.fresh 89 [iv 0, iv 0, iv 0, iv 0] c.cells).nx = g.nx + 1 := rfl
      unfold f37_l1
      rw [show gv [iv i] 0 = iv i from rfl, asI_int, lt_t (by omega), ifB_true, asK_int, (hs.ext hx).ldA ag89 sz89 (by omega) (x := c.cells) (by simp [hc])]
      rw [al_st (zs := [iv 0, iv 0, iv 0, iv 0]) (xs := c.cells) sz89 rfl rfl]
      generalize g.fresh 89 [iv 0, iv 0, iv 0, iv 0] c.cells = h7 at *
      have g1 := (y7.blk (h.nx + 1) (by omega)).trans hg1
      have g2 := (y7.blk (h.nx + 2) (by omega)).trans hg2
      have a7 := hap.ext y7
      simp only [Sp.cells] at hcb
      by_cases h26 : i < 14
      · obtain ⟨v', h9, e9, a9, n9, k9, b9, hb9, hb9'⟩ := a7.push app50 app50 (bls50 c) rfl rfl (by simp; omega) (by omega)
        have kb : ∀ b, b < h7.nx → h7.blk b ≠ some (.row ((l.take (min i 14)).map Sp.cells).flatten 67 true) → h9.blk b = h7.blk b := fun b hb hne => k9 b hb fun e => hne (a7.blkOf e).2.2
        have g1' := kb (h.nx + 1) (by omega) (by rw [g1]; simp)
        have g2' := kb (h.nx + 2) (by omega) (by rw [g2]; simp)
        rw [g1] at g1'
        rw [g2] at g2'
        have x9 : Ext h h9 := ⟨by have := hx.nx; omega, fun b hb => by
          rw [k9 b (by have := hx.nx; omega) (fun e => by have := (a7.blkOf e).1; omega)]
          exact (hx.trans y7).blk b hb⟩
        have hst : wrc 1 h9 (h.nx + 2) 2 v' = some (h9.set (h.nx + 2) (.row [iv p, iv e, v'] 52 true)) := by rw [wrc_one g2' a9.cells.1 a9.cells.2 (by simp)]; rfl
        refine ⟨[iv ((i : Int) + 1)], h9.set (h.nx + 2) (.row [iv p, iv e, v'] 52 true), ?_, x9.set (by omega) _, by rw [nx_set]; omega, ?_, v', blk_set_self _ _ _, ?_, rfl⟩
        · simp [cell_of hcb, n2, cell_of g2, h26, show (i : Int) < 14 by omega, e9, w50, hst]
          rw [add64 (by omega) (by omega)]
        · rw [blk_set_ne _ _ _ (by omega)]; exact g1'
        · have : (l.take (min (i + 1) 14)).map Sp.cells = (l.take (min i 14)).map Sp.cells ++ [c.cells] := by
            rw [show min (i + 1) 14 = i + 1 by omega, show min i 14 = i by omega, List.take_add_one, hc]
            simp
          rw [this]
          refine a9.keep (by rw [nx_set]; omega) fun b hb => blk_set_ne _ _ _ ?_
          rw [hb9] at hb; cases hb; omega
      · refine ⟨[iv ((i : Int) + 1)], h7, ?_, hx.trans y7, by omega, g1, sv, g2, ?_, rfl⟩
        · simp [show ¬ (i : Int) < 14 by omega]
          rw [add64 (by omega) (by omega)]
        · rw [show min (i + 1) 14 = min i 14 by omega]
          exact a7)
  have hfin : f37 rn (l.length + 1) (.agg #[iv p, iv e, sl]) h = some (.agg #[iv p, iv e, sv], h'.set (h.nx + 1) (.row [iv p, iv e, sv] 52 true)) := by
    have hst : wrc 3 h' (h.nx + 1) 0 (.agg #[iv p, iv e, sv]) = some (h'.set (h.nx + 1) (.row [iv p, iv e, sv] 52 true)) := by
      simp only [wrc, hg1]
      rw [if_pos ⟨rfl, by simp, by simp [Value.cells, hap.cells.2]; exact ⟨rfl, rfl⟩⟩]
      rfl
    unfold f37
    rw [bx_eq, al_eq]
    rw [show nx (h.new (.row (Value.agg #[iv p, iv e, sl]).cells.toList 47 true)) = h.nx + 1 from rfl, d3]
    rw [show ((h.new (.row (Value.agg #[iv p, iv e, sl]).cells.toList 47 true)).new (.row [.int .i64 0, .int .i64 0, .slice none 0 0] 52 true)).cell (nx h) 0 = some (iv p) by simp]
    rw [Option.bind_some, asI_int, d3]
    rw [show ((h.new (.row (Value.agg #[iv p, iv e, sl]).cells.toList 47 true)).new (.row [.int .i64 0, .int .i64 0, .slice none 0 0] 52 true)).cell (nx h) (off 0 1) = some (iv e) by simp]
    rw [Option.bind_some, asI_int, kbld52, al_st (zs := [.int .i64 0, .int .i64 0, .slice none 0 0]) (xs := [.int .i64 p, .int .i64 e, .slice none 0 0]) sz52 rfl rfl]
    rw [show (H.fresh ((h.new (.row (Value.agg #[iv p, iv e, sl]).cells.toList 47 true)).new (.row [.int .i64 0, .int .i64 0, .slice none 0 0] 52 true)) 52 [.int .i64 0, .int .i64 0, .slice none 0 0] [.int .i64 p, .int .i64 e, .slice none 0 0]) = h4 from rfl,
      show ((h.new (.row (Value.agg #[iv p, iv e, sl]).cells.toList 47 true)).new (.row [.int .i64 0, .int .i64 0, .slice none 0 0] 52 true)) = h2 from rfl, d45, nx_eq, cell_of b0]
    rw [show [iv p, iv e, sl][off 0 2]? = some sl from rfl, Option.bind_some, hs.len, List.length_map, lp_eq hl]
    simp [n2, rd_of hg2, w52, hst]
  refine ⟨sv, _, x37 hfin (by obtain ⟨x, y, z, hz⟩ := hap.isSl; rw [hz]; rfl), hx.set (by omega) _, ?_⟩
  have : l.take (min l.length 14) = l.take 14 := by
    rcases Nat.le_total l.length 14 with h5 | h5
    · rw [show min l.length 14 = l.length by omega, List.take_of_length_le (by omega), List.take_of_length_le (by omega)]
    · rw [show min l.length 14 = 14 by omega]
  rw [this] at hap
  refine (hap.keep (by rw [nx_set]; omega) fun b hb => blk_set_ne _ _ _ ?_).slR
  intro e'
  have := (hap.blkOf hb).2.2
  rw [e', hg1] at this
  simp at this

/-- Not valid by its span. -/
theorem s92 {h : H} {c : Sp} {p e : Int} {sv : Value} {b : Nat} (he : 0 ≤ e ∧ e ≤ 6) (hb : b < h.nx) (hc : h.blk b = some (.row [iv p, iv e, sv] 52 true)) : rn 92 #[c.val, pt b 0] h = some (.bool (!spOk e c), h) := by
  refine p92 (k := 0) (h1 := h.new (.row c.cells 67 true)) ?_ rfl (.new _ _)
  have x1 := Ext.new h (.row c.cells 67 true)
  have hc1 := (x1.blk b hb).trans hc
  have hcb : (h.new (.row c.cells 67 true)).blk h.nx = some (.row c.cells 67 true) := blk_new_self _ _
  simp only [f92, bx_eq, asP_ptr, Value.cells, Sp.val]
  generalize h.new (.row c.cells 67 true) = g at *
  simp only [Sp.cells] at hcb
  have e1 : (imin c.a c.b < 0) = ¬ (0 ≤ c.a ∧ 0 ≤ c.b) := propext (by unfold imin; split <;> omega)
  have e2 : (e ≤ imax c.a c.b) = ¬ (c.a < e ∧ c.b < e) := propext (by unfold imax; split <;> omega)
  simp only [asI_int, d3, cell_of hcb, cell_of hc1, off, nx_eq, lt, le, eq, ifB, List.getElem?_cons_zero, List.getElem?_cons_succ, Option.bind_some, Nat.zero_add, e1, e2]
  by_cases h1 : 0 ≤ c.lo ∧ c.lo ≤ 11
  · have ha : add .i64 c.lo 11 = c.lo + 11 := add64 (by omega) (by omega)
    rw [ha]
    have : decide (c.lo + 11 < c.hi) = !decide (c.hi ≤ c.lo + 11) := by rw [Bool.eq_iff_iff]; simp
    rw [this]
    unfold spOk
    grind
  · unfold spOk
    grind

/-- The first element for which a function says yes. -/
theorem s99 {v0 v1 : Value} {h : H} {l : List Sp} (hs : SlR h 67 4 v0 (l.map Sp.cells)) {p : Sp → Bool} (hp : ∀ x ∈ l, callV rn v1 #[x.val] h = some (.bool (p x), h)) :
    ∃ r, rn 99 #[v0, v1] h = some (iv r, h) ∧ (le 0 r = l.any p) := by
  have hlen := hs.lt62
  rw [List.length_map] at hlen
  have hl := lp_same (F := f99_l1 rn (l.length + 1) v0 v1 l.length) (k := l.length + 1) (l := l) (h := h) (fun i (_ : Unit) => [iv 0, iv i])
    (fun i x s => if (!p x) = true then .inl s else .inr i) (fun _ _ => True) (fun _ => .ret) (fun i => [iv i, iv i]) 0 (fun _ => [iv 0, iv l.length]) (ws := [iv 0, iv 0]) (s0 := ()) rfl trivial (by omega) (by simp)
    (fun _ _ => by simp [f99_l1])
    (by
      intro i c _ hc _
      have hi := (List.getElem?_eq_some_iff.1 hc).1
      refine ⟨fun _ _ => trivial, ?_⟩
      unfold f99_l1
      rw [show gv [iv 0, iv i] 1 = iv i from rfl, asI_int, lt_t (by omega), ifB_true, asK_int, hs.ldA ag67 sz67 (by omega) (x := c.cells) (by simp [hc]), callsV_some (hp c (List.mem_of_getElem? hc))]
      rw [asB_bool, asI_int, add64 (by omega) (by omega)]
      cases hpc : p c <;> simp [rnd])
  rcases itL_all (ok := fun _ x => !p x) (g := fun i _ => i) (s0 := ()) l 0 with ⟨⟨r, h1⟩, j, x, hx, h2⟩ | ⟨h1, h2⟩
  · rw [h1] at hl
    refine ⟨r, p99 (k := l.length + 1) ?_ rfl (.refl _), ?_⟩
    · unfold f99
      rw [hs.len, List.length_map, lp_eq hl]
      rfl
    · rw [le_t (by omega)]
      symm
      rw [List.any_eq_true]
      exact ⟨x, List.mem_of_getElem? hx, by simpa using h2⟩
  · rw [h1] at hl
    refine ⟨-1, p99 (k := l.length + 1) ?_ rfl (.refl _), ?_⟩
    · unfold f99
      rw [hs.len, List.length_map, lp_eq hl.1]
      rfl
    · symm
      show _ = false
      rw [List.any_eq_false]
      intro x hx
      obtain ⟨j, hj, rfl⟩ := List.getElem_of_mem hx
      simpa using h2 j _ (List.getElem?_eq_getElem hj)

theorem s80 {v0 v1 : Value} {h : H} {l : List Sp} (hs : SlR h 67 4 v0 (l.map Sp.cells)) {p : Sp → Bool} (hp : ∀ x ∈ l, callV rn v1 #[x.val] h = some (.bool (p x), h)) :
    rn 80 #[v0, v1] h = some (.bool (l.any p), h) := by
  obtain ⟨r, e, hr⟩ := s99 hs hp
  refine p80 (k := 0) ?_ rfl (.refl _)
  unfold f80
  rw [calls_eq e, asI_int, hr]

/-- Is the program's table valid? -/
theorem s71 {p e : Int} {sl : Value} {l : List Sp} {h : H} (hs : SlR h 67 4 sl (l.map Sp.cells)) : rn 71 #[.agg #[iv p, iv e, sl]] h = some (.bool (tabOk p e l), h) := by
  have x1 : Ext h (h.new (.row [iv p, iv e, sl] 52 true)) := .new _ _
  have hb1 : (h.new (.row [iv p, iv e, sl] 52 true)).blk h.nx = some (.row [iv p, iv e, sl] 52 true) := blk_new_self _ _
  have hn1 : h.nx < (h.new (.row [iv p, iv e, sl] 52 true)).nx := Nat.lt_succ_self _
  refine p71 (k := 0) (h1 := h.new (.row [iv p, iv e, sl] 52 true)) ?_ rfl x1
  simp only [f71, bx_eq, Value.cells]
  have hs1 := hs.ext x1
  generalize h.new (.row [iv p, iv e, sl] 52 true) = g at *
  have hn : ∀ {T : Type} (K : Int → Option T), len sl K = K (l.length : Int) := fun K => by rw [hs.len]; simp
  by_cases hc : 1 ≤ p ∧ p ≤ 12 ∧ 1 ≤ e ∧ e ≤ 6 ∧ l.length ≤ 12
  · have c80 := fun (K : Value → H → Option (Value × H)) => calls_eq (K := K) (xs := [_, .func (.func 92) #[] #[pt h.nx 0]]) (s80 (v1 := .func (.func 92) #[] #[pt h.nx 0]) (p := fun c => !spOk e c) hs1 (fun c _ => s92 (by omega) hn1 hb1))
    have hall : (l.any fun c => !spOk e c) = !l.all (spOk e) := by
      rw [List.any_eq_not_all_not]; simp
    simp [cell_of hb1, hn, c80, show ¬ p < 1 by omega, show ¬ 12 < p by omega, show ¬ e < 1 by omega, show ¬ 6 < e by omega, show ¬ 12 < (l.length : Int) by omega, tabOk, hc, hall]
  · simp [cell_of hb1, hn, tabOk]
    grind

theorem tabOk_take {p e : Int} {l : List Sp} : tabOk p e (l.take 14) = tabOk p e l := by
  unfold tabOk
  by_cases hc : l.length ≤ 12
  · rw [List.take_of_length_le (by omega)]
  · rw [decide_eq_false (show ¬ (l.take 14).length ≤ 12 by simp; omega), decide_eq_false hc]
    simp

end Go.AM

end

section

/- It is awake. -/
namespace Go.AM
open Go.Proofs
variable {R : Type}
theorem s19 (h : H) : rn 19 #[] h = some (.bool true, h) := by
  have e : call Try.prog E0 60 19 #[] h = some (.bool true, h) := by kernel_rfl
  exact run_iso rfl e

end Go.AM

end

section

/- Fractions: the greatest common divisor, densities. -/
/- RoundsDensity, on the abstract machine. -/
/- RoundsDensity, on the abstract machine: the program's density, and the law. -/
namespace Go.AM
open Go.Proofs
variable {k : Nat} {R : Type}
attribute [local simp] nx_eq nx_new nx_set blk_new blk_set asI_int asK_int asB_bool asP_ptr al_eq bx_eq len_slice onE_exit onE_ret onR_ret Value.cells d3 d22 d31 w31 cell_new cell_set rd_new rd_set off eq lt le ifB gv out eqF1 eqF2 eqF3 eqF4 eqF5 eqF6 eqF7 eqF8 ext20 ext21
theorem rem_nat (a b : Nat) : rem .i64 (a : Int) (b : Int) = ((a % b : Nat) : Int) := by
  unfold rem
  rw [Int.tmod_eq_emod_of_nonneg (by omega)]
  exact (Int.natCast_emod a b).symm

end Go.AM
namespace Go.AM
open Go.Proofs
variable {k : Nat} {R : Type}
attribute [local simp] nx_eq nx_new nx_set blk_new blk_set asI_int asK_int asB_bool asP_ptr al_eq bx_eq len_slice onE_exit onE_ret onR_ret Value.cells d3 d22 d31 w31 cell_new cell_set rd_new rd_set off eq lt le ifB gv out eqF1 eqF2 eqF3 eqF4 eqF5 eqF6 eqF7 eqF8 ext20 ext21
theorem kbld31 (a b : Int) (K : Value → Option R) : bld Try.prog 31 [(0, .int .i64 a), (1, .int .i64 b)] K = K (.agg #[.int .i64 a, .int .i64 b]) := bld_some (by kernel_rfl)

theorem kbld31e (K : Value → Option R) : bld Try.prog 31 [] K = K (.agg #[.int .i64 0, .int .i64 0]) := bld_some (by kernel_rfl)

end Go.AM
namespace Go.AM
open Go.Proofs
variable {k : Nat} {R : Type}
attribute [local simp] nx_eq nx_new nx_set blk_new blk_set asI_int asK_int asB_bool asP_ptr al_eq bx_eq len_slice onE_exit onE_ret onR_ret Value.cells d3 d22 d31 w31 cell_new cell_set rd_new rd_set off eq lt le ifB gv out eqF1 eqF2 eqF3 eqF4 eqF5 eqF6 eqF7 eqF8 ext20 ext21 kbld31 kbld31e
end Go.AM

end

section

/- Cycles of spans, and how often they may go round. -/
namespace Go.AM
open Go.Proofs
variable {k : Nat} {R : Type}
attribute [local simp] nx_eq nx_new nx_set blk_new blk_set asI_int asK_int asB_bool asP_ptr al_eq bx_eq len_slice onE_exit onE_ret onR_ret Value.cells d3 d4 d22 d45 d47 d50 d52 d67 d88 d89 cell_new cell_set rd_new rd_set off eq lt le ifB gv out eqF1 eqF2 eqF3 eqF4 eqF5 eqF6 eqF7 eqF8 ext20 ext21
theorem tmod_fix {a P : Int} (hP : 0 < P) : (a.tmod P + P).tmod P = a % P := by
  have h1 := Int.emod_nonneg a (show P ≠ 0 by omega)
  have h2 := Int.emod_lt_of_pos a hP
  rw [Int.tmod_eq_emod (a := a)]
  split
  · rw [show ((0 : Nat) : Int) = 0 from rfl, Int.sub_zero, Int.tmod_eq_emod_of_nonneg (by omega), Int.add_emod_right, Int.emod_emod_of_dvd _ (Int.dvd_refl P)]
  · have : ((P.natAbs : Nat) : Int) = P := by omega
    rw [this, Int.sub_add_cancel, Int.tmod_eq_emod_of_nonneg h1, Int.emod_emod_of_dvd _ (Int.dvd_refl P)]

/-- The span that a number of a cycle names. -/
def kI (x : Int) : Int := sub .i64 (imax x (sub .i64 0 x)) 1

/-- Is it a number of a span? -/
def kIn (l : List Sp) (x : Int) : Prop := 0 ≤ kI x ∧ kI x < l.length

instance (l : List Sp) (x : Int) : Decidable (kIn l x) := by unfold kIn; infer_instance

def spW (l : List Sp) (x : Int) : Sp := (l[(kI x).toNat]?).getD ⟨0, 0, 0, 0⟩

def begP (c : Sp) (back : Bool) : Int := if back = true then c.b else c.a

def endP (c : Sp) (back : Bool) : Int := if back = true then c.a else c.b

def begW (l : List Sp) (x : Int) : Int := if kIn l x then begP (spW l x) (decide (x < 0)) else -1

def endW (l : List Sp) (x : Int) : Int := if kIn l x then endP (spW l x) (decide (x < 0)) else -1

theorem spW_get {l : List Sp} {x : Int} (h : kIn l x) : l[(kI x).toNat]? = some (spW l x) := by
  unfold spW
  have := h.1
  have := h.2
  rw [List.getElem?_eq_getElem (by omega)]
  rfl

/-- May a number follow those ahead of it? -/
def okF (l : List Sp) (c : List Int) (i : Nat) (x : Int) : Bool := decide (kIn l x) && !((c.take i).map kI).contains (kI x)

/-- Does it end where the next one begins? -/
def linkP (l : List Sp) (c : List Int) (i : Nat) : Bool := decide (endW l (c.getD i 0) = begW l (c.getD ((i + 1) % c.length) 0))

def cycP (l : List Sp) (c : List Int) : Bool :=
  decide (1 ≤ c.length) && decide (c.length ≤ 12) && (List.range c.length).all (fun i => okF l c i (c.getD i 0)) && (List.range c.length).all (linkP l c)

end Go.AM

end

section

/- How often a cycle may go round: the program's answer, and the document's. -/
namespace Go.AM
open Go.Proofs
variable {k : Nat} {R : Type}
attribute [local simp] nx_eq nx_new nx_set blk_new blk_set asI_int asK_int asB_bool asP_ptr al_eq bx_eq len_slice onE_exit onE_ret onR_ret Value.cells d3 d4 d22 d45 d47 d50 d52 d67 d88 d89 cell_new cell_set rd_new rd_set off eq lt le ifB gv out eqF1 eqF2 eqF3 eqF4 eqF5 eqF6 eqF7 eqF8 ext20 ext21
theorem same_self (h : H) : same h h = true := by simp [same]

theorem SlR.ldAck {P : Program} {h : H} {e t : TypeId} {s : Nat} {v : Value} {L : List (List Value)} (a : SlR h e s v L) (ht : aggT P t = some true) (hs : size? P t = some s) {i : Int} (h0 : 0 ≤ i) {x : List Value} (hx : L[i.toNat]? = some x) (K : Value → Option R) :
    (AM.six v i s fun b o => (h.rd b o s).bind fun l => ck (freq b h.nx (same h h)) (K (.agg l.toArray))) = K (.agg x.toArray) := by
  obtain ⟨b, o, cs, own, hb, hr, q1, q2, q3, q4⟩ := a.six h0 hx
  have := ld_elem (P := P) (K := fun v => ck (freq b h.nx (same h h)) (K v)) ht hs hr q1 q2 q3
  rw [ld_agS ht hs] at this
  rw [q4, this]
  simp [freq, hb, same_self, ck]

/-- A step. -/
def stepC (l : List Sp) (x : Int) : List Value := [iv (spW l x).a, iv (spW l x).b, iv (spW l x).lo, iv (spW l x).hi, .bool (decide (x < 0))]

theorem app84 : okApp Try.prog 84 88 5 = true := by kernel_rfl

theorem kbld88 (a b c d : Int) (q : Bool) (K : Value → Option R) : bld Try.prog 88 [(0, .agg #[iv a, iv b, iv c, iv d]), (1, .bool q)] K = K (.agg #[.int .i64 a, .int .i64 b, .int .i64 c, .int .i64 d, .bool q]) := bld_some (by kernel_rfl)

theorem bls84 (a b c d : Int) (q : Bool) (h : H) : buildSlice Try.prog 84 1 [(0, .agg #[.int .i64 a, .int .i64 b, .int .i64 c, .int .i64 d, .bool q])] h = some (.slice (some ⟨h.nx, 0, none⟩) 1 1, h.new (.row [iv a, iv b, iv c, iv d, .bool q] 88 true)) := by kernel_rfl

theorem under107 : Try.prog.underlying 107 = some (.map 3 4) := by kernel_rfl

theorem under3k : Try.prog.underlying 3 = some (.int .i64) := by kernel_rfl

theorem zero4 : zero? Try.prog 4 = some (.bool false) := by kernel_rfl

theorem s93 (l : List Sp) (x : Int) (h : H) : rn 93 #[.agg (stepC l x).toArray] h = some (iv (endP (spW l x) (decide (x < 0))), h) := by
  refine p93 (k := 0) (h1 := h.new (.row (stepC l x) 88 true)) ?_ rfl (.new _ _)
  simp [f93, stepC, endP]
  by_cases hx : x < 0 <;> simp [hx]

theorem s94 (l : List Sp) (x : Int) (h : H) : rn 94 #[.agg (stepC l x).toArray] h = some (iv (begP (spW l x) (decide (x < 0))), h) := by
  refine p94 (k := 0) (h1 := h.new (.row (stepC l x) 88 true)) ?_ rfl (.new _ _)
  simp [f94, stepC, begP]
  by_cases hx : x < 0 <;> simp [hx]

theorem cycP_spec {l : List Sp} {c : List Int} : cycP l c = true ↔ 1 ≤ c.length ∧ c.length ≤ 12 ∧ (∀ i x, c[i]? = some x → okF l c i x = true) ∧ ∀ i, i < c.length → linkP l c i = true := by
  unfold cycP
  simp only [Bool.and_eq_true, decide_eq_true_iff, List.all_eq_true, List.mem_range]
  constructor
  · rintro ⟨⟨⟨h1, h2⟩, h3⟩, h4⟩
    refine ⟨h1, h2, fun i x hx => ?_, h4⟩
    have := h3 i (List.getElem?_eq_some_iff.1 hx).1
    simpa [List.getD, hx] using this
  · rintro ⟨h1, h2, h3, h4⟩
    refine ⟨⟨⟨h1, h2⟩, fun i hi => ?_⟩, h4⟩
    have := h3 i _ (List.getElem?_eq_getElem hi)
    simpa [List.getD, List.getElem?_eq_getElem hi] using this

set_option maxHeartbeats 1000000 in
/-- The program's cycle. -/
theorem s72 {h : H} {p e : Int} {sl cv : Value} {l : List Sp} {c : List Int} (hs : SlR h 67 4 sl (l.map Sp.cells)) (hc : SlR h 3 1 cv (cellsI c)) :
    ∃ h', Ext h h' ∧ ((cycP l c = false ∧ rn 72 #[.agg #[iv p, iv e, sl], cv] h = some (.tuple #[.slice none 0 0, .bool false], h')) ∨
      (cycP l c = true ∧ ∃ ov, rn 72 #[.agg #[iv p, iv e, sl], cv] h = some (.tuple #[ov, .bool true], h') ∧ SlR h' 88 5 ov (c.map (stepC l)))) := by
  have hlen := hc.lt62
  rw [List.length_map] at hlen
  have x1 := Ext.new h (.row [iv p, iv e, sl] 52 true)
  have hb1 : (h.new (.row [iv p, iv e, sl] 52 true)).blk h.nx = some (.row [iv p, iv e, sl] 52 true) := blk_new_self _ _
  have hs1 := hs.ext x1
  have hc1 := hc.ext x1
  have hn1 : h.nx < (h.new (.row [iv p, iv e, sl] 52 true)).nx := Nat.lt_succ_self _
  have hn : ∀ {T : Type} (K : Int → Option T), len sl K = K (l.length : Int) := fun K => by rw [hs.len]; simp
  have hcn : ∀ {T : Type} (K : Int → Option T), len cv K = K (c.length : Int) := fun K => by rw [hc.len]; simp
  have kbx : ∀ (K : H → Option (Value × H)), bx h 52 (.agg #[iv p, iv e, sl]) K = K (h.new (.row [iv p, iv e, sl] 52 true)) := fun K => rfl
  generalize h.new (.row [iv p, iv e, sl] 52 true) = h1 at *
  by_cases h12 : 1 ≤ c.length ∧ c.length ≤ 12
  · have x2 : Ext h1 (h1.new (.mp [] 0)) := .new _ _
    have hb2 : (h1.new (.mp [] 0)).blk h1.nx = some (.mp [] 0) := blk_new_self _ _
    have hn2 : (h1.new (.mp [] 0)).nx = h1.nx + 1 := rfl
    have kmm : ∀ (K : H → Option (Value × H)), mkm h1 K = K (h1.new (.mp [] 0)) := fun K => mkm_eq h1 K
    generalize h1.new (.mp [] 0) = h2 at *
    obtain ⟨ee, ws', g, hlp, hres⟩ := lp_rel (σ := Unit) (ρ := Unit) (F := f72_l1 rn 200010 cv h h1 c.length) (k := 200010) (l := c)
      (fun i x _ => if okF l c i x = true then .inl () else .inr ())
      (fun i _ ws g => Ext h1 g ∧ h2.nx ≤ g.nx ∧ (∃ es ck, g.blk h1.nx = some (.mp es ck) ∧ KvI ((c.take i).map fun x => (kI x, .bool true)) es) ∧
        ∃ ov, AqR h2.nx g 88 5 ov ((c.take i).map (stepC l)) ∧ ws = [.slice none 0 0, .bool false, ov, iv i])
      (fun _ e ws g => e = .ret ∧ Ext h1 g ∧ ∃ a b, ws = [.slice none 0 0, .bool false, a, b]) 0 (ws := [.slice none 0 0, .bool false, .slice none 0 0, iv 0]) (h := h2) (s0 := ())
      ⟨x2, Nat.le_refl _, ⟨[], 0, hb2, rfl⟩, _, .nil, rfl⟩ (by omega)
      (by
        rintro _ ws g ⟨_, _, _, ov, _, rfl⟩
        simp [f72_l1])
      (by
        rintro i x _ ws g hx ⟨xg, hng, ⟨es, ck, hmb, hkv⟩, ov, haq, rfl⟩
        have hi := (List.getElem?_eq_some_iff.1 hx).1
        have e1 := fun (K : Value → Option (Ex × List Value × H)) => (hc1.ext xg).c0 (i := (i : Int)) (by omega) (x := [iv x]) (by simp [hx]) (y := iv x) rfl K
        have hadd : add .i64 (i : Int) 1 = (i : Int) + 1 := add64 (by omega) (by omega)
        have hbg := (xg.blk _ hn1).trans hb1
        have hk' : sub .i64 (imax x (sub .i64 0 x)) 1 = kI x := rfl
        by_cases hin : kIn l x
        · have h0 := hin.1
          have h1' := hin.2
          have klok : ∀ (K : Value → Option (Ex × List Value × H)), lok Try.prog g 107 (.map (some h1.nx)) (.int .i64 (kI x)) false K = match look ((c.take i).map fun x => (kI x, Value.bool true)) (kI x) 0 with
            | some r => K r.2
            | none => K (.bool false) := fun K => lok_int0 under107 under3k zero4 hmb hkv
          cases hlk : look ((c.take i).map fun x => (kI x, Value.bool true)) (kI x) 0 with
          | some r =>
            obtain ⟨j, _, hj⟩ := look_some _ _ _ hlk
            rw [List.getElem?_map] at hj
            obtain ⟨y, hy, he⟩ := Option.map_eq_some_iff.1 hj
            have hr2 : r.2 = .bool true := (congrArg Prod.snd he).symm
            have hky : kI y = kI x := congrArg Prod.fst he
            have hF : okF l c i x = false := by
              have : ((c.take i).map kI).contains (kI x) = true := by
                rw [List.contains_iff_mem]
                exact List.mem_map.2 ⟨y, List.mem_of_getElem? hy, hky⟩
              unfold okF
              rw [this]; simp
            rw [hlk] at klok
            simp only [hr2] at klok
            rw [hF, if_neg (by simp)]
            refine ⟨.ret, [.slice none 0 0, .bool false, ov, iv i], g, ?_, by simp, rfl, xg, _, _, rfl⟩
            simp [f72_l1, hi, e1, hk', cell_of hbg, hn, show ¬ kI x < 0 by omega, show ¬ (l.length : Int) ≤ kI x by omega, klok]
          | none =>
            have hno := (look_none _ _).1 hlk
            have hF : okF l c i x = true := by
              have : ((c.take i).map kI).contains (kI x) = false := by
                rw [Bool.eq_false_iff]
                intro hcon
                rw [List.contains_iff_mem] at hcon
                obtain ⟨y, hy, he⟩ := List.mem_map.1 hcon
                exact hno (kI y, .bool true) (List.mem_map.2 ⟨y, hy, rfl⟩) he
              unfold okF
              rw [decide_eq_true hin, this]; rfl
            rw [hlk] at klok
            simp only at klok
            have kmup : ∀ (K : H → Option (Ex × List Value × H)), mup Try.prog g 107 (.map (some h1.nx)) (.int .i64 (kI x)) (.bool true) K = K (g.set h1.nx (.mp (es ++ [{ key := .int .i64 (kI x), val := .bool true, born := ck }]) (ck + 1))) := fun K => mup_new under107 under3k hmb hkv hlk
            have hkv2 : KvI ((c.take (i + 1)).map fun x => (kI x, Value.bool true)) (es ++ [{ key := .int .i64 (kI x), val := .bool true, born := ck }]) := by
              rw [List.take_add_one, hx, List.map_append]
              exact hkv.snoc _ _
            have x5 : Ext h1 (g.set h1.nx (.mp (es ++ [{ key := .int .i64 (kI x), val := .bool true, born := ck }]) (ck + 1))) := ⟨by show h1.nx ≤ g.nx; omega, fun b hb => (blk_set_ne _ _ _ (by omega)).trans (xg.blk b hb)⟩
            have hmb5 : (g.set h1.nx (.mp (es ++ [{ key := .int .i64 (kI x), val := .bool true, born := ck }]) (ck + 1))).blk h1.nx = some (.mp (es ++ [{ key := .int .i64 (kI x), val := .bool true, born := ck }]) (ck + 1)) := blk_set_self _ _ _
            have hng5 : (g.set h1.nx (.mp (es ++ [{ key := .int .i64 (kI x), val := .bool true, born := ck }]) (ck + 1))).nx = g.nx := rfl
            have haq5 : AqR h2.nx (g.set h1.nx (.mp (es ++ [{ key := .int .i64 (kI x), val := .bool true, born := ck }]) (ck + 1))) 88 5 ov ((c.take i).map (stepC l)) := haq.keep (Nat.le_refl _) fun b hb => blk_set_ne _ _ _ (by have := (haq.blkOf hb).1; omega)
            generalize g.set h1.nx (.mp (es ++ [{ key := .int .i64 (kI x), val := .bool true, born := ck }]) (ck + 1)) = g5 at *
            have hbg5 := (x5.blk _ hn1).trans hb1
            have hg := spW_get hin
            have e2 := fun (K : Value → Option (Ex × List Value × H)) => (hs1.ext x5).cA (i := kI x) h0 (x := (spW l x).cells) (by simp [hg]) K
            obtain ⟨ov', g8, e9, a9, n9, k9, b9, hb9, hb9'⟩ := haq5.push app84 app84 (bls84 (spW l x).a (spW l x).b (spW l x).lo (spW l x).hi (decide (x < 0))) rfl rfl (by simp; omega) (by omega)
            have hk : ∀ b, b < h2.nx → g8.blk b = g5.blk b := fun b hb => k9 b (by omega) (fun e => by have := (haq5.blkOf e).1; omega)
            have x8 : Ext h1 g8 := ⟨by omega, fun b hb => (hk b (by omega)).trans (x5.blk b hb)⟩
            rw [hF, if_pos rfl]
            refine ⟨.normal, [.slice none 0 0, .bool false, ov', iv ((i : Int) + 1)], g8, ?_, rfl, x8, by omega, ⟨_, _, (hk _ (by omega)).trans hmb5, hkv2⟩, ov', ?_, rfl⟩
            · simp [f72_l1, hi, e1, hk', cell_of hbg, cell_of hbg5, hn, show ¬ kI x < 0 by omega, show ¬ (l.length : Int) ≤ kI x by omega, klok, kmup, hadd]
              refine (e2 (fun v6 => bld Try.prog 88 [(0, v6), (1, .bool (decide (x < 0)))] _)).trans ?_
              simp [Sp.cells, kbld88, e9]
            · rw [List.take_add_one, hx, List.map_append]
              exact a9
        · have hF : okF l c i x = false := by unfold okF; rw [decide_eq_false hin]; rfl
          rw [hF, if_neg (by simp)]
          refine ⟨.ret, [.slice none 0 0, .bool false, ov, iv i], g, ?_, by simp, rfl, xg, _, _, rfl⟩
          have h3 : kI x < 0 ∨ (l.length : Int) ≤ kI x := by unfold kIn at hin; omega
          simp [f72_l1, hi, e1, hk', cell_of hbg, hn]
          grind)
    have hstart : ∀ (v : Value) (gg : H), (onE ee 0 (len (gv ws' 2) fun n8 => lp 200010 (f72_l2 rn 200010 ws' n8) [gv ws' 0, gv ws' 1, .int .i64 0] g fun e1 ws3 h13 =>
        onE e1 2 (some ((.tuple #[gv ws' 2, (.bool true)]), h13)) (onR e1 (some ((.tuple #[gv ws3 0, gv ws3 1]), h13)))) (onR ee (some ((.tuple #[gv ws' 0, gv ws' 1]), g)))) = some (v, gg) →
        f72 rn 200010 (.agg #[iv p, iv e, sl]) cv h = some (v, gg) := by
      intro v gg hv
      unfold f72
      rw [kbx]
      simp only [hcn, AM.lt, decide_eq_false (show ¬ (c.length : Int) < 1 by omega), decide_eq_false (show ¬ (12 : Int) < (c.length : Int) by omega), ifB_false, kmm]
      exact (lp_eq hlp).trans hv
    rcases itL_all (ok := fun i x => okF l c i x) (g := fun _ _ => ()) (s0 := ()) c 0 with ⟨⟨r, h1'⟩, j, x, hx, h2'⟩ | ⟨h1', h2'⟩
    · rw [h1'] at hres
      obtain ⟨_, rfl, xg, a, b, rfl⟩ := hres
      have hcy : cycP l c = false := by
        rw [Bool.eq_false_iff]
        intro hcy
        have := (cycP_spec.1 hcy).2.2.1 j x hx
        rw [Nat.zero_add] at h2'
        rw [this] at h2'
        cases h2'
      refine ⟨g, x1.trans xg, .inl ⟨hcy, x72 (k := 200010) (hstart _ _ ?_) rfl⟩⟩
      simp
    · rw [h1'] at hres
      obtain ⟨rfl, xg, hng, _, ov, haq, rfl⟩ := hres
      have hall : ∀ i x, c[i]? = some x → okF l c i x = true := fun i x hx => by have := h2' i x hx; rwa [Nat.zero_add] at this
      rw [List.take_length] at haq
      have hso := haq.slR
      have hon : ∀ {T : Type} (K : Int → Option T), len ov K = K (c.length : Int) := fun K => by rw [hso.len]; simp
      have hinA : ∀ (i : Nat) (x : Int), c[i]? = some x → kIn l x := fun i x hx => by
        have := hall i x hx
        unfold okF at this
        rw [Bool.and_eq_true] at this
        exact of_decide_eq_true this.1
      obtain ⟨g', xg', hl2⟩ := lp_list (σ := Unit) (ρ := Nat) (F := f72_l2 rn 200010 [.slice none 0 0, .bool false, ov, iv c.length] c.length) (k := 200010) (l := c) (h1 := g) (fun i (_ : Unit) => [.slice none 0 0, .bool false, iv i])
        (fun i x _ => if linkP l c i = true then .inl () else .inr i) (fun _ _ => True) (fun _ => .ret) (fun i => [.slice none 0 0, .bool false, iv i]) 2 (fun _ => [.slice none 0 0, .bool false, iv c.length]) (ws := [.slice none 0 0, .bool false, iv 0]) (s0 := ()) rfl trivial (by omega) (by simp)
        (fun _ h2 _ _ => by simp [f72_l2])
        (by
          intro i x _ g3 hx _ x3
          have hi := (List.getElem?_eq_some_iff.1 hx).1
          have hadd : add .i64 (i : Int) 1 = (i : Int) + 1 := add64 (by omega) (by omega)
          have hrem : rem .i64 ((i : Int) + 1) (c.length : Int) = (((i + 1) % c.length : Nat) : Int) := by
            rw [show (i : Int) + 1 = ((i + 1 : Nat) : Int) by omega, rem_nat]
          have hnext : (i + 1) % c.length < c.length := Nat.mod_lt _ (by omega)
          have hlk : linkP l c i = decide (endW l (c.getD i 0) = begW l (c.getD ((i + 1) % c.length) 0)) := rfl
          generalize (i + 1) % c.length = m1 at *
          have hgn : c[m1]? = some c[m1] := List.getElem?_eq_getElem hnext
          generalize hyy : c[m1] = y at *
          rw [show c.getD i 0 = x by simp [List.getD, hx], show c.getD m1 0 = y by simp [List.getD, hgn]] at hlk
          have hix := hinA i x hx
          have hiy := hinA m1 y hgn
          rw [show endW l x = endP (spW l x) (decide (x < 0)) from if_pos hix, show begW l y = begP (spW l y) (decide (y < 0)) from if_pos hiy] at hlk
          have x4 := (Ext.refl g3).fresh 88 [iv 0, iv 0, iv 0, iv 0, .bool false] (stepC l x)
          have hcb := blk_fresh g3 88 [iv 0, iv 0, iv 0, iv 0, .bool false] (stepC l x)
          have hso4 := hso.ext (x3.trans x4)
          refine ⟨fun _ _ => trivial, g3.fresh 88 [iv 0, iv 0, iv 0, iv 0, .bool false] (stepC l x), x4, ?_⟩
          unfold f72_l2
          rw [show AM.gv [.slice none 0 0, .bool false, iv i] 2 = iv i from rfl, asI_int, lt_t (by omega), ifB_true, asK_int, show AM.gv [.slice none 0 0, .bool false, ov, iv c.length] 2 = ov from rfl, (hso.ext x3).ldA ag88 sz88 (by omega) (x := stepC l x) (by simp [hx]),
            al_st (zs := [iv 0, iv 0, iv 0, iv 0, .bool false]) (xs := stepC l x) sz88 rfl rfl]
          generalize g3.fresh 88 [iv 0, iv 0, iv 0, iv 0, .bool false] (stepC l x) = h7 at *
          have hrd : h7.rd g3.nx 0 5 = some (stepC l x) := by rw [rd_of hcb]; rfl
          have c93 := fun (K : Value → H → Option (Ex × List Value × H)) => calls_eq (K := K) (xs := [.agg (stepC l x).toArray]) (s93 l x h7)
          have c94 := fun (K : Value → H → Option (Ex × List Value × H)) => calls_eq (K := K) (xs := [.agg (stepC l y).toArray]) (s94 l y h7)
          have hnz : ∀ (z : Option (Ex × List Value × H)), nz (c.length : Int) z = z := fun z => nz_ne (by omega) z
          simp only [nx_eq, d88, hrd, Option.bind_some]
          rw [c93, asI_int, asI_int, hon, hnz, hadd, hrem]
          refine (hso4.ldAck (K := fun v13 => calls rn h7 94 [v13] _) ag88 sz88 (by omega) (x := stepC l y) (by simp [hgn])).trans ?_
          show calls rn h7 94 [.agg (stepC l y).toArray] _ = _
          rw [c94, asI_int]
          cases hq : linkP l c i with
          | true =>
            rw [hlk] at hq
            simp [of_decide_eq_true hq, rnd, hadd]
          | false =>
            rw [hlk] at hq
            simp [of_decide_eq_false hq, rnd])
      rcases itL_all (ok := fun i (_ : Int) => linkP l c i) (g := fun i _ => i) (s0 := ()) c 0 with ⟨⟨r, h1''⟩, j, x, hx, h2''⟩ | ⟨h1'', h2''⟩
      · rw [h1''] at hl2
        rw [Nat.zero_add] at h2''
        have hcy : cycP l c = false := by
          rw [Bool.eq_false_iff]
          intro hcy
          have := (cycP_spec.1 hcy).2.2.2 j (List.getElem?_eq_some_iff.1 hx).1
          rw [this] at h2''
          cases h2''
        refine ⟨g', (x1.trans xg).trans xg', .inl ⟨hcy, x72 (k := 200010) (hstart _ _ ?_) rfl⟩⟩
        simp [hon, lp_eq hl2]
      · rw [h1''] at hl2
        have hcy : cycP l c = true := by
          rw [cycP_spec]
          refine ⟨by omega, by omega, hall, fun i hi => ?_⟩
          have := h2'' i _ (List.getElem?_eq_getElem hi)
          rwa [Nat.zero_add] at this
        refine ⟨g', (x1.trans xg).trans xg', .inr ⟨hcy, ov, x72 (k := 200010) (hstart _ _ ?_) (by obtain ⟨x, y, z, hz⟩ := haq.isSl; rw [hz]; rfl), hso.ext xg'⟩⟩
        simp [hon, lp_eq hl2.1]
  · have hcy : cycP l c = false := by
      rw [Bool.eq_false_iff]
      intro hcy
      have := cycP_spec.1 hcy
      omega
    refine ⟨h1, x1, .inl ⟨hcy, x72 (k := 0) ?_ rfl⟩⟩
    unfold f72
    rw [kbx]
    simp [hcn]
    grind

/-- What a step adds at least and at most. -/
def dLo (l : List Sp) (x : Int) : Int := if x < 0 then -(spW l x).hi else (spW l x).lo

def dHi (l : List Sp) (x : Int) : Int := if x < 0 then -(spW l x).lo else (spW l x).hi

def sumsP (l : List Sp) (c : List Int) : Int × Int := foldI (fun _ x (s : Int × Int) => (s.1 + dLo l x, s.2 + dHi l x)) c 0 (0, 0)

/-- How often round: at least, at most, and is there any? -/
def turnsP (p : Int) (l : List Sp) (c : List Int) : Int × Int × Int :=
  if (sumsP l c).2 / p < -(-(sumsP l c).1 / p) then (0, 0, 4) else (-(-(sumsP l c).1 / p), (sumsP l c).2 / p, 0)

theorem s73 {a p : Int} (hp : 0 < p) (ha : -1000000 < a ∧ a < 1000000) (hp2 : p < 1000) (h : H) : rn 73 #[iv a, iv p] h = some (iv (a / p), h) := by
  refine p73 (k := 0) (h1 := h) ?_ rfl (.refl _)
  have h1 := Int.emod_nonneg a (show p ≠ 0 by omega)
  have h2 := Int.emod_lt_of_pos a hp
  have h3 : (a.tmod p).natAbs < p.natAbs := by
    rw [Int.natAbs_tmod]; exact Nat.mod_lt _ (by omega)
  unfold f73
  rw [nz_ne (by omega), nz_ne (by omega), nz_ne (by omega)]
  show some (iv (quo .i64 (sub .i64 a ((add .i64 (a.tmod p) p).tmod p)) p), h) = _
  rw [add64 (by omega) (by omega), tmod_fix hp, sub64 (by omega) (by omega)]
  have h4 : a - a % p = p * (a / p) := by have := Int.mul_ediv_add_emod a p; omega
  unfold quo
  rw [h4, Int.mul_tdiv_cancel_left _ (by omega), wrap64]
  · have := Int.natAbs_ediv_le_natAbs a p
    omega
  · have := Int.natAbs_ediv_le_natAbs a p
    omega

theorem spW_ok {p e : Int} {l : List Sp} {x : Int} (hv : tabOk p e l = true) (hx : kIn l x) : 0 ≤ (spW l x).lo ∧ (spW l x).lo ≤ (spW l x).hi ∧ (spW l x).hi ≤ 22 := by
  have := List.mem_of_getElem? (spW_get hx)
  simp only [tabOk, Bool.and_eq_true, List.all_eq_true, decide_eq_true_iff] at hv
  have := hv.2 _ this
  simp only [spOk, Bool.and_eq_true, decide_eq_true_iff] at this
  omega

theorem d_ok {p e : Int} {l : List Sp} {x : Int} (hv : tabOk p e l = true) (hx : kIn l x) : -22 ≤ dLo l x ∧ dLo l x ≤ 22 ∧ -22 ≤ dHi l x ∧ dHi l x ≤ 22 := by
  have := spW_ok hv hx
  unfold dLo dHi
  split <;> omega

theorem cyc_in {l : List Sp} {c : List Int} (hc : cycP l c = true) {i : Nat} {x : Int} (hx : c[i]? = some x) : kIn l x := by
  have := (cycP_spec.1 hc).2.2.1 i x hx
  unfold okF at this
  rw [Bool.and_eq_true] at this
  exact of_decide_eq_true this.1

theorem tab_p {p e : Int} {l : List Sp} (hv : tabOk p e l = true) : 1 ≤ p ∧ p ≤ 12 := by
  simp only [tabOk, Bool.and_eq_true, decide_eq_true_iff] at hv; omega

/-- The sums are small. -/
theorem sums_ok {p e : Int} {l : List Sp} {c : List Int} (hv : tabOk p e l = true) (hc : cycP l c = true) : -264 ≤ (sumsP l c).1 ∧ (sumsP l c).1 ≤ 264 ∧ -264 ≤ (sumsP l c).2 ∧ (sumsP l c).2 ≤ 264 := by
  have key : ∀ (c' : List Int) (i : Nat) (s : Int × Int) (B : Int), (∀ x ∈ c', kIn l x) → (-B ≤ s.1 ∧ s.1 ≤ B ∧ -B ≤ s.2 ∧ s.2 ≤ B) →
      -(B + 22 * c'.length) ≤ (foldI (fun _ x (s : Int × Int) => (s.1 + dLo l x, s.2 + dHi l x)) c' i s).1 ∧ (foldI (fun _ x (s : Int × Int) => (s.1 + dLo l x, s.2 + dHi l x)) c' i s).1 ≤ B + 22 * c'.length ∧
      -(B + 22 * c'.length) ≤ (foldI (fun _ x (s : Int × Int) => (s.1 + dLo l x, s.2 + dHi l x)) c' i s).2 ∧ (foldI (fun _ x (s : Int × Int) => (s.1 + dLo l x, s.2 + dHi l x)) c' i s).2 ≤ B + 22 * c'.length := by
    intro c'
    induction c' with
    | nil => intro i s B _ hs; simpa [foldI] using hs
    | cons x c' ih =>
      intro i s B hin hs
      have hd := d_ok hv (hin x (by simp))
      have := ih (i + 1) (s.1 + dLo l x, s.2 + dHi l x) (B + 22) (fun y hy => hin y (by simp [hy])) (by simp only; omega)
      simp only [foldI, List.length_cons]
      omega
  have := key c 0 (0, 0) 0 (fun x hx => by
    obtain ⟨i, hi, rfl⟩ := List.getElem_of_mem hx
    exact cyc_in hc (List.getElem?_eq_getElem hi)) (by simp)
  have hl := (cycP_spec.1 hc).2.1
  unfold sumsP
  omega

/-- The program's answer. -/
theorem s36 {h : H} {p e : Int} {sl cv : Value} {l : List Sp} {c : List Int} (hs : SlR h 67 4 sl (l.map Sp.cells)) (hc : SlR h 3 1 cv (cellsI c)) :
    rn 36 #[.agg #[iv p, iv e, sl], cv] h = some (if tabOk p e l = true ∧ cycP l c = true then .tuple #[iv (turnsP p l c).1, iv (turnsP p l c).2.1, iv (turnsP p l c).2.2] else .tuple #[iv 0, iv 0, iv 2], h) := by
  have x1 := Ext.new h (.row [iv p, iv e, sl] 52 true)
  have hb1 : (h.new (.row [iv p, iv e, sl] 52 true)).blk h.nx = some (.row [iv p, iv e, sl] 52 true) := blk_new_self _ _
  have hn1 : h.nx < (h.new (.row [iv p, iv e, sl] 52 true)).nx := Nat.lt_succ_self _
  have hs1 := hs.ext x1
  have hc1 := hc.ext x1
  have kbx : ∀ (K : H → Option (Value × H)), bx h 52 (.agg #[iv p, iv e, sl]) K = K (h.new (.row [iv p, iv e, sl] 52 true)) := fun K => rfl
  generalize h.new (.row [iv p, iv e, sl] 52 true) = h1 at *
  have c71 := fun (K : Value → H → Option (Value × H)) => calls_eq (K := K) (xs := [.agg #[iv p, iv e, sl]]) (s71 (p := p) (e := e) hs1)
  by_cases hv : tabOk p e l = true
  · obtain ⟨h2, x2, hres⟩ := s72 (p := p) (e := e) hs1 hc1
    rcases hres with ⟨hcy, e72⟩ | ⟨hcy, ov, e72, hso⟩
    · have c72 := fun (K : Value → H → Option (Value × H)) => calls_eq (K := K) (xs := [.agg #[iv p, iv e, sl], cv]) e72
      rw [if_neg (by simp [hcy])]
      refine p36 (k := 0) (h1 := h2) ?_ rfl (x1.trans x2)
      unfold f36
      rw [kbx]
      simp [rd_of hb1, c71, hv, c72]
    · have c72 := fun (K : Value → H → Option (Value × H)) => calls_eq (K := K) (xs := [.agg #[iv p, iv e, sl], cv]) e72
      rw [if_pos ⟨hv, hcy⟩]
      obtain ⟨hl1, hl12, hall, _⟩ := cycP_spec.1 hcy
      obtain ⟨hp1, hp12⟩ := tab_p hv
      have hon : ∀ {T : Type} (K : Int → Option T), len ov K = K (c.length : Int) := fun K => by rw [hso.len]; simp
      obtain ⟨g, xg, hlp⟩ := lp_list (σ := Int × Int) (ρ := Empty) (F := f36_l1 rn 200010 ov c.length) (k := 200010) (l := c) (h1 := h2) (fun i st => [iv st.1, iv st.2, iv i])
        (fun _ x st => .inl (st.1 + dLo l x, st.2 + dHi l x)) (fun i st => -(22 * i : Int) ≤ st.1 ∧ st.1 ≤ 22 * i ∧ -(22 * i : Int) ≤ st.2 ∧ st.2 ≤ 22 * i) (fun _ => .ret) (fun _ => []) 0 (fun st => [iv st.1, iv st.2, iv c.length]) (ws := [iv 0, iv 0, iv 0]) (s0 := (0, 0)) rfl (by simp) (by omega) (by simp)
        (fun _ h2 _ _ => by simp [f36_l1])
        (by
          intro i x st g hx hI xg
          have hi := (List.getElem?_eq_some_iff.1 hx).1
          have hin := cyc_in hcy hx
          have hok := spW_ok hv hin
          have hd := d_ok hv hin
          have hadd : add .i64 (i : Int) 1 = (i : Int) + 1 := add64 (by omega) (by omega)
          refine ⟨fun s' hs' => by cases hs'; simp only; omega, g.fresh 88 [iv 0, iv 0, iv 0, iv 0, .bool false] (stepC l x), (Ext.refl g).fresh _ _ _, ?_⟩
          have hcb := blk_fresh g 88 [iv 0, iv 0, iv 0, iv 0, .bool false] (stepC l x)
          unfold f36_l1
          rw [show AM.gv [iv st.1, iv st.2, iv i] 2 = iv i from rfl, asI_int, lt_t (by omega), ifB_true, asK_int, (hso.ext xg).ldA ag88 sz88 (by omega) (x := stepC l x) (by simp [hx]),
            al_st (zs := [iv 0, iv 0, iv 0, iv 0, .bool false]) (xs := stepC l x) sz88 rfl rfl]
          generalize g.fresh 88 [iv 0, iv 0, iv 0, iv 0, .bool false] (stepC l x) = h7 at *
          simp only [stepC] at hcb
          by_cases hx0 : x < 0
          · have q1 : sub .i64 st.1 (spW l x).hi = st.1 + dLo l x := by unfold dLo; rw [if_pos hx0, sub64 (by omega) (by omega)]; omega
            have q2 : sub .i64 st.2 (spW l x).lo = st.2 + dHi l x := by unfold dHi; rw [if_pos hx0, sub64 (by omega) (by omega)]; omega
            simp [cell_of hcb, hx0, q1, q2, hadd, rnd]
          · have q1 : add .i64 st.1 (spW l x).lo = st.1 + dLo l x := by unfold dLo; rw [if_neg hx0, add64 (by omega) (by omega)]
            have q2 : add .i64 st.2 (spW l x).hi = st.2 + dHi l x := by unfold dHi; rw [if_neg hx0, add64 (by omega) (by omega)]
            simp [cell_of hcb, hx0, q1, q2, hadd, rnd])
      rw [itL_inl (fun _ x (st : Int × Int) => (st.1 + dLo l x, st.2 + dHi l x))] at hlp
      change lpGo (f36_l1 rn 200010 ov c.length) 200010 _ h2 = some (.exit 0, [iv (sumsP l c).1, iv (sumsP l c).2, iv c.length], g) ∧ _ at hlp
      obtain ⟨hlp, _⟩ := hlp
      obtain ⟨b1, b2, b3, b4⟩ := sums_ok hv hcy
      have hbg := (xg.blk _ (by have := x2.nx; omega)).trans ((x2.blk _ hn1).trans hb1)
      have q0 : sub .i64 0 (sumsP l c).1 = -(sumsP l c).1 := by rw [sub64 (by omega) (by omega)]; omega
      have c73a := fun (K : Value → H → Option (Value × H)) => calls_eq (K := K) (xs := [iv (-(sumsP l c).1), iv p]) (s73 (a := -(sumsP l c).1) (p := p) (by omega) (by omega) (by omega) g)
      have c73b := fun (K : Value → H → Option (Value × H)) => calls_eq (K := K) (xs := [iv (sumsP l c).2, iv p]) (s73 (a := (sumsP l c).2) (p := p) (by omega) (by omega) (by omega) g)
      have hab : (-(sumsP l c).1 / p).natAbs ≤ (-(sumsP l c).1).natAbs := Int.natAbs_ediv_le_natAbs _ _
      have q1 : sub .i64 0 (-(sumsP l c).1 / p) = -(-(sumsP l c).1 / p) := by rw [sub64 (by omega) (by omega)]; omega
      have hck : ∀ (z : Option (Value × H)), ck (freq h.nx g.nx (same g g)) z = z := fun z => by
        rw [same_self]
        have : h.nx < g.nx := by have := x2.nx; have := xg.nx; omega
        simp [freq, this, ck]
      have hF : f36 rn 200010 (.agg #[iv p, iv e, sl]) cv h = some (.tuple #[iv (turnsP p l c).1, iv (turnsP p l c).2.1, iv (turnsP p l c).2.2], g) := by
        unfold f36
        rw [kbx]
        simp only [nx_eq, d52, rd_of hb1, AM.off, Nat.zero_add, Nat.add_zero]
        rw [if_pos (by simp)]
        simp only [List.drop_zero, List.take_succ_cons, List.take_zero, Option.bind_some]
        rw [c71, hv, asB_bool]
        simp only [Bool.not_true, ifB_false, rd_of hb1]
        rw [if_pos (by simp)]
        simp only [List.drop_zero, List.take_succ_cons, List.take_zero, Option.bind_some]
        rw [c72]
        simp only [ext20, ext21, asB_bool, Bool.not_true, ifB_false, hon]
        rw [lp_eq hlp]
        unfold turnsP
        by_cases hlt : (sumsP l c).2 / p < -(-(sumsP l c).1 / p)
        · simp [cell_of hbg, q0, c73a, c73b, hck, q1, hlt]
        · simp [cell_of hbg, q0, c73a, c73b, hck, q1, hlt]
      have hpl : plainO (.tuple #[iv (turnsP p l c).1, iv (turnsP p l c).2.1, iv (turnsP p l c).2.2]) = true := rfl
      exact p36 hF hpl ((x1.trans x2).trans xg)
  · rw [if_neg (by simp [hv])]
    refine p36 (k := 0) (h1 := h1) ?_ rfl x1
    unfold f36
    rw [kbx]
    simp [rd_of hb1, c71, hv]

end Go.AM

end

section

/- The staged forms of functions 13, 47, 48, 49, 50, 77, 81, 82, 83, 84, 98, and what calls of these answer. -/
namespace Go.AM
open Go.Proofs
noncomputable def f13 (rec : Rec) (_k : Nat) (v0 : Value) (v1 : Value) (h0 : H) : Option (Value × H) :=
  bx h0 47 v0 fun h1 =>
  ld Try.prog h1 47 (nx h0) 0 fun v2 =>
  calls rec h1 37 [v2] fun v3 h2 =>
  calls rec h2 47 [v3] fun v4 h3 =>
  ext v4 0 fun v5 =>
  ext v4 1 fun v6 =>
  asI .i64 v6 fun n0 =>
  ld Try.prog h3 47 (nx h0) 0 fun v7 =>
  calls rec h3 37 [v7] fun v8 h4 =>
  calls rec h4 18 [v1] fun v9 h5 =>
  calls rec h5 48 [v8, v9] fun v10 h6 =>
  ext v10 0 fun v11 =>
  asB v11 fun q0 =>
  ext v10 1 fun v12 =>
  asI .i64 v12 fun n1 =>
  ld Try.prog h6 47 (nx h0) 0 fun v13 =>
  calls rec h6 38 [v13] fun v14 h7 =>
  asB v14 fun q1 =>
  ifB (not q1) (
    len v5 fun n2 =>
    ifB (eq n2 0) (
      ifB (not q0) (
        ifB (eq n0 2) (
          ifB (eq n1 2) (
            calls rec h7 19 [] fun v15 h8 =>
            asB v15 fun q2 =>
            some ((.bool q2), h8)) (
            some ((.bool false), h7))) (
          some ((.bool false), h7))) (
        some ((.bool false), h7))) (
      some ((.bool false), h7))) (
    ld Try.prog h7 47 (nx h0) 0 fun v16 =>
    calls rec h7 49 [v16] fun v17 h9 =>
    ext v17 0 fun v18 =>
    ext v17 1 fun v19 =>
    asI .i64 v19 fun n3 =>
    calls rec h9 26 [v5, v18] fun v20 h10 =>
    asB v20 fun q3 =>
    ifB q3 (
      ifB (eq n0 n3) (
        ld Try.prog h10 47 (nx h0) 0 fun v21 =>
        calls rec h10 50 [v21, v1] fun v22 h11 =>
        asB v22 fun q4 =>
        eqv Try.prog 4 (.bool q0) (.bool q4) fun q5 =>
        ifB q5 (
          ifB (eq n1 0) (
            calls rec h11 19 [] fun v23 h12 =>
            asB v23 fun q6 =>
            some ((.bool q6), h12)) (
            some ((.bool false), h11))) (
          some ((.bool false), h11))) (
        some ((.bool false), h10))) (
      some ((.bool false), h10)))

theorem e13 (rec : Rec) (k : Nat) (v0 : Value) (v1 : Value) (h : H) : bodyT Try.prog E0 SC (XC Try.prog rec k) 13 (Value × H) [.opq v0, .opq v1] h (fun v h => some (v, h)) = f13 rec k v0 v1 h := by kernel_rfl

theorem t13 {k : Nat} {v0 : Value} {v1 : Value} {h h1 : H} {v : Value} (hh : f13 rn k v0 v1 h = some (v, h1)) : rn 13 #[v0, v1] h = some (v, trunc Try.prog h h1 v) :=
  run_of_bodyT (args := [.opq v0, .opq v1]) rfl ((e13 _ _ _ _ _).trans hh)

theorem x13 {k : Nat} {v0 : Value} {v1 : Value} {h h1 : H} {v : Value} (hh : f13 rn k v0 v1 h = some (v, h1)) (hp : plainO v = false) : rn 13 #[v0, v1] h = some (v, h1) := by rw [t13 hh, trunc_not hp]

noncomputable def f47 (rec : Rec) (_k : Nat) (v0 : Value) (h0 : H) : Option (Value × H) :=
  bx h0 52 v0 fun h1 =>
  ld Try.prog h1 52 (nx h0) 0 fun v1 =>
  calls rec h1 71 [v1] fun v2 h2 =>
  asB v2 fun q0 =>
  ifB (not q0) (
    some ((.tuple #[(.slice none 0 0), (.int .i64 2)]), h2)) (
    ld Try.prog h2 52 (nx h0) 0 fun v3 =>
    ld Try.prog h2 50 (nx h0) (off 0 2) fun v4 =>
    len v4 fun n0 =>
    nn n0 (
      calls rec h2 77 [v3, (.int .i64 (sub .i64 (shl .i64 1 n0) 1))] fun v5 h3 =>
      eqv Try.prog 22 v5 (.slice none 0 0) fun q1 =>
      ifB q1 (
        some ((.tuple #[(.slice none 0 0), (.int .i64 4)]), h3)) (
        some ((.tuple #[v5, (.int .i64 0)]), h3))))

theorem e47 (rec : Rec) (k : Nat) (v0 : Value) (h : H) : bodyT Try.prog E0 SC (XC Try.prog rec k) 47 (Value × H) [.opq v0] h (fun v h => some (v, h)) = f47 rec k v0 h := by kernel_rfl

theorem t47 {k : Nat} {v0 : Value} {h h1 : H} {v : Value} (hh : f47 rn k v0 h = some (v, h1)) : rn 47 #[v0] h = some (v, trunc Try.prog h h1 v) :=
  run_of_bodyT (args := [.opq v0]) rfl ((e47 _ _ _ _).trans hh)

theorem x47 {k : Nat} {v0 : Value} {h h1 : H} {v : Value} (hh : f47 rn k v0 h = some (v, h1)) (hp : plainO v = false) : rn 47 #[v0] h = some (v, h1) := by rw [t47 hh, trunc_not hp]

noncomputable def f48 (rec : Rec) (_k : Nat) (v0 : Value) (v1 : Value) (h0 : H) : Option (Value × H) :=
  bx h0 52 v0 fun h1 =>
  bx h1 22 v1 fun h2 =>
  ld Try.prog h2 52 (nx h0) 0 fun v2 =>
  calls rec h2 71 [v2] fun v3 h3 =>
  asB v3 fun q0 =>
  ifB (not q0) (
    some ((.tuple #[(.bool false), (.int .i64 2)]), h3)) (
    ld Try.prog h3 22 (nx h1) 0 fun v4 =>
    len v4 fun n0 =>
    ld Try.prog h3 3 (nx h0) (off 0 1) fun v5 =>
    asI .i64 v5 fun n1 =>
    ifB (not (eq n0 n1)) (
      some ((.tuple #[(.bool false), (.int .i64 0)]), h3)) (
      ld Try.prog h3 22 (nx h1) 0 fun v6 =>
      calls rec h3 78 [v6] fun v7 h4 =>
      asI .i64 v7 fun n2 =>
      ifB (lt n2 0) (
        some ((.tuple #[(.bool false), (.int .i64 0)]), h4)) (
        ld Try.prog h4 22 (nx h1) 0 fun v8 =>
        calls rec h4 79 [v8] fun v9 h5 =>
        asI .i64 v9 fun n3 =>
        ld Try.prog h5 3 (nx h0) 0 fun v10 =>
        asI .i64 v10 fun n4 =>
        ck (freq (nx h0) (nx h4) (same h5 h4)) (
          ifB (le n4 n3) (
            some ((.tuple #[(.bool false), (.int .i64 0)]), h5)) (
            ld Try.prog h5 50 (nx h0) (off 0 2) fun v11 =>
            calls rec h5 80 [v11, (.func (.func 81) #[] #[(pt (nx h0) 0), (pt (nx h1) 0)])] fun v12 h6 =>
            asB v12 fun q1 =>
            some ((.tuple #[(.bool (not q1)), (.int .i64 0)]), h6))))))

theorem e48 (rec : Rec) (k : Nat) (v0 : Value) (v1 : Value) (h : H) : bodyT Try.prog E0 SC (XC Try.prog rec k) 48 (Value × H) [.opq v0, .opq v1] h (fun v h => some (v, h)) = f48 rec k v0 v1 h := by kernel_rfl

theorem t48 {k : Nat} {v0 : Value} {v1 : Value} {h h1 : H} {v : Value} (hh : f48 rn k v0 v1 h = some (v, h1)) : rn 48 #[v0, v1] h = some (v, trunc Try.prog h h1 v) :=
  run_of_bodyT (args := [.opq v0, .opq v1]) rfl ((e48 _ _ _ _ _).trans hh)

theorem p48 {k : Nat} {v0 : Value} {v1 : Value} {h h1 : H} {v : Value} (hh : f48 rn k v0 v1 h = some (v, h1)) (hp : plainO v = true) (x : Ext h h1) : rn 48 #[v0, v1] h = some (v, h) := by rw [t48 hh, trunc_pure hp x]

noncomputable def f49 (rec : Rec) (_k : Nat) (v0 : Value) (h0 : H) : Option (Value × H) :=
  bx h0 47 v0 fun h1 =>
  ld Try.prog h1 47 (nx h0) 0 fun v1 =>
  calls rec h1 83 [v1, (.slice none 0 0)] fun v2 h2 =>
  eqv Try.prog 22 v2 (.slice none 0 0) fun q0 =>
  ifB (not q0) (
    some ((.tuple #[v2, (.int .i64 0)]), h2)) (
    some ((.tuple #[(.slice none 0 0), (.int .i64 4)]), h2))

theorem e49 (rec : Rec) (k : Nat) (v0 : Value) (h : H) : bodyT Try.prog E0 SC (XC Try.prog rec k) 49 (Value × H) [.opq v0] h (fun v h => some (v, h)) = f49 rec k v0 h := by kernel_rfl

noncomputable def f50_l1 (_rec : Rec) (_k : Nat) (v1 : Value) (h0 : H) (n0 : Int) (ws0 : List Value) (h2 : H) : Option (Ex × List Value × H) :=
  asI .i64 (gv ws0 1) fun n1 =>
  ifB (lt n1 n0) (
    asK (gv ws0 1) fun n2 =>
    six v1 n2 1 fun b0 b1 =>
    ld Try.prog h2 3 b0 b1 fun v2 =>
    asI .i64 v2 fun n3 =>
    ifB (lt n3 0) (
      out .ret [(.bool false), gv ws0 1] h2) (
      ld Try.prog h2 3 (nx h0) 0 fun v3 =>
      asI .i64 v3 fun n4 =>
      ifB (le n4 n3) (
        out .ret [(.bool false), gv ws0 1] h2) (
        asI .i64 (gv ws0 1) fun n5 =>
        out .normal [gv ws0 0, (.int .i64 (add .i64 n5 1))] h2))) (
    out (.exit 0) [gv ws0 0, gv ws0 1] h2)

noncomputable def f50_l2 (rec : Rec) (_k : Nat) (v1 : Value) (h0 : H) (v5 : Value) (n8 : Int) (ws2 : List Value) (h4 : H) : Option (Ex × List Value × H) :=
  asI .i64 (gv ws2 1) fun n9 =>
  ifB (lt n9 n8) (
    asK (gv ws2 1) fun n10 =>
    six v5 n10 4 fun b2 b3 =>
    ld Try.prog h4 89 b2 b3 fun v6 =>
    al h4 89 [(.int .i64 0), (.int .i64 0), (.int .i64 0), (.int .i64 0)] fun h5 =>
    st Try.prog h5 89 (nx h4) 0 v6 fun h6 =>
    ld Try.prog h6 47 (nx h0) 0 fun v7 =>
    ld Try.prog h6 89 (nx h4) 0 fun v8 =>
    ld Try.prog h6 3 (nx h4) 0 fun v9 =>
    asI .i64 v9 fun n11 =>
    six v1 n11 1 fun b4 b5 =>
    ld Try.prog h6 3 b4 b5 fun v10 =>
    asI .i64 v10 fun n12 =>
    ld Try.prog h6 3 (nx h4) (off 0 1) fun v11 =>
    asI .i64 v11 fun n13 =>
    six v1 n13 1 fun b6 b7 =>
    ld Try.prog h6 3 b6 b7 fun v12 =>
    asI .i64 v12 fun n14 =>
    calls rec h6 84 [v7, v8, (.int .i64 n12), (.int .i64 n14)] fun v13 h7 =>
    asB v13 fun q0 =>
    ifB (not q0) (
      out .ret [(.bool false), gv ws2 1] h7) (
      asI .i64 (gv ws2 1) fun n15 =>
      out .normal [gv ws2 0, (.int .i64 (add .i64 n15 1))] h7)) (
    out (.exit 2) [gv ws2 0, gv ws2 1] h4)

noncomputable def f50 (rec : Rec) (k : Nat) (v0 : Value) (v1 : Value) (h0 : H) : Option (Value × H) :=
  bx h0 47 v0 fun h1 =>
  len v1 fun n0 =>
  lp k (f50_l1 rec k v1 h0 n0) [(.bool false), (.int .i64 0)] h1 fun e0 ws1 h3 =>
  onE e0 0 (
    len v1 fun n6 =>
    ld Try.prog h3 3 (nx h0) (off 0 1) fun v4 =>
    asI .i64 v4 fun n7 =>
    ifB (not (eq n6 n7)) (
      some ((.bool false), h3)) (
      ld Try.prog h3 45 (nx h0) (off 0 2) fun v5 =>
      len v5 fun n8 =>
      lp k (f50_l2 rec k v1 h0 v5 n8) [gv ws1 0, (.int .i64 0)] h3 fun e1 ws3 h8 =>
      onE e1 2 (
        some ((.bool true), h8)) (
        onR e1 (
          some (gv ws3 0, h8))))) (
    onR e0 (
      some (gv ws1 0, h3)))

theorem e50 (rec : Rec) (k : Nat) (v0 : Value) (v1 : Value) (h : H) : bodyT Try.prog E0 SC (XC Try.prog rec k) 50 (Value × H) [.opq v0, .opq v1] h (fun v h => some (v, h)) = f50 rec k v0 v1 h := by kernel_rfl

noncomputable def f77 (rec : Rec) (_k : Nat) (v0 : Value) (n0 : Int) (h0 : H) : Option (Value × H) :=
  bx h0 52 v0 fun h1 =>
  bx h1 3 (.int .i64 n0) fun h2 =>
  al h2 22 [(.slice none 0 0)] fun h3 =>
  al h3 27 [.nilFunc] fun h4 =>
  st Try.prog h4 27 (nx h3) 0 (.func (.func 98) #[] #[(pt (nx h2) 0), (pt (nx h0) 0), (pt (nx h1) 0), (pt (nx h3) 0)]) fun h5 =>
  ld Try.prog h5 27 (nx h3) 0 fun v1 =>
  callsV rec h5 v1 [] fun v2 h6 =>
  asB v2 fun q0 =>
  ifB (not q0) (
    some ((.slice none 0 0), h6)) (
    ld Try.prog h6 22 (nx h2) 0 fun v3 =>
    some (v3, h6))

theorem e77 (rec : Rec) (k : Nat) (v0 : Value) (n0 : Int) (h : H) : bodyT Try.prog E0 SC (XC Try.prog rec k) 77 (Value × H) [.opq v0, .int .i64 n0] h (fun v h => some (v, h)) = f77 rec k v0 n0 h := by kernel_rfl

theorem t77 {k : Nat} {v0 : Value} {n0 : Int} {h h1 : H} {v : Value} (hh : f77 rn k v0 n0 h = some (v, h1)) : rn 77 #[v0, .int .i64 n0] h = some (v, trunc Try.prog h h1 v) :=
  run_of_bodyT (args := [.opq v0, .int .i64 n0]) rfl ((e77 _ _ _ _ _).trans hh)

theorem x77 {k : Nat} {v0 : Value} {n0 : Int} {h h1 : H} {v : Value} (hh : f77 rn k v0 n0 h = some (v, h1)) (hp : plainO v = false) : rn 77 #[v0, .int .i64 n0] h = some (v, h1) := by rw [t77 hh, trunc_not hp]

noncomputable def f81 (rec : Rec) (_k : Nat) (v0 : Value) (v1 : Value) (v2 : Value) (h0 : H) : Option (Value × H) :=
  bx h0 67 v0 fun h1 =>
  asP v1 fun _ _ =>
  asP v1 fun b2 b3 =>
  ld Try.prog h1 52 b2 b3 fun v3 =>
  ld Try.prog h1 67 (nx h0) 0 fun v4 =>
  asP v2 fun _ _ =>
  asP v2 fun b6 b7 =>
  ld Try.prog h1 22 b6 b7 fun v5 =>
  ld Try.prog h1 3 (nx h0) 0 fun v6 =>
  asI .i64 v6 fun n0 =>
  six v5 n0 1 fun b8 b9 =>
  ld Try.prog h1 3 b8 b9 fun v7 =>
  asI .i64 v7 fun n1 =>
  asP v2 fun _ _ =>
  asP v2 fun b12 b13 =>
  ld Try.prog h1 22 b12 b13 fun v8 =>
  ld Try.prog h1 3 (nx h0) (off 0 1) fun v9 =>
  asI .i64 v9 fun n2 =>
  six v8 n2 1 fun b14 b15 =>
  ld Try.prog h1 3 b14 b15 fun v10 =>
  asI .i64 v10 fun n3 =>
  calls rec h1 82 [v3, v4, (.int .i64 n1), (.int .i64 n3)] fun v11 h2 =>
  asB v11 fun q0 =>
  some ((.bool (not q0)), h2)

theorem e81 (rec : Rec) (k : Nat) (v0 : Value) (v1 : Value) (v2 : Value) (h : H) : bodyT Try.prog E0 SC (XC Try.prog rec k) 81 (Value × H) [.opq v0, .opq v1, .opq v2] h (fun v h => some (v, h)) = f81 rec k v0 v1 v2 h := by kernel_rfl

theorem t81 {k : Nat} {v0 : Value} {v1 : Value} {v2 : Value} {h h1 : H} {v : Value} (hh : f81 rn k v0 v1 v2 h = some (v, h1)) : rn 81 #[v0, v1, v2] h = some (v, trunc Try.prog h h1 v) :=
  run_of_bodyT (args := [.opq v0, .opq v1, .opq v2]) rfl ((e81 _ _ _ _ _ _).trans hh)

theorem p81 {k : Nat} {v0 : Value} {v1 : Value} {v2 : Value} {h h1 : H} {v : Value} (hh : f81 rn k v0 v1 v2 h = some (v, h1)) (hp : plainO v = true) (x : Ext h h1) : rn 81 #[v0, v1, v2] h = some (v, h) := by rw [t81 hh, trunc_pure hp x]

noncomputable def f82 (_rec : Rec) (_k : Nat) (v0 : Value) (v1 : Value) (n0 : Int) (n1 : Int) (h0 : H) : Option (Value × H) :=
  bx h0 52 v0 fun h1 =>
  bx h1 67 v1 fun h2 =>
  ld Try.prog h2 3 (nx h1) (off 0 2) fun v2 =>
  asI .i64 v2 fun n2 =>
  ld Try.prog h2 3 (nx h0) 0 fun v3 =>
  asI .i64 v3 fun n3 =>
  nz n3 (
    ld Try.prog h2 3 (nx h0) 0 fun v4 =>
    asI .i64 v4 fun n4 =>
    ld Try.prog h2 3 (nx h0) 0 fun v5 =>
    asI .i64 v5 fun n5 =>
    nz n5 (
      ld Try.prog h2 3 (nx h1) (off 0 2) fun v6 =>
      asI .i64 v6 fun n6 =>
      ld Try.prog h2 3 (nx h1) (off 0 3) fun v7 =>
      asI .i64 v7 fun n7 =>
      some ((.bool (le (add .i64 n6 (rem .i64 (add .i64 (rem .i64 (sub .i64 (sub .i64 n1 n0) n2) n3) n4) n5)) n7)), h2)))

theorem e82 (rec : Rec) (k : Nat) (v0 : Value) (v1 : Value) (n0 : Int) (n1 : Int) (h : H) : bodyT Try.prog E0 SC (XC Try.prog rec k) 82 (Value × H) [.opq v0, .opq v1, .int .i64 n0, .int .i64 n1] h (fun v h => some (v, h)) = f82 rec k v0 v1 n0 n1 h := by kernel_rfl

theorem t82 {k : Nat} {v0 : Value} {v1 : Value} {n0 : Int} {n1 : Int} {h h1 : H} {v : Value} (hh : f82 rn k v0 v1 n0 n1 h = some (v, h1)) : rn 82 #[v0, v1, .int .i64 n0, .int .i64 n1] h = some (v, trunc Try.prog h h1 v) :=
  run_of_bodyT (args := [.opq v0, .opq v1, .int .i64 n0, .int .i64 n1]) rfl ((e82 _ _ _ _ _ _ _).trans hh)

theorem p82 {k : Nat} {v0 : Value} {v1 : Value} {n0 : Int} {n1 : Int} {h h1 : H} {v : Value} (hh : f82 rn k v0 v1 n0 n1 h = some (v, h1)) (hp : plainO v = true) (x : Ext h h1) : rn 82 #[v0, v1, .int .i64 n0, .int .i64 n1] h = some (v, h) := by rw [t82 hh, trunc_pure hp x]

noncomputable def f83_l1 (rec : Rec) (_k : Nat) (v1 : Value) (h0 : H) (n0 : Int) (v2 : Value) (n1 : Int) (ws0 : List Value) (h2 : H) : Option (Ex × List Value × H) :=
  asI .i64 (gv ws0 1) fun n2 =>
  ifB (lt n2 n1) (
    asK (gv ws0 1) fun n3 =>
    six v2 n3 4 fun b0 b1 =>
    ld Try.prog h2 89 b0 b1 fun v3 =>
    al h2 89 [(.int .i64 0), (.int .i64 0), (.int .i64 0), (.int .i64 0)] fun h3 =>
    st Try.prog h3 89 (nx h2) 0 v3 fun h4 =>
    ld Try.prog h4 3 (nx h2) 0 fun v4 =>
    asI .i64 v4 fun n4 =>
    ifB (lt n4 n0) (
      ld Try.prog h4 3 (nx h2) (off 0 1) fun v5 =>
      asI .i64 v5 fun n5 =>
      ifB (lt n5 n0) (
        ld Try.prog h4 3 (nx h2) 0 fun v6 =>
        asI .i64 v6 fun n6 =>
        ifB (eq n6 (sub .i64 n0 1)) (
          ld Try.prog h4 47 (nx h0) 0 fun v7 =>
          ld Try.prog h4 89 (nx h2) 0 fun v8 =>
          ld Try.prog h4 3 (nx h2) 0 fun v9 =>
          asI .i64 v9 fun n7 =>
          six v1 n7 1 fun b2 b3 =>
          ld Try.prog h4 3 b2 b3 fun v10 =>
          asI .i64 v10 fun n8 =>
          ld Try.prog h4 3 (nx h2) (off 0 1) fun v11 =>
          asI .i64 v11 fun n9 =>
          six v1 n9 1 fun b4 b5 =>
          ld Try.prog h4 3 b4 b5 fun v12 =>
          asI .i64 v12 fun n10 =>
          calls rec h4 84 [v7, v8, (.int .i64 n8), (.int .i64 n10)] fun v13 h5 =>
          asB v13 fun q0 =>
          ifB (not q0) (
            out .ret [(.slice none 0 0), gv ws0 1] h5) (
            asI .i64 (gv ws0 1) fun n11 =>
            out .normal [gv ws0 0, (.int .i64 (add .i64 n11 1))] h5)) (
          ld Try.prog h4 3 (nx h2) (off 0 1) fun v14 =>
          asI .i64 v14 fun n12 =>
          ifB (eq n12 (sub .i64 n0 1)) (
            ld Try.prog h4 47 (nx h0) 0 fun v15 =>
            ld Try.prog h4 89 (nx h2) 0 fun v16 =>
            ld Try.prog h4 3 (nx h2) 0 fun v17 =>
            asI .i64 v17 fun n13 =>
            six v1 n13 1 fun b6 b7 =>
            ld Try.prog h4 3 b6 b7 fun v18 =>
            asI .i64 v18 fun n14 =>
            ld Try.prog h4 3 (nx h2) (off 0 1) fun v19 =>
            asI .i64 v19 fun n15 =>
            six v1 n15 1 fun b8 b9 =>
            ld Try.prog h4 3 b8 b9 fun v20 =>
            asI .i64 v20 fun n16 =>
            calls rec h4 84 [v15, v16, (.int .i64 n14), (.int .i64 n16)] fun v21 h6 =>
            asB v21 fun q1 =>
            ifB (not q1) (
              out .ret [(.slice none 0 0), gv ws0 1] h6) (
              asI .i64 (gv ws0 1) fun n17 =>
              out .normal [gv ws0 0, (.int .i64 (add .i64 n17 1))] h6)) (
            asI .i64 (gv ws0 1) fun n18 =>
            out .normal [gv ws0 0, (.int .i64 (add .i64 n18 1))] h4))) (
        asI .i64 (gv ws0 1) fun n19 =>
        out .normal [gv ws0 0, (.int .i64 (add .i64 n19 1))] h4)) (
      asI .i64 (gv ws0 1) fun n20 =>
      out .normal [gv ws0 0, (.int .i64 (add .i64 n20 1))] h4)) (
    out (.exit 0) [gv ws0 0, gv ws0 1] h2)

noncomputable def f83_l2 (rec : Rec) (_k : Nat) (v1 : Value) (h0 : H) (n0 : Int) (n22 : Int) (ws2 : List Value) (h8 : H) : Option (Ex × List Value × H) :=
  asI .i64 (gv ws2 1) fun n23 =>
  ifB (lt n23 n22) (
    ld Try.prog h8 47 (nx h0) 0 fun v24 =>
    sli Try.prog h8 22 v1 none (some (.int .i64 n0)) (some (.int .i64 n0)) fun v25 =>
    bls Try.prog h8 22 1 [(0, gv ws2 1)] fun v26 h9 =>
    ck (fres v1 (nx h8) (same h9 h8)) (
      ck (freq (nx h0) (nx h8) (same h9 h8)) (
        app Try.prog h9 22 22 v25 v26 fun v27 h10 =>
        ck (freq (nx h0) (nx h9) (same h10 h9)) (
          calls rec h10 83 [v24, v27] fun v28 h11 =>
          eqv Try.prog 22 v28 (.slice none 0 0) fun q2 =>
          ifB (not q2) (
            out .ret [v28, gv ws2 1] h11) (
            ifB (eq n0 0) (
              out (.exit 2) [gv ws2 0, gv ws2 1] h11) (
              asI .i64 (gv ws2 1) fun n24 =>
              out .normal [gv ws2 0, (.int .i64 (add .i64 n24 1))] h11)))))) (
    out (.exit 2) [gv ws2 0, gv ws2 1] h8)

noncomputable def f83 (rec : Rec) (k : Nat) (v0 : Value) (v1 : Value) (h0 : H) : Option (Value × H) :=
  bx h0 47 v0 fun h1 =>
  len v1 fun n0 =>
  ld Try.prog h1 45 (nx h0) (off 0 2) fun v2 =>
  len v2 fun n1 =>
  lp k (f83_l1 rec k v1 h0 n0 v2 n1) [(.slice none 0 0), (.int .i64 0)] h1 fun e0 ws1 h7 =>
  onE e0 0 (
    ld Try.prog h7 3 (nx h0) (off 0 1) fun v22 =>
    asI .i64 v22 fun n21 =>
    ifB (eq n0 n21) (
      some (v1, h7)) (
      ld Try.prog h7 3 (nx h0) 0 fun v23 =>
      asI .i64 v23 fun n22 =>
      lp k (f83_l2 rec k v1 h0 n0 n22) [gv ws1 0, (.int .i64 0)] h7 fun e1 ws3 h12 =>
      onE e1 2 (
        some ((.slice none 0 0), h12)) (
        onR e1 (
          some (gv ws3 0, h12))))) (
    onR e0 (
      some (gv ws1 0, h7)))

theorem e83 (rec : Rec) (k : Nat) (v0 : Value) (v1 : Value) (h : H) : bodyT Try.prog E0 SC (XC Try.prog rec k) 83 (Value × H) [.opq v0, .opq v1] h (fun v h => some (v, h)) = f83 rec k v0 v1 h := by kernel_rfl

noncomputable def f84_l1 (_rec : Rec) (_k : Nat) (n0 : Int) (n1 : Int) (h0 : H) (h1 : H) (ws0 : List Value) (h3 : H) : Option (Ex × List Value × H) :=
  ld Try.prog h3 3 (nx h1) (off 0 3) fun v3 =>
  asI .i64 v3 fun n3 =>
  asI .i64 (gv ws0 1) fun n4 =>
  ifB (le n4 n3) (
    asI .i64 (gv ws0 1) fun n5 =>
    ld Try.prog h3 3 (nx h0) 0 fun v4 =>
    asI .i64 v4 fun n6 =>
    nz n6 (
      ifB (eq (rem .i64 (sub .i64 (sub .i64 n1 n0) n5) n6) 0) (
        out .ret [(.bool true), gv ws0 1] h3) (
        asI .i64 (gv ws0 1) fun n7 =>
        out .normal [gv ws0 0, (.int .i64 (add .i64 n7 1))] h3))) (
    out (.exit 0) [gv ws0 0, gv ws0 1] h3)

noncomputable def f84 (rec : Rec) (k : Nat) (v0 : Value) (v1 : Value) (n0 : Int) (n1 : Int) (h0 : H) : Option (Value × H) :=
  bx h0 47 v0 fun h1 =>
  bx h1 89 v1 fun h2 =>
  ld Try.prog h2 3 (nx h1) (off 0 2) fun v2 =>
  asI .i64 v2 fun n2 =>
  lp k (f84_l1 rec k n0 n1 h0 h1) [(.bool false), (.int .i64 n2)] h2 fun e0 ws1 h4 =>
  onE e0 0 (
    some ((.bool false), h4)) (
    onR e0 (
      some (gv ws1 0, h4)))

theorem e84 (rec : Rec) (k : Nat) (v0 : Value) (v1 : Value) (n0 : Int) (n1 : Int) (h : H) : bodyT Try.prog E0 SC (XC Try.prog rec k) 84 (Value × H) [.opq v0, .opq v1, .int .i64 n0, .int .i64 n1] h (fun v h => some (v, h)) = f84 rec k v0 v1 n0 n1 h := by kernel_rfl

noncomputable def f98_l2 (rec : Rec) (_k : Nat) (v0 : Value) (v1 : Value) (v2 : Value) (n0 : Int) (v10 : Value) (n4 : Int) (ws1 : List Value) (h5 : H) : Option (Ex × List Value × H) :=
  asI .i64 (gv ws1 1) fun n5 =>
  ifB (lt n5 n4) (
    asK (gv ws1 1) fun n6 =>
    six v10 n6 4 fun b12 b13 =>
    ld Try.prog h5 67 b12 b13 fun v11 =>
    al h5 67 [(.int .i64 0), (.int .i64 0), (.int .i64 0), (.int .i64 0)] fun h6 =>
    st Try.prog h6 67 (nx h5) 0 v11 fun h7 =>
    asP v2 fun b14 b15 =>
    ld Try.prog h7 3 b14 b15 fun v12 =>
    asI .i64 v12 fun n7 =>
    asK (gv ws1 1) fun n8 =>
    nn n8 (
      ifB (eq (and .i64 (shr .i64 n7 n8) 1) 1) (
        ld Try.prog h7 3 (nx h5) 0 fun v13 =>
        asI .i64 v13 fun n9 =>
        ld Try.prog h7 3 (nx h5) (off 0 1) fun v14 =>
        asI .i64 v14 fun n10 =>
        ifB (eq (imax n9 n10) n0) (
          asB (gv ws1 0) fun q0 =>
          ifB q0 (
            asP v1 fun _ _ =>
            asP v1 fun b18 b19 =>
            ld Try.prog h7 52 b18 b19 fun v15 =>
            ld Try.prog h7 67 (nx h5) 0 fun v16 =>
            asP v0 fun _ _ =>
            asP v0 fun b22 b23 =>
            ld Try.prog h7 22 b22 b23 fun v17 =>
            ld Try.prog h7 3 (nx h5) 0 fun v18 =>
            asI .i64 v18 fun n11 =>
            six v17 n11 1 fun b24 b25 =>
            ld Try.prog h7 3 b24 b25 fun v19 =>
            asI .i64 v19 fun n12 =>
            asP v0 fun _ _ =>
            asP v0 fun b28 b29 =>
            ld Try.prog h7 22 b28 b29 fun v20 =>
            ld Try.prog h7 3 (nx h5) (off 0 1) fun v21 =>
            asI .i64 v21 fun n13 =>
            six v20 n13 1 fun b30 b31 =>
            ld Try.prog h7 3 b30 b31 fun v22 =>
            asI .i64 v22 fun n14 =>
            calls rec h7 82 [v15, v16, (.int .i64 n12), (.int .i64 n14)] fun v23 h8 =>
            asB v23 fun q1 =>
            asI .i64 (gv ws1 1) fun n15 =>
            out .normal [(.bool q1), (.int .i64 (add .i64 n15 1))] h8) (
            asI .i64 (gv ws1 1) fun n16 =>
            out .normal [(.bool false), (.int .i64 (add .i64 n16 1))] h7)) (
          asI .i64 (gv ws1 1) fun n17 =>
          out .normal [gv ws1 0, (.int .i64 (add .i64 n17 1))] h7)) (
        asI .i64 (gv ws1 1) fun n18 =>
        out .normal [gv ws1 0, (.int .i64 (add .i64 n18 1))] h7))) (
    out (.exit 2) [gv ws1 0, gv ws1 1] h5)

noncomputable def f98_l1 (rec : Rec) (k : Nat) (v0 : Value) (v1 : Value) (v2 : Value) (v3 : Value) (n0 : Int) (n2 : Int) (ws0 : List Value) (h1 : H) : Option (Ex × List Value × H) :=
  asI .i64 (gv ws0 1) fun n3 =>
  ifB (lt n3 n2) (
    asP v0 fun b6 b7 =>
    ld Try.prog h1 22 b6 b7 fun v7 =>
    bls Try.prog h1 22 1 [(0, gv ws0 1)] fun v8 h2 =>
    app Try.prog h2 22 22 v7 v8 fun v9 h3 =>
    asP v0 fun b8 b9 =>
    st Try.prog h3 22 b8 b9 v9 fun h4 =>
    asP v1 fun b10 b11 =>
    ld Try.prog h4 50 b10 (off b11 2) fun v10 =>
    len v10 fun n4 =>
    lp k (f98_l2 rec k v0 v1 v2 n0 v10 n4) [(.bool true), (.int .i64 0)] h4 fun e0 ws2 h9 =>
    onE e0 2 (
      asB (gv ws2 0) fun q2 =>
      ifB q2 (
        asP v3 fun b32 b33 =>
        ld Try.prog h9 27 b32 b33 fun v24 =>
        callsV rec h9 v24 [] fun v25 h10 =>
        asB v25 fun q3 =>
        ifB q3 (
          out .ret [(.bool true), gv ws0 1] h10) (
          asP v0 fun b34 b35 =>
          ld Try.prog h10 22 b34 b35 fun v26 =>
          sli Try.prog h10 22 v26 none (some (.int .i64 n0)) none fun v27 =>
          asP v0 fun b36 b37 =>
          st Try.prog h10 22 b36 b37 v27 fun h11 =>
          asI .i64 (gv ws0 1) fun n19 =>
          out .normal [gv ws0 0, (.int .i64 (add .i64 n19 1))] h11)) (
        asP v0 fun b38 b39 =>
        ld Try.prog h9 22 b38 b39 fun v28 =>
        sli Try.prog h9 22 v28 none (some (.int .i64 n0)) none fun v29 =>
        asP v0 fun b40 b41 =>
        st Try.prog h9 22 b40 b41 v29 fun h12 =>
        asI .i64 (gv ws0 1) fun n20 =>
        out .normal [gv ws0 0, (.int .i64 (add .i64 n20 1))] h12)) (
      none)) (
    out (.exit 0) [gv ws0 0, gv ws0 1] h1)

noncomputable def f98 (rec : Rec) (k : Nat) (v0 : Value) (v1 : Value) (v2 : Value) (v3 : Value) (h0 : H) : Option (Value × H) :=
  asP v0 fun b0 b1 =>
  ld Try.prog h0 22 b0 b1 fun v4 =>
  len v4 fun n0 =>
  asP v1 fun b2 b3 =>
  ld Try.prog h0 3 b2 (off b3 1) fun v5 =>
  asI .i64 v5 fun n1 =>
  ifB (eq n0 n1) (
    some ((.bool true), h0)) (
    asP v1 fun b4 b5 =>
    ld Try.prog h0 3 b4 b5 fun v6 =>
    asI .i64 v6 fun n2 =>
    lp k (f98_l1 rec k v0 v1 v2 v3 n0 n2) [(.bool false), (.int .i64 0)] h0 fun e1 ws3 h13 =>
    onE e1 0 (
      some ((.bool false), h13)) (
      onR e1 (
        some (gv ws3 0, h13))))

theorem e98 (rec : Rec) (k : Nat) (v0 : Value) (v1 : Value) (v2 : Value) (v3 : Value) (h : H) : bodyT Try.prog E0 SC (XC Try.prog rec k) 98 (Value × H) [.opq v0, .opq v1, .opq v2, .opq v3] h (fun v h => some (v, h)) = f98 rec k v0 v1 v2 v3 h := by kernel_rfl

theorem t98 {k : Nat} {v0 : Value} {v1 : Value} {v2 : Value} {v3 : Value} {h h1 : H} {v : Value} (hh : f98 rn k v0 v1 v2 v3 h = some (v, h1)) : rn 98 #[v0, v1, v2, v3] h = some (v, trunc Try.prog h h1 v) :=
  run_of_bodyT (args := [.opq v0, .opq v1, .opq v2, .opq v3]) rfl ((e98 _ _ _ _ _ _ _).trans hh)

theorem p98 {k : Nat} {v0 : Value} {v1 : Value} {v2 : Value} {v3 : Value} {h h1 : H} {v : Value} (hh : f98 rn k v0 v1 v2 v3 h = some (v, h1)) (hp : plainO v = true) (x : Ext h h1) : rn 98 #[v0, v1, v2, v3] h = some (v, h) := by rw [t98 hh, trunc_pure hp x]

end Go.AM

end

section

/- Whether a span is kept; the first timetable that keeps some spans. -/
namespace Go.AM
open Go.Proofs
variable {k : Nat} {R : Type}
attribute [local simp] nx_eq nx_new nx_set blk_new blk_set asI_int asK_int asB_bool asP_ptr al_eq bx_eq len_slice onE_exit onE_ret onR_ret Value.cells d3 d4 d22 d27 d45 d47 d50 d52 d67 d88 d89 w22 w27 cell_new cell_set rd_new rd_set off eq lt le ifB gv out eqF1 eqF2 eqF3 eqF4 eqF5 eqF6 eqF7 eqF8 ext20 ext21
/-- Is a span kept by two times? -/
def keepP (p : Int) (c : Sp) (x y : Int) : Bool := decide (c.lo + (y - x - c.lo) % p ≤ c.hi)

theorem s82 {p e x y : Int} {sl : Value} {c : Sp} {h : H} (hp : 1 ≤ p ∧ p ≤ 12) (hc : 0 ≤ c.lo ∧ c.lo ≤ 22) (hx : 0 ≤ x ∧ x < p) (hy : 0 ≤ y ∧ y < p) :
    rn 82 #[.agg #[iv p, iv e, sl], c.val, iv x, iv y] h = some (.bool (keepP p c x y), h) := by
  refine p82 (k := 0) (h1 := (h.new (.row [iv p, iv e, sl] 52 true)).new (.row c.cells 67 true)) ?_ rfl ((Ext.new _ _).trans (Ext.new _ _))
  have h1 := Int.emod_nonneg (y - x - c.lo) (show p ≠ 0 by omega)
  have h2 := Int.emod_lt_of_pos (y - x - c.lo) (show 0 < p by omega)
  have h3 : ((y - x - c.lo).tmod p).natAbs < p.natAbs := by
    rw [Int.natAbs_tmod]; exact Nat.mod_lt _ (by omega)
  have e1 : sub .i64 (sub .i64 y x) c.lo = y - x - c.lo := by rw [sub64 (a := y) (by omega) (by omega), sub64 (by omega) (by omega)]
  have e2 : rem .i64 (add .i64 (rem .i64 (y - x - c.lo) p) p) p = (y - x - c.lo) % p := by
    show (add .i64 ((y - x - c.lo).tmod p) p).tmod p = _
    rw [add64 (by omega) (by omega), tmod_fix (by omega)]
  have e3 : add .i64 c.lo ((y - x - c.lo) % p) = c.lo + (y - x - c.lo) % p := add64 (by omega) (by omega)
  simp [f82, Sp.cells, nz_ne (show p ≠ 0 by omega), e1, e2, e3, keepP]

end Go.AM

end

section

/- The first timetable that keeps some spans. -/
namespace Go.AM
open Go.Proofs
variable {R : Type}
attribute [local simp] nx_eq nx_new nx_set blk_new blk_set asI_int asK_int asB_bool asP_ptr al_eq bx_eq len_slice onE_exit onE_ret onR_ret Value.cells d3 d4 d22 d27 d45 d47 d50 d52 d67 d88 d89 w22 w27 cell_new cell_set rd_new rd_set off eq lt le ifB gv out eqF1 eqF2 eqF3 eqF4 eqF5 eqF6 eqF7 eqF8 ext20 ext21
def atI (b : List Int) (i : Int) : Int := (b[i.toNat]?).getD 0

/-- Is what the newest time has to keep kept? -/
def fitS (p : Int) (set : Nat) (b : List Int) (i : Nat) (c : Sp) (q : Bool) : Bool :=
  if set.testBit i = true ∧ imax c.a c.b + 1 = b.length then q && keepP p c (atI b c.a) (atI b c.b) else q

def fitsP (p : Int) (l : List Sp) (set : Nat) (b : List Int) : Bool := foldI (fitS p set b) l 0 true

/-- The first timetable that goes on from some times. -/
def firstP (p : Int) (l : List Sp) (set : Nat) : Nat → List Int → Option (List Int)
  | 0, b => some b
  | d + 1, b => (List.range p.toNat).findSome? fun (x : Nat) => if fitsP p l set (b ++ [(x : Int)]) = true then firstP p l set d (b ++ [(x : Int)]) else none

/-- On where there is nothing, and out with what is found. -/
def stO {β : Type} : Option β → Unit ⊕ β
  | none => .inl ()
  | some r => .inr r

theorem itL_find {α β : Type} {F : α → Option β} : ∀ (l : List α) (i : Nat), itL (σ := Unit) (ρ := β) (fun _ x _ => stO (F x)) l i () = stO (l.findSome? F) := by
  intro l
  induction l with
  | nil => intro i; rfl
  | cons x l ih =>
    intro i
    simp only [itL, List.findSome?_cons]
    cases F x with
    | none => exact ih _
    | some r => rfl

theorem WqR.back {lo : Nat} {h h1 : H} {e : TypeId} {s : Nat} {v : Value} {l l' : List (List Value)} (a : WqR lo h e s v l) (a' : WqR lo h1 e s v l') (hb : ∀ b, b < h.nx → h1.blk b = h.blk b) : WqR lo h e s v l' := by
  cases a' with
  | nil => exact .nil
  | @at_ b c m l' junk hlo hb' hr hx hm hj hc =>
    have hlt := (a.blkOf (b := b) rfl).2.1
    exact .at_ hlo hlt ((hb b hlt).symm.trans hr) hx hm hj hc

theorem SlR.keepV {h h' : H} {e : TypeId} {s : Nat} {v : Value} {l : List (List Value)} (a : SlR h e s v l) (hn : h.nx ≤ h'.nx) (hb : ∀ b, blkOf v = some b → h'.blk b = h.blk b) : SlR h' e s v l := by
  cases a with
  | nil => exact .nil
  | at_ hb' hr hk hc hl hx => exact .at_ (Nat.lt_of_lt_of_le hb' hn) ((hb _ rfl).trans hr) hk hc hl hx

/-- What the search holds. -/
structure FS (lo : Nat) (p e : Int) (set : Nat) (sl : Value) (l : List Sp) (tb sb vb gb : Nat) (b : List Int) (v : Value) (g : H) : Prop where
  lo_ : lo ≤ g.nx
  hsl : SlR g 67 4 sl (l.map Sp.cells)
  slo : ∀ b, blkOf sl = some b → b < lo ∧ b ≠ vb
  htb : tb < lo ∧ g.blk tb = some (.row [iv p, iv e, sl] 52 true)
  hsb : sb < lo ∧ g.blk sb = some (.row [iv set] 3 true)
  hgb : gb < lo ∧ g.blk gb = some (.row [.func (.func 98) #[] #[pt vb 0, pt tb 0, pt sb 0, pt gb 0]] 27 true)
  hvb : vb < lo ∧ g.blk vb = some (.row [v] 22 true)
  ne : vb ≠ tb ∧ vb ≠ sb ∧ vb ≠ gb
  way : WqR lo g 3 1 v (cellsI b)
  rng : ∀ x ∈ b, 0 ≤ x ∧ x < p

section
variable {lo : Nat} {p e : Int} {set : Nat} {sl v : Value} {l : List Sp} {tb sb vb gb : Nat} {b : List Int} {g : H}
theorem FS.turn (fs : FS lo p e set sl l tb sb vb gb b v g) {g' : H} {b' : List Int} {v' : Value} (hn : g.nx ≤ g'.nx) (hf : ∀ k, k < lo → k ≠ vb → g'.blk k = g.blk k) (hv : g'.blk vb = some (.row [v'] 22 true))
    (ha : WqR lo g' 3 1 v' (cellsI b')) (hr : ∀ x ∈ b', 0 ≤ x ∧ x < p) : FS lo p e set sl l tb sb vb gb b' v' g' :=
  ⟨Nat.le_trans fs.lo_ hn, fs.hsl.keepV hn fun b hb => hf b (fs.slo b hb).1 (fs.slo b hb).2, fs.slo, ⟨fs.htb.1, (hf _ fs.htb.1 (Ne.symm fs.ne.1)).trans fs.htb.2⟩, ⟨fs.hsb.1, (hf _ fs.hsb.1 (Ne.symm fs.ne.2.1)).trans fs.hsb.2⟩,
    ⟨fs.hgb.1, (hf _ fs.hgb.1 (Ne.symm fs.ne.2.2)).trans fs.hgb.2⟩, ⟨fs.hvb.1, hv⟩, fs.ne, ha, hr⟩

theorem FS.ext (fs : FS lo p e set sl l tb sb vb gb b v g) {g' : H} (x : Ext g g') : FS lo p e set sl l tb sb vb gb b v g' :=
  fs.turn x.nx (fun k hk _ => x.blk k (by have := fs.lo_; omega)) ((x.blk _ (by have := fs.lo_; have := fs.hvb.1; omega)).trans fs.hvb.2) (fs.way.keep x.nx fun b hb => x.blk b (fs.way.blkOf hb).2.1) fs.rng

theorem FS.trunc (fs : FS lo p e set sl l tb sb vb gb b v g) {g1 : H} {b' : List Int} {v' w : Value} (f1 : FS lo p e set sl l tb sb vb gb b' v' g1) (hn : g.nx ≤ g1.nx) (hf : ∀ k, k < lo → k ≠ vb → g1.blk k = g.blk k) :
    ∃ g', trunc Try.prog g g1 w = g' ∧ FS lo p e set sl l tb sb vb gb b' v' g' ∧ g.nx ≤ g'.nx ∧ ∀ k, k < lo → k ≠ vb → g'.blk k = g.blk k := by
  unfold AM.trunc
  split
  · rename_i h
    refine ⟨g, rfl, ?_, Nat.le_refl _, fun _ _ _ => rfl⟩
    have h1 := (h.2 vb (by have := fs.lo_; have := fs.hvb.1; omega)).symm.trans f1.hvb.2
    have hvv : v = v' := by
      have := fs.hvb.2.symm.trans h1
      simp at this
      exact this
    subst hvv
    exact fs.turn (Nat.le_refl _) (fun _ _ _ => rfl) h1 (fs.way.back f1.way h.2) f1.rng
  · exact ⟨g1, rfl, f1, hn, hf⟩

theorem getI (a : WqR lo g 3 1 v (cellsI b)) {i : Int} (h0 : 0 ≤ i) (h1 : i < b.length) (K : Value → Option R) : (six v i 1 fun x o => (g.cell x o).bind K) = K (iv (atI b i)) := by
  have hg : b[i.toNat]? = some (atI b i) := by
    unfold atI
    rw [List.getElem?_eq_getElem (by omega)]
    rfl
  exact a.slR.c0 h0 (x := [iv (atI b i)]) (by simp [hg]) rfl K

/-- The inner loop: is what the newest time has to keep kept? -/
theorem fits_loop (hv : tabOk p e l = true) (hset : set < 2 ^ 62) {n : Nat} (hbn : b.length = n + 1) (fs : FS lo p e set sl l tb sb vb gb b v g) :
    ∃ g', lpGo (f98_l2 rn 200010 (pt vb 0) (pt tb 0) (pt sb 0) n sl l.length) 200010 [.bool true, iv 0] g = some (.exit 2, [.bool (fitsP p l set b), iv l.length], g') ∧ Ext g g' := by
  have hl12 : l.length ≤ 12 := by simp [tabOk] at hv; omega
  obtain ⟨hp1, hp12⟩ := tab_p hv
  obtain ⟨ws', g', hl, xg, rfl⟩ := lp_for (F := f98_l2 rn 200010 (pt vb 0) (pt tb 0) (pt sb 0) n sl l.length) (k := 200010) (l := l) (fitS p set b)
    (fun i q ws g' => Ext g g' ∧ ws = [.bool q, iv i]) 2 (ws := [.bool true, iv 0]) (h := g) (s0 := true)
    ⟨.refl _, rfl⟩ (by omega)
    (by
      rintro q ws g' ⟨_, rfl⟩
      simp [f98_l2])
    (by
      rintro i c q ws g1 hc ⟨x1, rfl⟩
      have hi := (List.getElem?_eq_some_iff.1 hc).1
      have hadd : add .i64 (i : Int) 1 = (i : Int) + 1 := add64 (by omega) (by omega)
      have x2 := (Ext.refl g1).fresh 67 [iv 0, iv 0, iv 0, iv 0] c.cells
      have hcb := blk_fresh g1 67 [iv 0, iv 0, iv 0, iv 0] c.cells
      refine ⟨[.bool (fitS p set b i c q), iv ((i : Int) + 1)], g1.fresh 67 [iv 0, iv 0, iv 0, iv 0] c.cells, ?_, x1.trans x2, rfl⟩
      have f2 := fs.ext (x1.trans x2)
      unfold f98_l2
      rw [show AM.gv [.bool q, iv i] 1 = iv i from rfl, asI_int, lt_t (by omega), ifB_true, asK_int, (fs.hsl.ext x1).ldA ag67 sz67 (by omega) (x := c.cells) (by simp [hc]),
        al_st (zs := [iv 0, iv 0, iv 0, iv 0]) (xs := c.cells) sz67 rfl rfl]
      generalize g1.fresh 67 [iv 0, iv 0, iv 0, iv 0] c.cells = h7 at *
      simp only [Sp.cells] at hcb
      have hok : spOk e c = true := by
        simp only [tabOk, Bool.and_eq_true, List.all_eq_true] at hv
        exact hv.2 _ (List.mem_of_getElem? hc)
      simp only [spOk, Bool.and_eq_true, decide_eq_true_iff] at hok
      have hbit : AM.and .i64 (shr .i64 (set : Int) (i : Int)) 1 = if set.testBit i then 1 else 0 := bit_nat (by omega) (by omega)
      by_cases hs : set.testBit i = true
      · by_cases hm : imax c.a c.b = n
        · have hab : c.a < b.length ∧ c.b < b.length := by unfold imax at hm; split at hm <;> omega
          have ea := fun (K : Value → Option (Ex × List Value × H)) => getI f2.way (i := c.a) (by omega) hab.1 K
          have eb := fun (K : Value → Option (Ex × List Value × H)) => getI f2.way (i := c.b) (by omega) hab.2 K
          have hra : 0 ≤ atI b c.a ∧ atI b c.a < p := by
            have : b[c.a.toNat]? = some (atI b c.a) := by unfold atI; rw [List.getElem?_eq_getElem (by omega)]; rfl
            exact fs.rng _ (List.mem_of_getElem? this)
          have hrb : 0 ≤ atI b c.b ∧ atI b c.b < p := by
            have : b[c.b.toNat]? = some (atI b c.b) := by unfold atI; rw [List.getElem?_eq_getElem (by omega)]; rfl
            exact fs.rng _ (List.mem_of_getElem? this)
          have c82 := fun (K : Value → H → Option (Ex × List Value × H)) => calls_eq (K := K) (xs := [.agg #[iv p, iv e, sl], .agg #[iv c.a, iv c.b, iv c.lo, iv c.hi], iv (atI b c.a), iv (atI b c.b)]) (s82 (e := e) (sl := sl) (c := c) (h := h7) ⟨hp1, hp12⟩ (by omega) hra hrb)
          have hfit : fitS p set b i c q = (q && keepP p c (atI b c.a) (atI b c.b)) := if_pos ⟨hs, by omega⟩
          cases q with
          | false => simp [cell_of f2.hsb.2, hbit, hs, cell_of hcb, nn, hm, hfit, hadd]
          | true => simp [cell_of f2.hsb.2, rd_of f2.htb.2, rd_of hcb, cell_of f2.hvb.2, hbit, hs, cell_of hcb, nn, hm, hfit, hadd, ea, eb, c82]
        · have hfit : fitS p set b i c q = q := if_neg (by rintro ⟨_, h⟩; omega)
          simp [cell_of f2.hsb.2, hbit, hs, cell_of hcb, nn, hm, hfit, hadd]
      · have hfit : fitS p set b i c q = q := if_neg (by rintro ⟨h, _⟩; exact hs h)
        simp [cell_of f2.hsb.2, hbit, hs, nn, hfit, hadd])
  exact ⟨g', hl, xg⟩

/-- What the search does with some times. -/
theorem s98 (hv : tabOk p e l = true) (hset : set < 2 ^ 62) : ∀ (d : Nat) (b : List Int) (v : Value) (g : H), (b.length + d : Int) = e → FS lo p e set sl l tb sb vb gb b v g →
    ∃ g' v', rn 98 #[pt vb 0, pt tb 0, pt sb 0, pt gb 0] g = some (.bool (firstP p l set d b).isSome, g') ∧ FS lo p e set sl l tb sb vb gb ((firstP p l set d b).getD b) v' g' ∧ g.nx ≤ g'.nx ∧ ∀ k, k < lo → k ≠ vb → g'.blk k = g.blk k := by
  obtain ⟨hp1, hp12⟩ := tab_p hv
  have he6 : e ≤ 6 := by simp [tabOk] at hv; omega
  intro d
  induction d with
  | zero =>
    intro b v g hd fs
    have hbn : ∀ {T : Type} (K : Int → Option T), len v K = K (b.length : Int) := fun K => by rw [fs.way.slR.len]; simp
    have hF : f98 rn 200010 (pt vb 0) (pt tb 0) (pt sb 0) (pt gb 0) g = some (.bool (firstP p l set 0 b).isSome, g) := by
      have : (b.length : Int) = e := by omega
      simp [f98, cell_of fs.hvb.2, cell_of fs.htb.2, hbn, this, firstP]
    exact ⟨g, v, p98 hF rfl (.refl _), fs, Nat.le_refl _, fun _ _ _ => rfl⟩
  | succ d ih =>
    intro b v g hd fs
    have hbn : ∀ {T : Type} (K : Int → Option T), len v K = K (b.length : Int) := fun K => by rw [fs.way.slR.len]; simp
    obtain ⟨ee, ws', g', hlp, hres⟩ := lp_rel (σ := Unit) (ρ := List Int) (F := f98_l1 rn 200010 (pt vb 0) (pt tb 0) (pt sb 0) (pt gb 0) b.length p) (k := 200010) (l := List.range p.toNat)
      (fun _ (x : Nat) _ => stO (if fitsP p l set (b ++ [(x : Int)]) = true then firstP p l set d (b ++ [(x : Int)]) else none))
      (fun i _ ws g' => (∃ v', FS lo p e set sl l tb sb vb gb b v' g') ∧ g.nx ≤ g'.nx ∧ (∀ k, k < lo → k ≠ vb → g'.blk k = g.blk k) ∧ ws = [.bool false, iv i])
      (fun r ee ws g' => ee = .ret ∧ (∃ v', FS lo p e set sl l tb sb vb gb r v' g') ∧ g.nx ≤ g'.nx ∧ (∀ k, k < lo → k ≠ vb → g'.blk k = g.blk k) ∧ ∃ a, ws = [.bool true, a]) 0 (ws := [.bool false, iv 0]) (h := g) (s0 := ())
      ⟨⟨v, fs⟩, Nat.le_refl _, fun _ _ _ => rfl, rfl⟩ (by simp; omega)
      (by
        rintro _ ws g' ⟨_, _, _, rfl⟩
        rw [List.length_range, show ((p.toNat : Nat) : Int) = p by omega]
        simp [f98_l1])
      (by
        rintro i x _ ws g1 hx ⟨⟨v1, f1⟩, n1, k1, rfl⟩
        have hi := (List.getElem?_eq_some_iff.1 hx).1
        rw [List.length_range] at hi
        rw [List.getElem?_range hi] at hx
        cases hx
        have hip : (i : Int) < p := by omega
        have hadd : add .i64 (i : Int) 1 = (i : Int) + 1 := add64 (by omega) (by omega)
        -- one time more
        obtain ⟨v2, g2, e2, a2, n2, k2, b2, hb2, hb2'⟩ := f1.way.push app22 app22 (bls22 (i : Int)) rfl rfl (by simp; omega) f1.lo_
        have hvb2 : g2.blk vb = some (.row [v1] 22 true) := (k2 vb (by have := f1.lo_; have := f1.hvb.1; omega) (fun h => by have := (f1.way.blkOf h).1; have := f1.hvb.1; omega)).trans f1.hvb.2
        have hw : wrc 1 g2 vb 0 v2 = some (g2.set vb (.row [v2] 22 true)) := by rw [wrc_one hvb2 a2.cells.1 a2.cells.2 (by simp)]; rfl
        have f3 : FS lo p e set sl l tb sb vb gb (b ++ [(i : Int)]) v2 (g2.set vb (.row [v2] 22 true)) := by
          refine f1.turn n2 (fun k hk hne => ?_) (blk_set_self _ _ _) ?_ (fun x hx => ?_)
          · rw [blk_set_ne _ _ _ hne]
            exact k2 k (by have := f1.lo_; omega) (fun h => by have := (f1.way.blkOf h).1; omega)
          · have := a2.keep (h' := g2.set vb (.row [v2] 22 true)) (Nat.le_refl _) fun b hb => blk_set_ne _ _ _ (by
              have := (a2.blkOf hb).1
              have := f1.hvb.1
              omega)
            simpa using this
          · rcases List.mem_append.1 hx with h | h
            · exact fs.rng x h
            · simp at h; omega
        have k3 : ∀ k, k < lo → k ≠ vb → (g2.set vb (.row [v2] 22 true)).blk k = g1.blk k := fun k hk hne => by
          rw [blk_set_ne _ _ _ hne]
          exact k2 k (by have := f1.lo_; omega) (fun h => by have := (f1.way.blkOf h).1; omega)
        have n3 : g1.nx ≤ (g2.set vb (.row [v2] 22 true)).nx := n2
        generalize g2.set vb (.row [v2] 22 true) = g3 at *
        obtain ⟨g4, hl4, x4⟩ := fits_loop hv hset (n := b.length) (by simp) f3
        have f4 := f3.ext x4
        have k4 : ∀ k, k < lo → k ≠ vb → g4.blk k = g1.blk k := fun k hk hne => (x4.blk k (by have := f3.lo_; omega)).trans (k3 k hk hne)
        have n4 : g1.nx ≤ g4.nx := by have := x4.nx; omega
        have hsn : ∀ {T : Type} (K : Int → Option T), len sl K = K (l.length : Int) := fun K => by rw [fs.hsl.len]; simp
        -- and without it again
        have back : ∀ (v5 : Value) (h5 : H), FS lo p e set sl l tb sb vb gb (b ++ [(i : Int)]) v5 h5 → ∃ v6, (∀ (K : Value → Option (Ex × List Value × H)), sli Try.prog h5 22 v5 none (some (iv b.length)) none K = K v6) ∧
            wrc 1 h5 vb 0 v6 = some (h5.set vb (.row [v6] 22 true)) ∧ FS lo p e set sl l tb sb vb gb b v6 (h5.set vb (.row [v6] 22 true)) ∧ (∀ k, k < lo → k ≠ vb → (h5.set vb (.row [v6] 22 true)).blk k = h5.blk k) := by
          intro v5 h5 f5
          have hway : WqR lo h5 3 1 v5 (cellsI b ++ [[iv (i : Int)]]) := by simpa using f5.way
          obtain ⟨v6, e6, a6, b6⟩ := hway.pop under22 sz3
          refine ⟨v6, fun K => ?_, by rw [wrc_one f5.hvb.2 a6.cells.1 a6.cells.2 (by simp)]; rfl, ?_, fun k _ hne => blk_set_ne _ _ _ hne⟩
          · have := e6 K
            rw [List.length_map] at this
            exact this
          · exact f5.turn (Nat.le_refl _) (fun k _ hne => blk_set_ne _ _ _ hne) (blk_set_self _ _ _) (a6.keep (Nat.le_refl _) fun b hb => blk_set_ne _ _ _ (by
              have := (a6.blkOf hb).1
              have := f5.hvb.1
              omega)) fs.rng
        by_cases hfit : fitsP p l set (b ++ [(i : Int)]) = true
        · rw [if_pos hfit]
          rw [hfit] at hl4
          obtain ⟨g5, v5, e98, f5, n5, k5⟩ := ih (b ++ [(i : Int)]) v2 g4 (by simp; omega) f4
          have cc := fun (K : Value → H → Option (Ex × List Value × H)) => calls_eq (K := K) (xs := [pt vb 0, pt tb 0, pt sb 0, pt gb 0]) e98
          cases hfr : firstP p l set d (b ++ [(i : Int)]) with
          | some r =>
            rw [hfr] at cc f5
            simp only [Option.getD_some, Option.isSome_some] at cc f5
            simp only [stO]
            refine ⟨.ret, [.bool true, iv i], g5, ?_, by simp, rfl, ⟨v5, f5⟩, by omega, fun k hk hne => by rw [k5 k hk hne, k4 k hk hne, k1 k hk hne], _, rfl⟩
            simp [f98_l1, hip, cell_of f1.hvb.2, e2, hw, cell_of f3.htb.2, hsn, lp_eq hl4, cell_of f4.hgb.2, callsV_eq, cc]
          | none =>
            rw [hfr] at cc f5
            simp only [Option.getD_none, Option.isSome_none] at cc f5
            simp only [stO]
            obtain ⟨v6, e6, w6, f6, k6⟩ := back v5 g5 f5
            refine ⟨.normal, [.bool false, iv ((i : Int) + 1)], g5.set vb (.row [v6] 22 true), ?_, rfl, ⟨v6, f6⟩, by rw [nx_set]; omega, fun k hk hne => by rw [k6 k hk hne, k5 k hk hne, k4 k hk hne, k1 k hk hne], rfl⟩
            simp [f98_l1, hip, cell_of f1.hvb.2, e2, hw, cell_of f3.htb.2, hsn, lp_eq hl4, cell_of f4.hgb.2, callsV_eq, cc, cell_of f5.hvb.2, e6, w6, hadd]
        · rw [if_neg hfit]
          simp only [stO]
          have hff : fitsP p l set (b ++ [(i : Int)]) = false := by simpa using hfit
          rw [hff] at hl4
          obtain ⟨v6, e6, w6, f6, k6⟩ := back v2 g4 f4
          refine ⟨.normal, [.bool false, iv ((i : Int) + 1)], g4.set vb (.row [v6] 22 true), ?_, rfl, ⟨v6, f6⟩, by rw [nx_set]; omega, fun k hk hne => by rw [k6 k hk hne, k4 k hk hne, k1 k hk hne], rfl⟩
          simp [f98_l1, hip, cell_of f1.hvb.2, e2, hw, cell_of f3.htb.2, hsn, lp_eq hl4, cell_of f4.hvb.2, e6, w6, hadd])
    have hstart : f98 rn 200010 (pt vb 0) (pt tb 0) (pt sb 0) (pt gb 0) g = onE ee 0 (some ((.bool false), g')) (onR ee (some (AM.gv ws' 0, g'))) := by
      rw [← lp_eq (K := fun ee ws' g => onE ee 0 (some ((.bool false), g)) (onR ee (some (AM.gv ws' 0, g)))) hlp]
      have : ¬ (b.length : Int) = e := by omega
      simp [f98, cell_of fs.hvb.2, cell_of fs.htb.2, hbn, this]
    rw [itL_find] at hres
    have hdef : firstP p l set (d + 1) b = (List.range p.toNat).findSome? fun (x : Nat) => if fitsP p l set (b ++ [(x : Int)]) = true then firstP p l set d (b ++ [(x : Int)]) else none := rfl
    rw [← hdef] at hres
    cases hfr : firstP p l set (d + 1) b with
    | none =>
      rw [hfr] at hres
      simp only [stO] at hres
      obtain ⟨rfl, ⟨v', f'⟩, n', k', rfl⟩ := hres
      obtain ⟨g2, e2, f2, n2, k2⟩ := fs.trunc (w := .bool false) f' n' k'
      refine ⟨g2, v', ?_, f2, n2, k2⟩
      rw [t98 (k := 200010) (v := .bool false) (h1 := g') (by rw [hstart]; simp), e2]
      rfl
    | some r =>
      rw [hfr] at hres
      simp only [stO] at hres
      obtain ⟨_, rfl, ⟨v', f'⟩, n', k', a, rfl⟩ := hres
      obtain ⟨g2, e2, f2, n2, k2⟩ := fs.trunc (w := .bool true) f' n' k'
      refine ⟨g2, v', ?_, f2, n2, k2⟩
      rw [t98 (k := 200010) (v := .bool true) (h1 := g') (by rw [hstart]; simp), e2]
      rfl

end
theorem firstP_len {p : Int} {l : List Sp} {set : Nat} : ∀ (d : Nat) (b r : List Int), firstP p l set d b = some r → r.length = b.length + d := by
  intro d
  induction d with
  | zero => intro b r h; cases h; rfl
  | succ d ih =>
    intro b r h
    simp only [firstP] at h
    obtain ⟨x, hx, h2⟩ := List.exists_of_findSome?_eq_some h
    split at h2
    · have := ih _ _ h2
      simp at this
      omega
    · cases h2

/-- The first timetable. -/
theorem s77 {p e : Int} {set : Nat} {sl : Value} {l : List Sp} {h : H} (hv : tabOk p e l = true) (hset : set < 2 ^ 62) (hs : SlR h 67 4 sl (l.map Sp.cells)) :
    ∃ v' h', rn 77 #[.agg #[iv p, iv e, sl], iv set] h = some (v', h') ∧ Ext h h' ∧ ((firstP p l set e.toNat [] = none ∧ v' = .slice none 0 0) ∨ (∃ r, firstP p l set e.toNat [] = some r ∧ r.length = e.toNat ∧ SlR h' 3 1 v' (cellsI r))) := by
  have he : 1 ≤ e ∧ e ≤ 6 := by simp only [tabOk, Bool.and_eq_true, decide_eq_true_iff] at hv; omega
  let h3 := ((h.new (.row [iv p, iv e, sl] 52 true)).new (.row [iv set] 3 true)).new (.row [.slice none 0 0] 22 true)
  have x3 : Ext h h3 := (((Ext.refl h).new' _).new' _).new' _
  have n3 : h3.nx = h.nx + 3 := rfl
  have t3 : h3.blk h.nx = some (.row [iv p, iv e, sl] 52 true) := by simp [h3]
  have s3 : h3.blk (h.nx + 1) = some (.row [iv set] 3 true) := by simp [h3]
  have v3 : h3.blk (h.nx + 2) = some (.row [.slice none 0 0] 22 true) := by simp [h3]
  have hF0 : ∀ (v : Value) (gg : H), (AM.al h3 27 [.nilFunc] fun h4 => AM.st Try.prog h4 27 (AM.nx h3) 0 (.func (.func 98) #[] #[pt (h.nx + 2) 0, pt h.nx 0, pt (h.nx + 1) 0, pt (h.nx + 3) 0]) fun h5 => AM.ld Try.prog h5 27 (AM.nx h3) 0 fun v1 =>
      callsV rn h5 v1 [] fun v2 h6 => asB v2 fun q0 => ifB (!q0) (some ((.slice none 0 0), h6)) (AM.ld Try.prog h6 22 (h.nx + 2) 0 fun v3 => some (v3, h6))) = some (v, gg) → f77 rn 0 (.agg #[iv p, iv e, sl]) set h = some (v, gg) := fun v gg hv => hv
  rw [al_st1 (v := .func (.func 98) #[] #[pt (h.nx + 2) 0, pt h.nx 0, pt (h.nx + 1) 0, pt (h.nx + 3) 0]) sz27 rfl rfl] at hF0
  have x4 := (Ext.refl h3).fresh 27 [.nilFunc] [.func (.func 98) #[] #[pt (h.nx + 2) 0, pt h.nx 0, pt (h.nx + 1) 0, pt (h.nx + 3) 0]]
  have g4 := blk_fresh h3 27 [.nilFunc] [.func (.func 98) #[] #[pt (h.nx + 2) 0, pt h.nx 0, pt (h.nx + 1) 0, pt (h.nx + 3) 0]]
  have n4 : (h3.fresh 27 [.nilFunc] [.func (.func 98) #[] #[pt (h.nx + 2) 0, pt h.nx 0, pt (h.nx + 1) 0, pt (h.nx + 3) 0]]).nx = h.nx + 4 := rfl
  generalize h3.fresh 27 [.nilFunc] [.func (.func 98) #[] #[pt (h.nx + 2) 0, pt h.nx 0, pt (h.nx + 1) 0, pt (h.nx + 3) 0]] = g at *
  have xg := x3.trans x4
  rw [n3] at g4
  have fs : FS (h.nx + 4) p e set sl l h.nx (h.nx + 1) (h.nx + 2) (h.nx + 3) [] (.slice none 0 0) g := by
    refine ⟨by omega, hs.ext xg, fun b hb => ?_, ⟨by omega, (x4.blk _ (by omega)).trans t3⟩, ⟨by omega, (x4.blk _ (by omega)).trans s3⟩, ⟨by omega, g4⟩, ⟨by omega, (x4.blk _ (by omega)).trans v3⟩, ⟨by omega, by omega, by omega⟩, .nil, by simp⟩
    obtain ⟨x, n, c, hsl⟩ := hs.isSl
    have := hs.below
    rcases x with _ | ⟨xb, xo, xs⟩
    · rw [hsl] at hb; cases hb
    · rw [hsl] at hb
      cases xs with
      | none =>
        cases hb
        have := this _ _ _ _ hsl
        omega
      | some _ => cases hb
  obtain ⟨g', v', e98, f', n', k'⟩ := s98 hv hset e.toNat [] (.slice none 0 0) g (by simp; omega) fs
  have xg' : Ext h g' := ⟨by have := xg.nx; omega, fun b hb => (k' b (by omega) (by omega)).trans (xg.blk b hb)⟩
  have cc := fun (K : Value → H → Option (Value × H)) => calls_eq (K := K) (xs := [pt (h.nx + 2) 0, pt h.nx 0, pt (h.nx + 1) 0, pt (h.nx + 3) 0]) e98
  cases hfr : firstP p l set e.toNat [] with
  | none =>
    rw [hfr] at cc f'
    refine ⟨.slice none 0 0, g', x77 (hF0 _ _ ?_) rfl, xg', .inl ⟨rfl, rfl⟩⟩
    simp [n3, cell_of g4, callsV_eq, cc]
  | some r =>
    rw [hfr] at cc f'
    simp only [Option.getD_some] at f'
    have hsr := f'.way.slR
    refine ⟨v', g', x77 (hF0 _ _ ?_) hsr.notR, xg', .inr ⟨r, rfl, by have := firstP_len _ _ _ hfr; simpa using this, hsr⟩⟩
    simp [n3, cell_of g4, callsV_eq, cc, cell_of f'.hvb.2]

end Go.AM

end

section

/- The document's search for a timetable. -/
namespace Go.AM
open Go.Proofs
variable {R : Type}
attribute [local simp] nx_eq nx_new nx_set blk_new blk_set asI_int asK_int asB_bool asP_ptr al_eq bx_eq len_slice onE_exit onE_ret onR_ret Value.cells d3 d4 d22 d27 d45 d47 d50 d52 d67 d88 d89 w22 w27 cell_new cell_set rd_new rd_set off eq lt le ifB gv out eqF1 eqF2 eqF3 eqF4 eqF5 eqF6 eqF7 eqF8 ext20 ext21
theorem nil22e {h : H} {v : Value} {r : List Int} (hs : SlR h 3 1 v (cellsI r)) (hr : r ≠ []) (K : Bool → Option R) : eqv Try.prog 22 v (.slice none 0 0) K = K false := by
  generalize hL : cellsI r = L at hs
  cases hs with
  | nil => exact absurd (by simpa using hL) hr
  | at_ => unfold eqv; rw [some22]

theorem getS {h : H} {v : Value} {b : List Int} (a : SlR h 3 1 v (cellsI b)) {i : Int} (h0 : 0 ≤ i) (h1 : i < b.length) (K : Value → Option R) : (six v i 1 fun x o => (h.cell x o).bind K) = K (iv (atI b i)) := by
  have hg : b[i.toNat]? = some (atI b i) := by
    unfold atI
    rw [List.getElem?_eq_getElem (by omega)]
    rfl
  exact a.c0 h0 (x := [iv (atI b i)]) (by simp [hg]) rfl K

theorem at_rng {p : Int} {b : List Int} (hr : ∀ x ∈ b, 0 ≤ x ∧ x < p) {i : Int} (h0 : 0 ≤ i) (h1 : i < b.length) : 0 ≤ atI b i ∧ atI b i < p := by
  have hg : b[i.toNat]? = some (atI b i) := by
    unfold atI
    rw [List.getElem?_eq_getElem (by omega)]
    rfl
  exact hr _ (List.mem_of_getElem? hg)

theorem sp_of {p e : Int} {l : List Sp} (hv : tabOk p e l = true) {c : Sp} (hc : c ∈ l) : 0 ≤ c.a ∧ c.a < e ∧ 0 ≤ c.b ∧ c.b < e ∧ c.a ≠ c.b ∧ 0 ≤ c.lo ∧ c.lo ≤ 11 ∧ c.lo ≤ c.hi ∧ c.hi ≤ 22 := by
  simp only [tabOk, Bool.and_eq_true, List.all_eq_true] at hv
  have := hv.2 _ hc
  simp only [spOk, Bool.and_eq_true, decide_eq_true_iff] at this
  omega

end Go.AM

end

section

/- Timetables, in plain words: what the search finds; a number added to all times changes nothing. -/
namespace Go.AM
open Go.Proofs
theorem foldI_fits {p : Int} {set : Nat} {b : List Int} : ∀ (l : List Sp) (i : Nat) (q : Bool), foldI (fitS p set b) l i q = true ↔ q = true ∧ ∀ j c, l[j]? = some c → set.testBit (i + j) = true → imax c.a c.b + 1 = b.length → keepP p c (atI b c.a) (atI b c.b) = true := by
  intro l
  induction l with
  | nil => intro i q; simp [foldI]
  | cons c l ih =>
    intro i q
    simp only [foldI]
    rw [ih]
    constructor
    · rintro ⟨h1, h2⟩
      have hq : q = true ∧ (set.testBit i = true → imax c.a c.b + 1 = b.length → keepP p c (atI b c.a) (atI b c.b) = true) := by
        unfold fitS at h1
        split at h1
        · rw [Bool.and_eq_true] at h1
          exact ⟨h1.1, fun _ _ => h1.2⟩
        · rename_i hn
          exact ⟨h1, fun a b => absurd ⟨a, b⟩ hn⟩
      refine ⟨hq.1, fun j c' hj hs hm => ?_⟩
      cases j with
      | zero => simp at hj; subst hj; exact hq.2 hs hm
      | succ j => exact h2 j c' (by simpa using hj) (by rw [show i + 1 + j = i + (j + 1) by omega]; exact hs) hm
    · rintro ⟨h1, h2⟩
      refine ⟨?_, fun j c' hj hs hm => h2 (j + 1) c' (by simpa using hj) (by rw [show i + (j + 1) = i + 1 + j by omega]; exact hs) hm⟩
      unfold fitS
      split
      · rename_i hc
        rw [Bool.and_eq_true]
        exact ⟨h1, h2 0 c rfl hc.1 hc.2⟩
      · exact h1

theorem fits_iff {p : Int} {l : List Sp} {set : Nat} {b : List Int} : fitsP p l set b = true ↔ ∀ j c, l[j]? = some c → set.testBit j = true → imax c.a c.b + 1 = b.length → keepP p c (atI b c.a) (atI b c.b) = true := by
  unfold fitsP
  rw [foldI_fits]
  simp

theorem at_pre {b r : List Int} (h : b <+: r) {i : Int} (h1 : i.toNat < b.length) : atI r i = atI b i := by
  obtain ⟨t, rfl⟩ := h
  unfold atI
  rw [List.getElem?_append_left h1]

/-- Are the times of some spans right? -/
def goodT (p : Int) (l : List Sp) (set : Nat) (n : Int) (r : List Int) : Prop :=
  (∀ x ∈ r, 0 ≤ x ∧ x < p) ∧ ∀ j c, l[j]? = some c → set.testBit j = true → n ≤ imax c.a c.b → keepP p c (atI r c.a) (atI r c.b) = true

theorem imax_or (a b : Int) : (imax a b = a ∨ imax a b = b) ∧ a ≤ imax a b ∧ b ≤ imax a b := by unfold imax; split <;> omega

theorem first_some {p e : Int} {l : List Sp} {set : Nat} (hv : tabOk p e l = true) : ∀ (d : Nat) (b r : List Int), (b.length + d : Int) = e → (∀ x ∈ b, 0 ≤ x ∧ x < p) → firstP p l set d b = some r → b <+: r ∧ goodT p l set b.length r := by
  intro d
  induction d with
  | zero =>
    intro b r hd hb h
    cases h
    refine ⟨List.prefix_rfl, hb, fun j c hj _ hm => ?_⟩
    have := sp_of hv (List.mem_of_getElem? hj)
    have := imax_or c.a c.b
    omega
  | succ d ih =>
    intro b r hd hb h
    simp only [firstP] at h
    obtain ⟨x, hx, h2⟩ := List.exists_of_findSome?_eq_some h
    rw [List.mem_range] at hx
    split at h2
    · rename_i hf
      obtain ⟨h3, h4, h5⟩ := ih (b ++ [(x : Int)]) r (by simp; omega) (fun y hy => by
        rcases List.mem_append.1 hy with h | h
        · exact hb y h
        · simp at h; omega) h2
      refine ⟨(List.prefix_append b [(x : Int)]).trans h3, h4, fun j c hj hs hm => ?_⟩
      have hsp := sp_of hv (List.mem_of_getElem? hj)
      have him := imax_or c.a c.b
      by_cases hm2 : imax c.a c.b = b.length
      · have := fits_iff.1 hf j c hj hs (by simp [hm2])
        rw [at_pre h3 (by simp; omega), at_pre h3 (by simp; omega)]
        exact this
      · exact h5 j c hj hs (by simp; omega)
    · cases h2

theorem first_none {p e : Int} {l : List Sp} {set : Nat} (hv : tabOk p e l = true) : ∀ (d : Nat) (b r : List Int), (b.length + d : Int) = e → firstP p l set d b = none → b <+: r → (r.length : Int) = e → ¬ goodT p l set b.length r := by
  intro d
  induction d with
  | zero => intro b r hd h; cases h
  | succ d ih =>
    intro b r hd h hpre hr hg
    simp only [firstP] at h
    obtain ⟨t, rfl⟩ := hpre
    cases t with
    | nil => simp at hr; omega
    | cons x t =>
      have hx := hg.1 x (by simp)
      rw [List.findSome?_eq_none_iff] at h
      have h1 := h x.toNat (List.mem_range.2 (by omega))
      rw [show ((x.toNat : Nat) : Int) = x by omega] at h1
      have hpre : b ++ [x] <+: b ++ x :: t := ⟨t, by simp⟩
      have hgood : goodT p l set ((b ++ [x]).length : Int) (b ++ x :: t) := ⟨hg.1, fun j c hj hs hm => hg.2 j c hj hs (by simp at hm; omega)⟩
      rw [if_pos] at h1
      · exact ih (b ++ [x]) _ (by simp; omega) h1 hpre hr hgood
      · rw [fits_iff]
        intro j c hj hs hm
        have hsp := sp_of hv (List.mem_of_getElem? hj)
        have him := imax_or c.a c.b
        rw [List.length_append, List.length_singleton] at hm
        rw [← at_pre hpre (by simp; omega), ← at_pre hpre (by simp; omega)]
        exact hg.2 j c hj hs (by omega)

/-- A number taken from all times. -/
def shiftT (p x : Int) (r : List Int) : List Int := r.map fun y => (y - x) % p

theorem keep_shift {p x u v : Int} {c : Sp} : keepP p c ((u - x) % p) ((v - x) % p) = keepP p c u v := by
  unfold keepP
  have : ((v - x) % p - (u - x) % p - c.lo) % p = (v - u - c.lo) % p := by
    rw [Int.emod_eq_emod_iff_emod_sub_eq_zero]
    apply Int.emod_eq_zero_of_dvd
    have h1 := Int.mul_ediv_add_emod (v - x) p
    have h2 := Int.mul_ediv_add_emod (u - x) p
    refine ⟨(u - x) / p - (v - x) / p, ?_⟩
    rw [Int.mul_sub]
    omega
  rw [this]

theorem at_shift {p x : Int} {r : List Int} {i : Int} (h1 : i.toNat < r.length) : atI (shiftT p x r) i = (atI r i - x) % p := by
  unfold atI shiftT
  rw [List.getElem?_map, List.getElem?_eq_getElem h1]
  rfl

theorem good_shift {p e x : Int} {l : List Sp} {set : Nat} {r : List Int} {n : Int} (hv : tabOk p e l = true) (hr : (r.length : Int) = e) (hg : goodT p l set n r) : goodT p l set n (shiftT p x r) := by
  obtain ⟨hp1, hp12⟩ := tab_p hv
  refine ⟨fun y hy => ?_, fun j c hj hs hm => ?_⟩
  · obtain ⟨z, _, rfl⟩ := List.mem_map.1 hy
    exact ⟨Int.emod_nonneg _ (by omega), Int.emod_lt_of_pos _ (by omega)⟩
  · have hsp := sp_of hv (List.mem_of_getElem? hj)
    rw [at_shift (by omega), at_shift (by omega), keep_shift]
    exact hg.2 j c hj hs hm

/-- All spans. -/
def fullS (l : List Sp) : Nat := 2 ^ l.length - 1

theorem full_bit {l : List Sp} {j : Nat} {c : Sp} (h : l[j]? = some c) : (fullS l).testBit j = true := by
  have := (List.getElem?_eq_some_iff.1 h).1
  unfold fullS
  rw [Nat.testBit_two_pow_sub_one]
  simpa using this

end Go.AM

end

section

/- The staged forms of functions 15, 51, 52, 85, 86, 101, and what calls of these answer. -/
namespace Go.AM
open Go.Proofs
noncomputable def f15 (rec : Rec) (_k : Nat) (v0 : Value) (h0 : H) : Option (Value × H) :=
  bx h0 47 v0 fun h1 =>
  ld Try.prog h1 47 (nx h0) 0 fun v1 =>
  calls rec h1 37 [v1] fun v2 h2 =>
  calls rec h2 51 [v2] fun v3 h3 =>
  ext v3 0 fun v4 =>
  asI .i64 v4 fun n0 =>
  ext v3 1 fun v5 =>
  asI .i64 v5 fun n1 =>
  ld Try.prog h3 47 (nx h0) 0 fun v6 =>
  calls rec h3 38 [v6] fun v7 h4 =>
  asB v7 fun q0 =>
  ifB (not q0) (
    ifB (eq n0 0) (
      ifB (eq n1 2) (
        calls rec h4 19 [] fun v8 h5 =>
        asB v8 fun q1 =>
        some ((.bool q1), h5)) (
        some ((.bool false), h4))) (
      some ((.bool false), h4))) (
    ld Try.prog h4 47 (nx h0) 0 fun v9 =>
    calls rec h4 52 [v9] fun v10 h6 =>
    ext v10 0 fun v11 =>
    asI .i64 v11 fun n2 =>
    ext v10 1 fun v12 =>
    asI .i64 v12 fun n3 =>
    ifB (eq n0 n2) (
      ifB (eq n1 n3) (
        calls rec h6 19 [] fun v13 h7 =>
        asB v13 fun q2 =>
        some ((.bool q2), h7)) (
        some ((.bool false), h6))) (
      some ((.bool false), h6)))

theorem e15 (rec : Rec) (k : Nat) (v0 : Value) (h : H) : bodyT Try.prog E0 SC (XC Try.prog rec k) 15 (Value × H) [.opq v0] h (fun v h => some (v, h)) = f15 rec k v0 h := by kernel_rfl

noncomputable def f51_l2 (rec : Rec) (_k : Nat) (h0 : H) (ws0 : List Value) (n2 : Int) (ws1 : List Value) (h4 : H) : Option (Ex × List Value × H) :=
  asI .i64 (gv ws1 2) fun n3 =>
  ifB (lt n3 (shl .i64 1 n2)) (
    asI .i64 (gv ws1 2) fun n4 =>
    calls rec h4 85 [(.int .u64 (wr .u64 n4))] fun v5 h5 =>
    asI .i64 v5 fun n5 =>
    asI .i64 (gv ws0 2) fun n6 =>
    ifB (eq n5 n6) (
      ld Try.prog h5 52 (nx h0) 0 fun v6 =>
      calls rec h5 77 [v6, gv ws1 2] fun v7 h6 =>
      eqv Try.prog 22 v7 (.slice none 0 0) fun q1 =>
      ifB q1 (
        out .ret [gv ws1 2, (.int .i64 0), gv ws1 2] h6) (
        asI .i64 (gv ws1 2) fun n7 =>
        out .normal [gv ws1 0, gv ws1 1, (.int .i64 (add .i64 n7 1))] h6)) (
      asI .i64 (gv ws1 2) fun n8 =>
      out .normal [gv ws1 0, gv ws1 1, (.int .i64 (add .i64 n8 1))] h5)) (
    out (.exit 2) [gv ws1 0, gv ws1 1, gv ws1 2] h4)

noncomputable def f51_l1 (rec : Rec) (k : Nat) (h0 : H) (ws0 : List Value) (h3 : H) : Option (Ex × List Value × H) :=
  ld Try.prog h3 50 (nx h0) (off 0 2) fun v3 =>
  len v3 fun n0 =>
  asI .i64 (gv ws0 2) fun n1 =>
  ifB (le n1 n0) (
    ld Try.prog h3 50 (nx h0) (off 0 2) fun v4 =>
    len v4 fun n2 =>
    nn n2 (
      lp k (f51_l2 rec k h0 ws0 n2) [gv ws0 0, gv ws0 1, (.int .i64 0)] h3 fun e0 ws2 h7 =>
      onE e0 2 (
        asI .i64 (gv ws0 2) fun n9 =>
        out .normal [gv ws2 0, gv ws2 1, (.int .i64 (add .i64 n9 1))] h7) (
        onR e0 (
          out .ret [gv ws2 0, gv ws2 1, gv ws0 2] h7)))) (
    out (.exit 0) [gv ws0 0, gv ws0 1, gv ws0 2] h3)

noncomputable def f51 (rec : Rec) (k : Nat) (v0 : Value) (h0 : H) : Option (Value × H) :=
  bx h0 52 v0 fun h1 =>
  ld Try.prog h1 52 (nx h0) 0 fun v1 =>
  calls rec h1 71 [v1] fun v2 h2 =>
  asB v2 fun q0 =>
  ifB (not q0) (
    some ((.tuple #[(.int .i64 0), (.int .i64 2)]), h2)) (
    lp k (f51_l1 rec k h0) [(.int .i64 0), (.int .i64 0), (.int .i64 1)] h2 fun e1 ws3 h8 =>
    onE e1 0 (
      some ((.tuple #[(.int .i64 0), (.int .i64 4)]), h8)) (
      onR e1 (
        some ((.tuple #[gv ws3 0, gv ws3 1]), h8))))

theorem e51 (rec : Rec) (k : Nat) (v0 : Value) (h : H) : bodyT Try.prog E0 SC (XC Try.prog rec k) 51 (Value × H) [.opq v0] h (fun v h => some (v, h)) = f51 rec k v0 h := by kernel_rfl

theorem t51 {k : Nat} {v0 : Value} {h h1 : H} {v : Value} (hh : f51 rn k v0 h = some (v, h1)) : rn 51 #[v0] h = some (v, trunc Try.prog h h1 v) :=
  run_of_bodyT (args := [.opq v0]) rfl ((e51 _ _ _ _).trans hh)

theorem p51 {k : Nat} {v0 : Value} {h h1 : H} {v : Value} (hh : f51 rn k v0 h = some (v, h1)) (hp : plainO v = true) (x : Ext h h1) : rn 51 #[v0] h = some (v, h) := by rw [t51 hh, trunc_pure hp x]

noncomputable def f52_l2 (_rec : Rec) (_k : Nat)  (ws1 : List Value) (h3 : H) : Option (Ex × List Value × H) :=
  asI .i64 (gv ws1 1) fun n2 =>
  ifB (lt 0 n2) (
    asI .i64 (gv ws1 0) fun n3 =>
    asI .i64 (gv ws1 1) fun n4 =>
    asI .i64 (gv ws1 1) fun n5 =>
    out .normal [(.int .i64 (add .i64 n3 1)), (.int .i64 (and .i64 n5 (sub .i64 n4 1)))] h3) (
    out (.exit 2) [gv ws1 0, gv ws1 1] h3)

noncomputable def f52_l1 (rec : Rec) (k : Nat) (h0 : H) (n0 : Int) (ws0 : List Value) (h2 : H) : Option (Ex × List Value × H) :=
  asI .i64 (gv ws0 2) fun n1 =>
  ifB (lt n1 (shl .i64 1 n0)) (
    lp k (f52_l2 rec k) [(.int .i64 0), gv ws0 2] h2 fun e0 ws2 h4 =>
    onE e0 2 (
      asI .i64 (gv ws2 0) fun n6 =>
      asI .i64 (gv ws0 1) fun n7 =>
      ifB (le n7 n6) (
        asI .i64 (gv ws0 2) fun n8 =>
        out .normal [gv ws0 0, gv ws0 1, (.int .i64 (add .i64 n8 1))] h4) (
        ld Try.prog h4 47 (nx h0) 0 fun v2 =>
        calls rec h4 86 [v2, gv ws0 2] fun v3 h5 =>
        calls rec h5 49 [v3] fun v4 h6 =>
        ext v4 0 fun _ =>
        ext v4 1 fun v6 =>
        asI .i64 v6 fun n9 =>
        ifB (not (eq n9 0)) (
          asI .i64 (gv ws0 2) fun n10 =>
          out .normal [gv ws0 2, gv ws2 0, (.int .i64 (add .i64 n10 1))] h6) (
          asI .i64 (gv ws0 2) fun n11 =>
          out .normal [gv ws0 0, gv ws0 1, (.int .i64 (add .i64 n11 1))] h6))) (
      none)) (
    out (.exit 0) [gv ws0 0, gv ws0 1, gv ws0 2] h2)

noncomputable def f52 (rec : Rec) (k : Nat) (v0 : Value) (h0 : H) : Option (Value × H) :=
  bx h0 47 v0 fun h1 =>
  ld Try.prog h1 45 (nx h0) (off 0 2) fun v1 =>
  len v1 fun n0 =>
  nn n0 (
    lp k (f52_l1 rec k h0 n0) [(.int .i64 0), (.int .i64 99), (.int .i64 0)] h1 fun e1 ws3 h7 =>
    onE e1 0 (
      asI .i64 (gv ws3 1) fun n12 =>
      ifB (eq n12 99) (
        some ((.tuple #[(.int .i64 0), (.int .i64 4)]), h7)) (
        some ((.tuple #[gv ws3 0, (.int .i64 0)]), h7))) (
      none))

theorem e52 (rec : Rec) (k : Nat) (v0 : Value) (h : H) : bodyT Try.prog E0 SC (XC Try.prog rec k) 52 (Value × H) [.opq v0] h (fun v h => some (v, h)) = f52 rec k v0 h := by kernel_rfl

noncomputable def f85 (rec : Rec) (_k : Nat) (v0 : Value) (h0 : H) : Option (Value × H) :=
  calls rec h0 101 [v0] fun v1 h1 =>
  asI .i64 v1 fun n0 =>
  some ((.int .i64 n0), h1)

theorem e85 (rec : Rec) (k : Nat) (v0 : Value) (h : H) : bodyT Try.prog E0 SC (XC Try.prog rec k) 85 (Value × H) [.opq v0] h (fun v h => some (v, h)) = f85 rec k v0 h := by kernel_rfl

theorem t85 {k : Nat} {v0 : Value} {h h1 : H} {v : Value} (hh : f85 rn k v0 h = some (v, h1)) : rn 85 #[v0] h = some (v, trunc Try.prog h h1 v) :=
  run_of_bodyT (args := [.opq v0]) rfl ((e85 _ _ _ _).trans hh)

theorem p85 {k : Nat} {v0 : Value} {h h1 : H} {v : Value} (hh : f85 rn k v0 h = some (v, h1)) (hp : plainO v = true) (x : Ext h h1) : rn 85 #[v0] h = some (v, h) := by rw [t85 hh, trunc_pure hp x]

noncomputable def f86_l3 (_rec : Rec) (_k : Nat) (n0 : Int) (ws0 : List Value) (ws1 : List Value) (v5 : Value) (n10 : Int) (ws2 : List Value) (h6 : H) : Option (Ex × List Value × H) :=
  asI .i64 (gv ws2 1) fun n11 =>
  ifB (lt n11 n10) (
    asK (gv ws2 1) fun n12 =>
    six v5 n12 4 fun b0 b1 =>
    ld Try.prog h6 89 b0 b1 fun v6 =>
    al h6 89 [(.int .i64 0), (.int .i64 0), (.int .i64 0), (.int .i64 0)] fun h7 =>
    st Try.prog h7 89 (nx h6) 0 v6 fun h8 =>
    asK (gv ws2 1) fun n13 =>
    nn n13 (
      ifB (eq (and .i64 (shr .i64 n0 n13) 1) 1) (
        ld Try.prog h8 3 (nx h6) 0 fun v7 =>
        asI .i64 v7 fun n14 =>
        asI .i64 (gv ws1 1) fun n15 =>
        ifB (eq n14 n15) (
          ld Try.prog h8 3 (nx h6) (off 0 1) fun v8 =>
          asI .i64 v8 fun n16 =>
          asI .i64 (gv ws0 1) fun n17 =>
          nn n16 (
            ifB (eq (and .i64 (shr .i64 n17 n16) 1) 1) (
              asI .i64 (gv ws2 1) fun n18 =>
              out .normal [gv ws1 1, (.int .i64 (add .i64 n18 1))] h8) (
              ld Try.prog h8 3 (nx h6) (off 0 1) fun v9 =>
              asI .i64 v9 fun n19 =>
              asI .i64 (gv ws1 1) fun n20 =>
              ifB (eq n19 n20) (
                ld Try.prog h8 3 (nx h6) 0 fun v10 =>
                asI .i64 v10 fun n21 =>
                asI .i64 (gv ws0 1) fun n22 =>
                nn n21 (
                  ifB (eq (and .i64 (shr .i64 n22 n21) 1) 1) (
                    asI .i64 (gv ws2 1) fun n23 =>
                    out .normal [gv ws1 1, (.int .i64 (add .i64 n23 1))] h8) (
                    asI .i64 (gv ws2 1) fun n24 =>
                    out .normal [gv ws2 0, (.int .i64 (add .i64 n24 1))] h8))) (
                asI .i64 (gv ws2 1) fun n25 =>
                out .normal [gv ws2 0, (.int .i64 (add .i64 n25 1))] h8)))) (
          ld Try.prog h8 3 (nx h6) (off 0 1) fun v11 =>
          asI .i64 v11 fun n26 =>
          asI .i64 (gv ws1 1) fun n27 =>
          ifB (eq n26 n27) (
            ld Try.prog h8 3 (nx h6) 0 fun v12 =>
            asI .i64 v12 fun n28 =>
            asI .i64 (gv ws0 1) fun n29 =>
            nn n28 (
              ifB (eq (and .i64 (shr .i64 n29 n28) 1) 1) (
                asI .i64 (gv ws2 1) fun n30 =>
                out .normal [gv ws1 1, (.int .i64 (add .i64 n30 1))] h8) (
                asI .i64 (gv ws2 1) fun n31 =>
                out .normal [gv ws2 0, (.int .i64 (add .i64 n31 1))] h8))) (
            asI .i64 (gv ws2 1) fun n32 =>
            out .normal [gv ws2 0, (.int .i64 (add .i64 n32 1))] h8))) (
        asI .i64 (gv ws2 1) fun n33 =>
        out .normal [gv ws2 0, (.int .i64 (add .i64 n33 1))] h8))) (
    out (.exit 4) [gv ws2 0, gv ws2 1] h6)

noncomputable def f86_l4 (_rec : Rec) (_k : Nat) (n0 : Int) (ws0 : List Value) (ws1 : List Value) (v13 : Value) (n35 : Int) (ws4 : List Value) (h10 : H) : Option (Ex × List Value × H) :=
  asI .i64 (gv ws4 1) fun n36 =>
  ifB (lt n36 n35) (
    asK (gv ws4 1) fun n37 =>
    six v13 n37 4 fun b2 b3 =>
    ld Try.prog h10 89 b2 b3 fun v14 =>
    al h10 89 [(.int .i64 0), (.int .i64 0), (.int .i64 0), (.int .i64 0)] fun h11 =>
    st Try.prog h11 89 (nx h10) 0 v14 fun h12 =>
    asK (gv ws4 1) fun n38 =>
    nn n38 (
      ifB (eq (and .i64 (shr .i64 n0 n38) 1) 1) (
        ld Try.prog h12 3 (nx h10) 0 fun v15 =>
        asI .i64 v15 fun n39 =>
        asI .i64 (gv ws1 1) fun n40 =>
        ifB (eq n39 n40) (
          ld Try.prog h12 3 (nx h10) (off 0 1) fun v16 =>
          asI .i64 v16 fun n41 =>
          asI .i64 (gv ws0 1) fun n42 =>
          nn n41 (
            ifB (eq (and .i64 (shr .i64 n42 n41) 1) 1) (
              asI .i64 (gv ws4 1) fun n43 =>
              out .normal [gv ws1 1, (.int .i64 (add .i64 n43 1))] h12) (
              ld Try.prog h12 3 (nx h10) (off 0 1) fun v17 =>
              asI .i64 v17 fun n44 =>
              asI .i64 (gv ws1 1) fun n45 =>
              ifB (eq n44 n45) (
                ld Try.prog h12 3 (nx h10) 0 fun v18 =>
                asI .i64 v18 fun n46 =>
                asI .i64 (gv ws0 1) fun n47 =>
                nn n46 (
                  ifB (eq (and .i64 (shr .i64 n47 n46) 1) 1) (
                    asI .i64 (gv ws4 1) fun n48 =>
                    out .normal [gv ws1 1, (.int .i64 (add .i64 n48 1))] h12) (
                    asI .i64 (gv ws4 1) fun n49 =>
                    out .normal [gv ws4 0, (.int .i64 (add .i64 n49 1))] h12))) (
                asI .i64 (gv ws4 1) fun n50 =>
                out .normal [gv ws4 0, (.int .i64 (add .i64 n50 1))] h12)))) (
          ld Try.prog h12 3 (nx h10) (off 0 1) fun v19 =>
          asI .i64 v19 fun n51 =>
          asI .i64 (gv ws1 1) fun n52 =>
          ifB (eq n51 n52) (
            ld Try.prog h12 3 (nx h10) 0 fun v20 =>
            asI .i64 v20 fun n53 =>
            asI .i64 (gv ws0 1) fun n54 =>
            nn n53 (
              ifB (eq (and .i64 (shr .i64 n54 n53) 1) 1) (
                asI .i64 (gv ws4 1) fun n55 =>
                out .normal [gv ws1 1, (.int .i64 (add .i64 n55 1))] h12) (
                asI .i64 (gv ws4 1) fun n56 =>
                out .normal [gv ws4 0, (.int .i64 (add .i64 n56 1))] h12))) (
            asI .i64 (gv ws4 1) fun n57 =>
            out .normal [gv ws4 0, (.int .i64 (add .i64 n57 1))] h12))) (
        asI .i64 (gv ws4 1) fun n58 =>
        out .normal [gv ws4 0, (.int .i64 (add .i64 n58 1))] h12))) (
    out (.exit 4) [gv ws4 0, gv ws4 1] h10)

noncomputable def f86_l2 (rec : Rec) (k : Nat) (n0 : Int) (h0 : H) (ws0 : List Value) (n4 : Int) (ws1 : List Value) (h5 : H) : Option (Ex × List Value × H) :=
  asI .i64 (gv ws1 1) fun n5 =>
  ifB (lt n5 n4) (
    asI .i64 (gv ws0 1) fun n6 =>
    asK (gv ws1 1) fun n7 =>
    nn n7 (
      ifB (eq (and .i64 (shr .i64 n6 n7) 1) 1) (
        asI .i64 (gv ws1 1) fun n8 =>
        out .normal [gv ws1 0, (.int .i64 (add .i64 n8 1))] h5) (
        asI .i64 (gv ws1 0) fun n9 =>
        ifB (lt n9 0) (
          ld Try.prog h5 45 (nx h0) (off 0 2) fun v5 =>
          len v5 fun n10 =>
          lp k (f86_l3 rec k n0 ws0 ws1 v5 n10) [gv ws1 1, (.int .i64 0)] h5 fun e0 ws3 h9 =>
          onE e0 4 (
            asI .i64 (gv ws1 1) fun n34 =>
            out .normal [gv ws3 0, (.int .i64 (add .i64 n34 1))] h9) (
            none)) (
          ld Try.prog h5 45 (nx h0) (off 0 2) fun v13 =>
          len v13 fun n35 =>
          lp k (f86_l4 rec k n0 ws0 ws1 v13 n35) [gv ws1 0, (.int .i64 0)] h5 fun e1 ws5 h13 =>
          onE e1 4 (
            asI .i64 (gv ws1 1) fun n59 =>
            out .normal [gv ws5 0, (.int .i64 (add .i64 n59 1))] h13) (
            none))))) (
    out (.exit 2) [gv ws1 0, gv ws1 1] h5)

noncomputable def f86_l1 (rec : Rec) (k : Nat) (n0 : Int) (h0 : H) (v2 : Value) (ws0 : List Value) (h4 : H) : Option (Ex × List Value × H) :=
  len (gv ws0 0) fun n2 =>
  ld Try.prog h4 3 (nx h0) (off 0 1) fun v3 =>
  asI .i64 v3 fun n3 =>
  ifB (lt n2 n3) (
    ld Try.prog h4 3 (nx h0) (off 0 1) fun v4 =>
    asI .i64 v4 fun n4 =>
    lp k (f86_l2 rec k n0 h0 ws0 n4) [(.int .i64 (-1)), (.int .i64 0)] h4 fun e2 ws6 h14 =>
    onE e2 2 (
      len (gv ws0 0) fun n60 =>
      asK (gv ws6 0) fun n61 =>
      six v2 n61 1 fun b4 b5 =>
      st Try.prog h14 3 b4 b5 (.int .i64 n60) fun h15 =>
      bls Try.prog h15 22 1 [(0, gv ws6 0)] fun v21 h16 =>
      app Try.prog h16 22 22 (gv ws0 0) v21 fun v22 h17 =>
      asK (gv ws6 0) fun n62 =>
      nn n62 (
        asI .i64 (gv ws0 1) fun n63 =>
        out .normal [v22, (.int .i64 (or .i64 n63 (shl .i64 1 n62)))] h17)) (
      none)) (
    out (.exit 0) [gv ws0 0, gv ws0 1] h4)

noncomputable def f86_l5 (_rec : Rec) (_k : Nat) (n0 : Int) (v2 : Value) (h18 : H) (v26 : Value) (n66 : Int) (ws8 : List Value) (h21 : H) : Option (Ex × List Value × H) :=
  asI .i64 (gv ws8 0) fun n67 =>
  ifB (lt n67 n66) (
    asK (gv ws8 0) fun n68 =>
    six v26 n68 4 fun b6 b7 =>
    ld Try.prog h21 89 b6 b7 fun v27 =>
    al h21 89 [(.int .i64 0), (.int .i64 0), (.int .i64 0), (.int .i64 0)] fun h22 =>
    st Try.prog h22 89 (nx h21) 0 v27 fun h23 =>
    asK (gv ws8 0) fun n69 =>
    nn n69 (
      ifB (eq (and .i64 (shr .i64 n0 n69) 1) 1) (
        ld Try.prog h23 45 (nx h18) (off 0 2) fun v28 =>
        ld Try.prog h23 3 (nx h21) 0 fun v29 =>
        asI .i64 v29 fun n70 =>
        six v2 n70 1 fun b8 b9 =>
        ld Try.prog h23 3 b8 b9 fun v30 =>
        asI .i64 v30 fun n71 =>
        ld Try.prog h23 3 (nx h21) (off 0 1) fun v31 =>
        asI .i64 v31 fun n72 =>
        six v2 n72 1 fun b10 b11 =>
        ld Try.prog h23 3 b10 b11 fun v32 =>
        asI .i64 v32 fun n73 =>
        ld Try.prog h23 3 (nx h21) (off 0 2) fun v33 =>
        asI .i64 v33 fun n74 =>
        ld Try.prog h23 3 (nx h21) (off 0 3) fun v34 =>
        asI .i64 v34 fun n75 =>
        bld Try.prog 89 [(0, (.int .i64 n71)), (1, (.int .i64 n73)), (2, (.int .i64 n74)), (3, (.int .i64 n75))] fun v35 =>
        bls Try.prog h23 45 1 [(0, v35)] fun v36 h24 =>
        ck (freq (nx h18) (nx h23) (same h24 h23)) (
          app Try.prog h24 45 45 v28 v36 fun v37 h25 =>
          st Try.prog h25 45 (nx h18) (off 0 2) v37 fun h26 =>
          asI .i64 (gv ws8 0) fun n76 =>
          out .normal [(.int .i64 (add .i64 n76 1))] h26)) (
        asI .i64 (gv ws8 0) fun n77 =>
        out .normal [(.int .i64 (add .i64 n77 1))] h23))) (
    out (.exit 6) [gv ws8 0] h21)

noncomputable def f86 (rec : Rec) (k : Nat) (v0 : Value) (n0 : Int) (h0 : H) : Option (Value × H) :=
  bx h0 47 v0 fun h1 =>
  al h1 47 [(.int .i64 0), (.int .i64 0), (.slice none 0 0)] fun h2 =>
  ld Try.prog h2 3 (nx h0) (off 0 1) fun v1 =>
  asI .i64 v1 fun n1 =>
  mks Try.prog h2 22 n1 n1 fun v2 h3 =>
  lp k (f86_l1 rec k n0 h0 v2) [(.slice none 0 0), (.int .i64 0)] h3 fun e3 _ h18 =>
  onE e3 0 (
    ld Try.prog h18 3 (nx h0) 0 fun v23 =>
    asI .i64 v23 fun n64 =>
    ld Try.prog h18 3 (nx h0) (off 0 1) fun v24 =>
    asI .i64 v24 fun n65 =>
    bld Try.prog 47 [(0, (.int .i64 n64)), (1, (.int .i64 n65))] fun v25 =>
    al h18 47 [(.int .i64 0), (.int .i64 0), (.slice none 0 0)] fun h19 =>
    st Try.prog h19 47 (nx h18) 0 v25 fun h20 =>
    ld Try.prog h20 45 (nx h0) (off 0 2) fun v26 =>
    len v26 fun n66 =>
    lp k (f86_l5 rec k n0 v2 h18 v26 n66) [(.int .i64 0)] h20 fun e4 _ h27 =>
    onE e4 6 (
      ld Try.prog h27 47 (nx h18) 0 fun v38 =>
      st Try.prog h27 47 (nx h1) 0 v38 fun h28 =>
      ld Try.prog h28 47 (nx h1) 0 fun v39 =>
      some (v39, h28)) (
      none)) (
    none)

theorem e86 (rec : Rec) (k : Nat) (v0 : Value) (n0 : Int) (h : H) : bodyT Try.prog E0 SC (XC Try.prog rec k) 86 (Value × H) [.opq v0, .int .i64 n0] h (fun v h => some (v, h)) = f86 rec k v0 n0 h := by kernel_rfl

noncomputable def f101 (_rec : Rec) (_k : Nat) (v0 : Value) (h0 : H) : Option (Value × H) :=
  asI .u64 v0 fun n0 =>
  nn 1 (
    asI .u64 v0 fun n1 =>
    nn 2 (
      nn 4 (
        nn 8 (
          nn 16 (
            nn 32 (
              some ((.int .i64 (and .i64 (wr .i64 (add .u64 (add .u64 (add .u64 (and .u64 (add .u64 (shr .u64 (add .u64 (and .u64 (shr .u64 (add .u64 (and .u64 (shr .u64 n0 1) 6148914691236517205) (and .u64 n1 6148914691236517205)) 2) 3689348814741910323) (and .u64 (add .u64 (and .u64 (shr .u64 n0 1) 6148914691236517205) (and .u64 n1 6148914691236517205)) 3689348814741910323)) 4) (add .u64 (and .u64 (shr .u64 (add .u64 (and .u64 (shr .u64 n0 1) 6148914691236517205) (and .u64 n1 6148914691236517205)) 2) 3689348814741910323) (and .u64 (add .u64 (and .u64 (shr .u64 n0 1) 6148914691236517205) (and .u64 n1 6148914691236517205)) 3689348814741910323))) 1085102592571150095) (shr .u64 (and .u64 (add .u64 (shr .u64 (add .u64 (and .u64 (shr .u64 (add .u64 (and .u64 (shr .u64 n0 1) 6148914691236517205) (and .u64 n1 6148914691236517205)) 2) 3689348814741910323) (and .u64 (add .u64 (and .u64 (shr .u64 n0 1) 6148914691236517205) (and .u64 n1 6148914691236517205)) 3689348814741910323)) 4) (add .u64 (and .u64 (shr .u64 (add .u64 (and .u64 (shr .u64 n0 1) 6148914691236517205) (and .u64 n1 6148914691236517205)) 2) 3689348814741910323) (and .u64 (add .u64 (and .u64 (shr .u64 n0 1) 6148914691236517205) (and .u64 n1 6148914691236517205)) 3689348814741910323))) 1085102592571150095) 8)) (shr .u64 (add .u64 (and .u64 (add .u64 (shr .u64 (add .u64 (and .u64 (shr .u64 (add .u64 (and .u64 (shr .u64 n0 1) 6148914691236517205) (and .u64 n1 6148914691236517205)) 2) 3689348814741910323) (and .u64 (add .u64 (and .u64 (shr .u64 n0 1) 6148914691236517205) (and .u64 n1 6148914691236517205)) 3689348814741910323)) 4) (add .u64 (and .u64 (shr .u64 (add .u64 (and .u64 (shr .u64 n0 1) 6148914691236517205) (and .u64 n1 6148914691236517205)) 2) 3689348814741910323) (and .u64 (add .u64 (and .u64 (shr .u64 n0 1) 6148914691236517205) (and .u64 n1 6148914691236517205)) 3689348814741910323))) 1085102592571150095) (shr .u64 (and .u64 (add .u64 (shr .u64 (add .u64 (and .u64 (shr .u64 (add .u64 (and .u64 (shr .u64 n0 1) 6148914691236517205) (and .u64 n1 6148914691236517205)) 2) 3689348814741910323) (and .u64 (add .u64 (and .u64 (shr .u64 n0 1) 6148914691236517205) (and .u64 n1 6148914691236517205)) 3689348814741910323)) 4) (add .u64 (and .u64 (shr .u64 (add .u64 (and .u64 (shr .u64 n0 1) 6148914691236517205) (and .u64 n1 6148914691236517205)) 2) 3689348814741910323) (and .u64 (add .u64 (and .u64 (shr .u64 n0 1) 6148914691236517205) (and .u64 n1 6148914691236517205)) 3689348814741910323))) 1085102592571150095) 8)) 16)) (shr .u64 (add .u64 (add .u64 (and .u64 (add .u64 (shr .u64 (add .u64 (and .u64 (shr .u64 (add .u64 (and .u64 (shr .u64 n0 1) 6148914691236517205) (and .u64 n1 6148914691236517205)) 2) 3689348814741910323) (and .u64 (add .u64 (and .u64 (shr .u64 n0 1) 6148914691236517205) (and .u64 n1 6148914691236517205)) 3689348814741910323)) 4) (add .u64 (and .u64 (shr .u64 (add .u64 (and .u64 (shr .u64 n0 1) 6148914691236517205) (and .u64 n1 6148914691236517205)) 2) 3689348814741910323) (and .u64 (add .u64 (and .u64 (shr .u64 n0 1) 6148914691236517205) (and .u64 n1 6148914691236517205)) 3689348814741910323))) 1085102592571150095) (shr .u64 (and .u64 (add .u64 (shr .u64 (add .u64 (and .u64 (shr .u64 (add .u64 (and .u64 (shr .u64 n0 1) 6148914691236517205) (and .u64 n1 6148914691236517205)) 2) 3689348814741910323) (and .u64 (add .u64 (and .u64 (shr .u64 n0 1) 6148914691236517205) (and .u64 n1 6148914691236517205)) 3689348814741910323)) 4) (add .u64 (and .u64 (shr .u64 (add .u64 (and .u64 (shr .u64 n0 1) 6148914691236517205) (and .u64 n1 6148914691236517205)) 2) 3689348814741910323) (and .u64 (add .u64 (and .u64 (shr .u64 n0 1) 6148914691236517205) (and .u64 n1 6148914691236517205)) 3689348814741910323))) 1085102592571150095) 8)) (shr .u64 (add .u64 (and .u64 (add .u64 (shr .u64 (add .u64 (and .u64 (shr .u64 (add .u64 (and .u64 (shr .u64 n0 1) 6148914691236517205) (and .u64 n1 6148914691236517205)) 2) 3689348814741910323) (and .u64 (add .u64 (and .u64 (shr .u64 n0 1) 6148914691236517205) (and .u64 n1 6148914691236517205)) 3689348814741910323)) 4) (add .u64 (and .u64 (shr .u64 (add .u64 (and .u64 (shr .u64 n0 1) 6148914691236517205) (and .u64 n1 6148914691236517205)) 2) 3689348814741910323) (and .u64 (add .u64 (and .u64 (shr .u64 n0 1) 6148914691236517205) (and .u64 n1 6148914691236517205)) 3689348814741910323))) 1085102592571150095) (shr .u64 (and .u64 (add .u64 (shr .u64 (add .u64 (and .u64 (shr .u64 (add .u64 (and .u64 (shr .u64 n0 1) 6148914691236517205) (and .u64 n1 6148914691236517205)) 2) 3689348814741910323) (and .u64 (add .u64 (and .u64 (shr .u64 n0 1) 6148914691236517205) (and .u64 n1 6148914691236517205)) 3689348814741910323)) 4) (add .u64 (and .u64 (shr .u64 (add .u64 (and .u64 (shr .u64 n0 1) 6148914691236517205) (and .u64 n1 6148914691236517205)) 2) 3689348814741910323) (and .u64 (add .u64 (and .u64 (shr .u64 n0 1) 6148914691236517205) (and .u64 n1 6148914691236517205)) 3689348814741910323))) 1085102592571150095) 8)) 16)) 32))) 127)), h0)))))))

theorem e101 (rec : Rec) (k : Nat) (v0 : Value) (h : H) : bodyT Try.prog E0 SC (XC Try.prog rec k) 101 (Value × H) [.opq v0] h (fun v h => some (v, h)) = f101 rec k v0 h := by kernel_rfl

theorem t101 {k : Nat} {v0 : Value} {h h1 : H} {v : Value} (hh : f101 rn k v0 h = some (v, h1)) : rn 101 #[v0] h = some (v, trunc Try.prog h h1 v) :=
  run_of_bodyT (args := [.opq v0]) rfl ((e101 _ _ _ _).trans hh)

theorem p101 {k : Nat} {v0 : Value} {h h1 : H} {v : Value} (hh : f101 rn k v0 h = some (v, h1)) (hp : plainO v = true) (x : Ext h h1) : rn 101 #[v0] h = some (v, h) := by rw [t101 hh, trunc_pure hp x]

end Go.AM

end

section

/- How many numbers are in a set. -/
namespace Go.AM
open Go.Proofs
variable {R : Type}
/-- How many of the first twelve numbers are in a set. -/
def pop (n : Nat) : Nat := (List.range 12).countP fun i => n.testBit i

noncomputable def cntF (n : Int) : Int := match f101 (fun _ _ _ => none) 0 (.int .u64 n) ⟨fun _ => none, 0, 0⟩ with
  | some (.int _ z, _) => z
  | _ => 0

theorem f101_eq (n : Int) (h : H) : f101 rn 0 (.int .u64 n) h = some (iv (cntF n), h) := by kernel_rfl

theorem cnt_all : ((List.range 4096).all fun n => decide (cntF (n : Int) = (pop n : Int))) = true := by decide +kernel

theorem pop_pos_all : ((List.range 4096).all fun n => decide (n = 0) || decide (0 < pop n)) = true := by decide +kernel

theorem pop_pos {n : Nat} (h0 : 0 < n) (h : n < 4096) : 0 < pop n := by
  have := List.all_eq_true.1 pop_pos_all n (List.mem_range.2 h)
  simp only [Bool.or_eq_true, decide_eq_true_iff] at this
  omega

theorem s85 {n : Nat} (hn : n < 4096) (h : H) : rn 85 #[.int .u64 n] h = some (iv (pop n), h) := by
  have hp : cntF n = (pop n : Int) := of_decide_eq_true (List.all_eq_true.1 cnt_all n (List.mem_range.2 hn))
  have e101 : rn 101 #[.int .u64 n] h = some (iv (pop n), h) := by
    rw [← hp]
    exact p101 (k := 0) (f101_eq n h) rfl (.refl _)
  refine p85 (k := 0) ?_ rfl (.refl _)
  unfold f85
  rw [calls_eq (xs := [.int .u64 n]) e101, asI_int]

attribute [local simp] nx_eq nx_new nx_set blk_new blk_set asI_int asK_int asB_bool asP_ptr al_eq bx_eq len_slice onE_exit onE_ret onR_ret Value.cells d3 d4 d22 d27 d45 d47 d50 d52 d67 d88 d89 w22 w27 cell_new cell_set rd_new rd_set off eq lt le ifB gv out eqF1 eqF2 eqF3 eqF4 eqF5 eqF6 eqF7 eqF8 ext20 ext21
/-- The least of the smallest sets that no timetable keeps. -/
def blameIn (p e : Int) (l : List Sp) (s : Nat) : Option Nat := (List.range (2 ^ l.length)).findSome? fun set => if pop set = s + 1 ∧ firstP p l set e.toNat [] = none then some set else none

def blameP (p e : Int) (l : List Sp) : Option Nat := (List.range l.length).findSome? (blameIn p e l)

theorem wr64u {n : Nat} (h : n < 4096) : wr .u64 (n : Int) = n := by
  unfold wr IntKind.wrap
  show (n : Int) % 2 ^ 64 = n
  omega

set_option maxHeartbeats 1000000 in
theorem s51 {p e : Int} {sl : Value} {l : List Sp} {h : H} (hs : SlR h 67 4 sl (l.map Sp.cells)) :
    rn 51 #[.agg #[iv p, iv e, sl]] h = some (if tabOk p e l = true then (match blameP p e l with | some s => .tuple #[iv (s : Nat), iv 0] | none => .tuple #[iv 0, iv 4]) else .tuple #[iv 0, iv 2], h) := by
  have x1 := Ext.new h (.row [iv p, iv e, sl] 52 true)
  have hb1 : (h.new (.row [iv p, iv e, sl] 52 true)).blk h.nx = some (.row [iv p, iv e, sl] 52 true) := blk_new_self _ _
  have hn1 : h.nx < (h.new (.row [iv p, iv e, sl] 52 true)).nx := Nat.lt_succ_self _
  have kbx : ∀ (K : H → Option (Value × H)), bx h 52 (.agg #[iv p, iv e, sl]) K = K (h.new (.row [iv p, iv e, sl] 52 true)) := fun K => rfl
  have hs1 := hs.ext x1
  generalize h.new (.row [iv p, iv e, sl] 52 true) = h1 at *
  have c71 := fun (K : Value → H → Option (Value × H)) => calls_eq (K := K) (xs := [.agg #[iv p, iv e, sl]]) (s71 (p := p) (e := e) hs1)
  have hsn : ∀ {T : Type} (K : Int → Option T), len sl K = K (l.length : Int) := fun K => by rw [hs.len]; simp
  by_cases hv : tabOk p e l = true
  · rw [if_pos hv]
    have hl12 : l.length ≤ 12 := by simp [tabOk] at hv; omega
    have h4096 : 2 ^ l.length ≤ 4096 := Nat.pow_le_pow_right (n := 2) (by omega) hl12
    have hshl : AM.shl .i64 1 (l.length : Int) = ((2 ^ l.length : Nat) : Int) := shl1_nat (by omega)
    have inner : ∀ (s : Nat) (w0 w1 : Value) (g : H), Ext h1 g → s < l.length → ∃ ee ws' g', lpGo (f51_l2 rn 200010 h [w0, w1, iv (s + 1 : Nat)] l.length) 200010 [w0, w1, iv 0] g = some (ee, ws', g') ∧ Ext g g' ∧
        (match stO (blameIn p e l s) with
          | .inl _ => ee = .exit 2 ∧ ws' = [w0, w1, iv (2 ^ l.length : Nat)]
          | .inr r => ee = .ret ∧ ∃ a, ws' = [iv (r : Nat), iv 0, a]) := by
      intro s w0 w1 g xg hsl
      obtain ⟨ee, ws', g', hlp, hres⟩ := lp_rel (σ := Unit) (ρ := Nat) (F := f51_l2 rn 200010 h [w0, w1, iv (s + 1 : Nat)] l.length) (k := 200010) (l := List.range (2 ^ l.length))
        (fun _ (set : Nat) _ => stO (if pop set = s + 1 ∧ firstP p l set e.toNat [] = none then some set else none))
        (fun i _ ws g' => Ext g g' ∧ ws = [w0, w1, iv i])
        (fun r ee ws g' => ee = .ret ∧ Ext g g' ∧ ∃ a, ws = [iv (r : Nat), iv 0, a]) 2 (ws := [w0, w1, iv 0]) (h := g) (s0 := ())
        ⟨.refl _, rfl⟩ (by simp; omega)
        (by
          rintro _ ws g' ⟨_, rfl⟩
          rw [List.length_range]
          unfold f51_l2
          rw [show AM.gv [w0, w1, iv (2 ^ l.length : Nat)] 2 = iv (2 ^ l.length : Nat) from rfl, asI_int, hshl]
          rw [show AM.lt ((2 ^ l.length : Nat) : Int) ((2 ^ l.length : Nat) : Int) = false by simp, ifB_false]
          rfl)
        (by
          rintro i set _ ws g2 hx ⟨x2, rfl⟩
          have hi := (List.getElem?_eq_some_iff.1 hx).1
          rw [List.length_range] at hi
          rw [List.getElem?_range hi] at hx
          cases hx
          have hadd : add .i64 (i : Int) 1 = (i : Int) + 1 := add64 (by omega) (by omega)
          have c85 := fun (K : Value → H → Option (Ex × List Value × H)) => calls_eq (K := K) (xs := [.int .u64 i]) (s85 (n := i) (by omega) g2)
          have hlt : AM.lt (i : Int) ((2 ^ l.length : Nat) : Int) = true := by rw [AM.lt, decide_eq_true_iff]; omega
          have hbg := ((xg.trans x2).blk _ hn1).trans hb1
          have start : f51_l2 rn 200010 h [w0, w1, iv (s + 1 : Nat)] l.length [w0, w1, iv i] g2 = (if pop i = s + 1 then
              (calls rn g2 77 [.agg #[iv p, iv e, sl], iv i] fun v7 h6 => eqv Try.prog 22 v7 (.slice none 0 0) fun q1 => ifB q1 (AM.out .ret [iv i, iv 0, iv i] h6) (AM.out .normal [w0, w1, iv ((i : Int) + 1)] h6)) else
              some (.normal, [w0, w1, iv ((i : Int) + 1)], g2)) := by
            unfold f51_l2
            rw [show AM.gv [w0, w1, iv i] 2 = iv i from rfl, asI_int, hshl, hlt, ifB_true, asI_int, wr64u (by omega), c85, asI_int, show AM.gv [w0, w1, iv (s + 1 : Nat)] 2 = iv (s + 1 : Nat) from rfl, asI_int]
            by_cases hp : pop i = s + 1
            · rw [if_pos hp, hp, show AM.eq ((s + 1 : Nat) : Int) ((s + 1 : Nat) : Int) = true by simp, ifB_true, nx_eq, d52, rd_of hbg]
              rw [if_pos (by simp)]
              simp [hadd]
            · rw [if_neg hp, show AM.eq (pop i : Int) ((s + 1 : Nat) : Int) = false by simp; omega, ifB_false, asI_int, hadd]
              rfl
          rw [start]
          by_cases hp : pop i = s + 1
          · rw [if_pos hp]
            obtain ⟨v', h', e77, x', hres⟩ := s77 (set := i) hv (by omega) ((hs1.ext xg).ext x2)
            have c77 := fun (K : Value → H → Option (Ex × List Value × H)) => calls_eq (K := K) (xs := [.agg #[iv p, iv e, sl], iv i]) e77
            rw [c77]
            rcases hres with ⟨hno, rfl⟩ | ⟨r, hyes, hrl, hsr⟩
            · rw [if_pos ⟨hp, hno⟩]
              simp only [stO]
              have kn : ∀ (K : Bool → Option (Ex × List Value × H)), eqv Try.prog 22 (.slice none 0 0) (.slice none 0 0) K = K true := fun K => by unfold eqv; rw [nil22]
              rw [kn, ifB_true]
              exact ⟨_, _, _, rfl, by simp, rfl, x2.trans x', _, rfl⟩
            · rw [if_neg (by rintro ⟨_, h⟩; rw [hyes] at h; cases h)]
              simp only [stO]
              have hr : r ≠ [] := by
                have he6 : 1 ≤ e ∧ e ≤ 6 := by simp only [tabOk, Bool.and_eq_true, decide_eq_true_iff] at hv; omega
                intro e; subst e; simp at hrl; omega
              rw [nil22e hsr hr, ifB_false]
              exact ⟨_, _, _, rfl, rfl, x2.trans x', rfl⟩
          · rw [if_neg hp, if_neg (by rintro ⟨h, _⟩; exact hp h)]
            simp only [stO]
            exact ⟨_, _, _, rfl, rfl, x2, rfl⟩)
      rw [itL_find, show ((List.range (2 ^ l.length)).findSome? fun set => if pop set = s + 1 ∧ firstP p l set e.toNat [] = none then some set else none) = blameIn p e l s from rfl] at hres
      cases hb : blameIn p e l s with
      | none =>
        rw [hb] at hres
        obtain ⟨rfl, x, rfl⟩ := hres
        exact ⟨_, _, _, hlp, x, rfl, by rw [List.length_range]⟩
      | some r =>
        rw [hb] at hres
        obtain ⟨_, rfl, x, a, rfl⟩ := hres
        exact ⟨_, _, _, hlp, x, rfl, a, rfl⟩
    obtain ⟨ee, ws', g', hlp, hres⟩ := lp_rel (σ := Unit) (ρ := Nat) (F := f51_l1 rn 200010 h) (k := 200010) (l := List.range l.length)
      (fun _ (s : Nat) _ => stO (blameIn p e l s))
      (fun i _ ws g' => Ext h1 g' ∧ ws = [iv 0, iv 0, iv ((i + 1 : Nat) : Int)])
      (fun r ee ws g' => ee = .ret ∧ Ext h1 g' ∧ ∃ a, ws = [iv (r : Nat), iv 0, a]) 0 (ws := [iv 0, iv 0, iv 1]) (h := h1) (s0 := ())
      ⟨.refl _, rfl⟩ (by simp; omega)
      (by
        rintro _ ws g' ⟨x, rfl⟩
        rw [List.length_range]
        have hbg := (x.blk _ hn1).trans hb1
        simp [f51_l1, cell_of hbg, hsn]
        omega)
      (by
        rintro i s _ ws g2 hx ⟨x2, rfl⟩
        have hi := (List.getElem?_eq_some_iff.1 hx).1
        rw [List.length_range] at hi
        rw [List.getElem?_range hi] at hx
        cases hx
        have hbg := (x2.blk _ hn1).trans hb1
        have hadd : add .i64 ((i + 1 : Nat) : Int) 1 = ((i + 1 + 1 : Nat) : Int) := by rw [add64 (by omega) (by omega)]; omega
        obtain ⟨ee, ws', g', hl, xg, hm⟩ := inner i (iv 0) (iv 0) g2 x2 hi
        have hle : AM.le ((i + 1 : Nat) : Int) (l.length : Int) = true := by rw [AM.le, decide_eq_true_iff]; omega
        have start : f51_l1 rn 200010 h [iv 0, iv 0, iv ((i + 1 : Nat) : Int)] g2 = onE ee 2 (AM.out .normal [AM.gv ws' 0, AM.gv ws' 1, iv ((i + 1 + 1 : Nat) : Int)] g') (onR ee (AM.out .ret [AM.gv ws' 0, AM.gv ws' 1, iv ((i + 1 : Nat) : Int)] g')) := by
          unfold f51_l1
          simp only [nx_eq, d50, cell_of hbg, AM.off, List.getElem?_cons_succ, List.getElem?_cons_zero, Option.bind_some, hsn]
          rw [show AM.gv [iv 0, iv 0, iv ((i + 1 : Nat) : Int)] 2 = iv ((i + 1 : Nat) : Int) from rfl, asI_int, hle, ifB_true, nn_ge (by omega)]
          refine (lp_eq hl).trans ?_
          rw [asI_int, hadd]
        rw [start]
        cases hb : blameIn p e l i with
        | none =>
          rw [hb] at hm
          obtain ⟨rfl, rfl⟩ := hm
          exact ⟨_, _, _, rfl, rfl, x2.trans xg, rfl⟩
        | some r =>
          rw [hb] at hm
          obtain ⟨rfl, a, rfl⟩ := hm
          exact ⟨_, _, _, rfl, by simp, rfl, x2.trans xg, _, rfl⟩)
    rw [itL_find, show (List.range l.length).findSome? (blameIn p e l) = blameP p e l from rfl] at hres
    have hF : f51 rn 200010 (.agg #[iv p, iv e, sl]) h = onE ee 0 (some ((.tuple #[(.int .i64 0), (.int .i64 4)]), g')) (onR ee (some ((.tuple #[AM.gv ws' 0, AM.gv ws' 1]), g'))) := by
      unfold f51
      rw [kbx]
      simp only [nx_eq, d52, rd_of hb1, AM.off]
      rw [if_pos (by simp)]
      simp only [List.drop_zero, List.take_succ_cons, List.take_zero, Option.bind_some]
      rw [c71, hv, asB_bool, show (!true) = false from rfl, ifB_false]
      exact (lp_eq hlp).trans rfl
    cases hb : blameP p e l with
    | none =>
      rw [hb] at hres
      obtain ⟨rfl, x, rfl⟩ := hres
      exact p51 (k := 200010) (h1 := g') (by rw [hF]; simp) rfl (x1.trans x)
    | some r =>
      rw [hb] at hres
      obtain ⟨_, rfl, x, a, rfl⟩ := hres
      exact p51 (k := 200010) (h1 := g') (by rw [hF]; simp) rfl (x1.trans x)
  · rw [if_neg hv]
    have hv' : tabOk p e l = false := by simpa using hv
    refine p51 (k := 0) (h1 := h1) ?_ rfl x1
    unfold f51
    rw [kbx]
    simp [rd_of hb1, c71, hv']

end Go.AM

end
