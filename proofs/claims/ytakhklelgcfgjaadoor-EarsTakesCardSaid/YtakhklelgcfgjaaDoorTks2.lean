/- Parts of the proof, put together: what the functions of the program answer, and plain laws. -/
import Derived.Test.YtakhklelgcfgjaaDoorAmMap
import Derived.Test.YtakhklelgcfgjaaDoorAmQue
import Derived.Test.YtakhklelgcfgjaaDoorTks1

section

/- The staged forms of functions 42, 86, 88, 104, 97, 111, 55, 57, 98, 8, 13, and what calls of these answer. -/
namespace Go.AM
open Go.Proofs
noncomputable def f42_l2 (rec : Rec) (_k : Nat) (v2 : Value) (h3 : H) (h5 : H) (h7 : H) (v21 : Value) (n6 : Int) (ws1 : List Value) (h21 : H) : Option (Ex × List Value × H) :=
  asI .i64 (gv ws1 0) fun n7 =>
  ifB (lt n7 n6) (
    asK (gv ws1 0) fun n8 =>
    six v21 n8 1 fun b2 b3 =>
    ld Tryd.prog h21 3 b2 b3 fun v22 =>
    asI .i64 v22 fun n9 =>
    ld Tryd.prog h21 78 (nx h3) 0 fun v23 =>
    six v23 n9 1 fun b4 b5 =>
    ld Tryd.prog h21 3 b4 b5 fun v24 =>
    asI .i64 v24 fun n10 =>
    ifB (eq n10 0) (
      asI .i64 (gv ws1 0) fun n11 =>
      out .normal [(.int .i64 (add .i64 n11 1))] h21) (
      ld Tryd.prog h21 78 (nx h3) 0 fun v25 =>
      six v25 n9 1 fun b6 b7 =>
      ld Tryd.prog h21 3 b6 b7 fun v26 =>
      asI .i64 v26 fun n12 =>
      calls rec h21 89 [(.int .u64 (wr .u64 n12))] fun v27 h22 =>
      asI .i64 v27 fun n13 =>
      ld Tryd.prog h22 3 (nx h5) 0 fun v28 =>
      asI .i64 v28 fun n14 =>
      nn n9 (
        calls rec h22 65 [v2] fun v29 h23 =>
        asI .i64 v29 fun n15 =>
        ck (freq (nx h5) (nx h22) (same h23 h22)) (
          ld Tryd.prog h23 3 (nx h5) 0 fun v30 =>
          asI .i64 v30 fun n16 =>
          ck (freq (nx h5) (nx h22) (same h23 h22)) (
            calls rec h23 88 [v2, (.int .i64 n13), (.int .i64 (andNot .i64 n14 (shl .i64 1 n9))), (.int .i64 (andNot .i64 n15 n16))] fun v31 h24 =>
            bls Tryd.prog h24 102 1 [(0, (.int .i64 n9))] fun v32 h25 =>
            ck (freq (nx h5) (nx h24) (same h25 h24)) (
              ck (freq (nx h5) (nx h24) (same h25 h24)) (
                app Tryd.prog h25 102 22 v32 v31 fun v33 h26 =>
                calls rec h26 86 [v33, (pt (nx h5) 0), (pt (nx h3) 0), (pt (nx h7) 0)] fun _ h27 =>
                out (.exit 2) [gv ws1 0] h27))))))) (
    out (.exit 2) [gv ws1 0] h21)

noncomputable def f42_l1 (rec : Rec) (k : Nat) (v2 : Value) (h3 : H) (h5 : H) (h7 : H) (_ws0 : List Value) (h18 : H) : Option (Ex × List Value × H) :=
  ld Tryd.prog h18 78 (nx h3) 0 fun v18 =>
  calls rec h18 77 [v18] fun v19 h19 =>
  len v19 fun n4 =>
  ifB (lt 0 n4) (
    ld Tryd.prog h19 3 (nx h5) 0 fun v20 =>
    asI .i64 v20 fun n5 =>
    calls rec h19 76 [(.int .i64 n5)] fun v21 h20 =>
    len v21 fun n6 =>
    lp k (f42_l2 rec k v2 h3 h5 h7 v21 n6) [(.int .i64 0)] h20 fun e0 _ h28 =>
    onE e0 2 (
      out .normal [] h28) (
      none)) (
    out (.exit 0) [] h19)

noncomputable def f42 (rec : Rec) (k : Nat) (v0 : Value) (h0 : H) : Option (Value × H) :=
  calls rec h0 63 [v0] fun v1 h1 =>
  ext v1 0 fun v2 =>
  ext v1 1 fun v3 =>
  asB v3 fun q0 =>
  ifB (not q0) (
    some ((.tuple #[(.slice none 0 0), (.int .i64 2)]), h1)) (
    calls rec h1 81 [v2] fun v4 h2 =>
    asB v4 fun q1 =>
    ifB (not q1) (
      some ((.tuple #[(.slice none 0 0), (.int .i64 5)]), h2)) (
      calls rec h2 85 [v2] fun v5 h3 =>
      al h3 78 [(.slice none 0 0)] fun h4 =>
      st Tryd.prog h4 78 (nx h3) 0 v5 fun h5 =>
      al h5 3 [(.int .i64 0)] fun h6 =>
      st Tryd.prog h6 3 (nx h5) 0 (.int .i64 0) fun h7 =>
      al h7 56 [(.slice none 0 0)] fun h8 =>
      calls rec h8 77 [v2] fun v6 h9 =>
      six v6 0 2 fun b0 b1 =>
      ld Tryd.prog h9 32 b0 b1 fun v7 =>
      al h9 32 [(.int .i64 0), (.int .i64 0)] fun h10 =>
      st Tryd.prog h10 32 (nx h9) 0 v7 fun h11 =>
      ld Tryd.prog h11 32 (nx h9) 0 fun v8 =>
      calls rec h11 87 [v2, v8] fun v9 h12 =>
      aix 2 0 (
        ld Tryd.prog h12 3 (nx h9) (at_ 0 0 1) fun v10 =>
        asI .i64 v10 fun n0 =>
        ck (freq (nx h9) (nx h11) (same h12 h11)) (
          aix 2 1 (
            ld Tryd.prog h12 3 (nx h9) (at_ 0 1 1) fun v11 =>
            asI .i64 v11 fun n1 =>
            ck (freq (nx h9) (nx h11) (same h12 h11)) (
              nn n1 (
                calls rec h12 65 [v2] fun v12 h13 =>
                asI .i64 v12 fun n2 =>
                ck (freq (nx h9) (nx h12) (same h13 h12)) (
                  ck (freq (nx h9) (nx h12) (same h13 h12)) (
                    calls rec h13 88 [v9, (.int .i64 n0), (.int .i64 (shl .i64 1 n1)), (.int .i64 n2)] fun v13 h14 =>
                    aix 2 0 (
                      ld Tryd.prog h14 3 (nx h9) (at_ 0 0 1) fun v14 =>
                      asI .i64 v14 fun n3 =>
                      ck (freq (nx h9) (nx h13) (same h14 h13)) (
                        ck (freq (nx h9) (nx h12) (same h13 h12)) (
                          ck (freq (nx h9) (nx h11) (same h12 h11)) (
                            bls Tryd.prog h14 102 1 [(0, (.int .i64 n3))] fun v15 h15 =>
                            ck (freq (nx h9) (nx h14) (same h15 h14)) (
                              ck (freq (nx h9) (nx h14) (same h15 h14)) (
                                ck (freq (nx h9) (nx h14) (same h15 h14)) (
                                  app Tryd.prog h15 102 102 v13 v15 fun v16 h16 =>
                                  calls rec h16 86 [v16, (pt (nx h5) 0), (pt (nx h3) 0), (pt (nx h7) 0)] fun _ h17 =>
                                  lp k (f42_l1 rec k v2 h3 h5 h7) [] h17 fun e1 _ h29 =>
                                  onE e1 0 (
                                    ld Tryd.prog h29 56 (nx h7) 0 fun v35 =>
                                    some ((.tuple #[v35, (.int .i64 0)]), h29)) (
                                    none)))))))))))))))))

theorem e42 (rec : Rec) (k : Nat) (v0 : Value) (h : H) : bodyT Tryd.prog E0 SC (XC Tryd.prog rec k) 42 (Value × H) [.opq v0] h (fun v h => some (v, h)) = f42 rec k v0 h := by kernel_rfl

theorem t42 {k : Nat} {v0 : Value} {h h1 : H} {v : Value} (hh : f42 rn k v0 h = some (v, h1)) : rn 42 #[v0] h = some (v, trunc Tryd.prog h h1 v) :=
  run_of_bodyT (args := [.opq v0]) rfl ((e42 _ _ _ _).trans hh)

theorem x42 {k : Nat} {v0 : Value} {h h1 : H} {v : Value} (hh : f42 rn k v0 h = some (v, h1)) (hp : plainO v = false) : ∃ h2, rn 42 #[v0] h = some (v, h2) ∧ Sm h1 h2 ∧ (Ext h h1 → Exw h h2) := trunc_cell hp (t42 hh)

theorem y42 {k : Nat} {v0 : Value} {h : H} {v : Value} (hh : f42 rn k v0 h = some (v, h)) : rn 42 #[v0] h = some (v, h) := by rw [t42 hh, trunc_self]

noncomputable def f86_l1 (rec : Rec) (_k : Nat) (v0 : Value) (v1 : Value) (v2 : Value) (n0 : Int) (ws0 : List Value) (h1 : H) : Option (Ex × List Value × H) :=
  asI .i64 (gv ws0 0) fun n1 =>
  ifB (lt n1 n0) (
    asK (gv ws0 0) fun n2 =>
    six v0 n2 1 fun b0 b1 =>
    ld Tryd.prog h1 3 b0 b1 fun v4 =>
    asI .i64 v4 fun n3 =>
    asP v1 fun _ _ =>
    asP v1 fun b4 b5 =>
    ld Tryd.prog h1 3 b4 b5 fun v5 =>
    asI .i64 v5 fun n4 =>
    nn n3 (
      asP v1 fun _ _ =>
      asP v1 fun b8 b9 =>
      st Tryd.prog h1 3 b8 b9 (.int .i64 (or .i64 n4 (shl .i64 1 n3))) fun h2 =>
      asI .i64 (gv ws0 0) fun n5 =>
      ifB (lt 0 n5) (
        asP v2 fun _ _ =>
        asP v2 fun b12 b13 =>
        ld Tryd.prog h2 78 b12 b13 fun v6 =>
        asI .i64 (gv ws0 0) fun n6 =>
        six v0 (sub .i64 n6 1) 1 fun b14 b15 =>
        ld Tryd.prog h2 3 b14 b15 fun v7 =>
        asI .i64 v7 fun n7 =>
        bld Tryd.prog 32 [(0, (.int .i64 n7)), (1, (.int .i64 n3))] fun v8 =>
        calls rec h2 87 [v6, v8] fun v9 h3 =>
        asP v2 fun _ _ =>
        asP v2 fun b18 b19 =>
        st Tryd.prog h3 78 b18 b19 v9 fun h4 =>
        asI .i64 (gv ws0 0) fun n8 =>
        out .normal [(.int .i64 (add .i64 n8 1))] h4) (
        asI .i64 (gv ws0 0) fun n9 =>
        out .normal [(.int .i64 (add .i64 n9 1))] h2))) (
    out (.exit 0) [gv ws0 0] h1)

noncomputable def f86 (rec : Rec) (k : Nat) (v0 : Value) (v1 : Value) (v2 : Value) (v3 : Value) (h0 : H) : Option (Value × H) :=
  len v0 fun n0 =>
  lp k (f86_l1 rec k v0 v1 v2 n0) [(.int .i64 0)] h0 fun e0 _ h5 =>
  onE e0 0 (
    asP v3 fun b20 b21 =>
    ld Tryd.prog h5 56 b20 b21 fun v10 =>
    bls Tryd.prog h5 56 1 [(0, v0)] fun v11 h6 =>
    app Tryd.prog h6 56 56 v10 v11 fun v12 h7 =>
    asP v3 fun b22 b23 =>
    st Tryd.prog h7 56 b22 b23 v12 fun h8 =>
    some (undef, h8)) (
    none)

theorem e86 (rec : Rec) (k : Nat) (v0 : Value) (v1 : Value) (v2 : Value) (v3 : Value) (h : H) : bodyT Tryd.prog E0 SC (XC Tryd.prog rec k) 86 (Value × H) [.opq v0, .opq v1, .opq v2, .opq v3] h (fun v h => some (v, h)) = f86 rec k v0 v1 v2 v3 h := by kernel_rfl

theorem t86 {k : Nat} {v0 : Value} {v1 : Value} {v2 : Value} {v3 : Value} {h h1 : H} {v : Value} (hh : f86 rn k v0 v1 v2 v3 h = some (v, h1)) : rn 86 #[v0, v1, v2, v3] h = some (v, trunc Tryd.prog h h1 v) :=
  run_of_bodyT (args := [.opq v0, .opq v1, .opq v2, .opq v3]) rfl ((e86 _ _ _ _ _ _ _).trans hh)

noncomputable def f88_l2 (_rec : Rec) (_k : Nat) (h0 : H) (ws1 : List Value) (h5 : H) : Option (Ex × List Value × H) :=
  asI .i64 (gv ws1 1) fun n5 =>
  ifB (le 0 n5) (
    bls Tryd.prog h5 22 1 [(0, gv ws1 1)] fun v3 h6 =>
    app Tryd.prog h6 22 22 (gv ws1 0) v3 fun v4 h7 =>
    lok Tryd.prog h7 87 (.map (some (nx h0))) (gv ws1 1) false fun v5 =>
    asI .i64 v5 fun n6 =>
    out .normal [v4, (.int .i64 n6)] h7) (
    out (.exit 2) [gv ws1 0, gv ws1 1] h5)

noncomputable def f88_l3 (_rec : Rec) (_k : Nat) (h0 : H) (n4 : Int) (v8 : Value) (n8 : Int) (ws3 : List Value) (h11 : H) : Option (Ex × List Value × H) :=
  asI .i64 (gv ws3 1) fun n9 =>
  ifB (lt n9 n8) (
    asK (gv ws3 1) fun n10 =>
    six v8 n10 1 fun b4 b5 =>
    ld Tryd.prog h11 3 b4 b5 fun v9 =>
    asI .i64 v9 fun n11 =>
    lok Tryd.prog h11 87 (.map (some (nx h0))) (.int .i64 n11) true fun v10 =>
    ext v10 0 fun v11 =>
    asI .i64 v11 fun _ =>
    ext v10 1 fun v12 =>
    asB v12 fun q0 =>
    ifB (not q0) (
      mup Tryd.prog h11 87 (.map (some (nx h0))) (.int .i64 n11) (.int .i64 n4) fun h12 =>
      bls Tryd.prog h12 22 1 [(0, (.int .i64 n11))] fun v13 h13 =>
      app Tryd.prog h13 22 22 (gv ws3 0) v13 fun v14 h14 =>
      asI .i64 (gv ws3 1) fun n13 =>
      out .normal [v14, (.int .i64 (add .i64 n13 1))] h14) (
      asI .i64 (gv ws3 1) fun n14 =>
      out .normal [gv ws3 0, (.int .i64 (add .i64 n14 1))] h11)) (
    out (.exit 4) [gv ws3 0, gv ws3 1] h11)

noncomputable def f88_l1 (rec : Rec) (k : Nat) (v0 : Value) (n1 : Int) (n2 : Int) (h0 : H) (ws0 : List Value) (h4 : H) : Option (Ex × List Value × H) :=
  len (gv ws0 1) fun n3 =>
  ifB (lt 0 n3) (
    six (gv ws0 1) 0 1 fun b0 b1 =>
    ld Tryd.prog h4 3 b0 b1 fun v2 =>
    asI .i64 v2 fun n4 =>
    nn n4 (
      ifB (eq (and .i64 (shr .i64 n1 n4) 1) 1) (
        lp k (f88_l2 rec k h0) [(.slice none 0 0), (.int .i64 n4)] h4 fun e0 ws2 h8 =>
        onE e0 2 (
          calls rec h8 104 [gv ws2 0] fun _ h9 =>
          out .ret [gv ws2 0, gv ws0 1] h9) (
          none)) (
        six v0 n4 1 fun b2 b3 =>
        ld Tryd.prog h4 3 b2 b3 fun v7 =>
        asI .i64 v7 fun n7 =>
        calls rec h4 76 [(.int .i64 (and .i64 n7 (or .i64 n2 n1)))] fun v8 h10 =>
        len v8 fun n8 =>
        lp k (f88_l3 rec k h0 n4 v8 n8) [gv ws0 1, (.int .i64 0)] h10 fun e1 ws4 h15 =>
        onE e1 4 (
          sli Tryd.prog h15 22 (gv ws4 0) (some (.int .i64 1)) none none fun v15 =>
          out .normal [gv ws0 0, v15] h15) (
          none)))) (
    out (.exit 0) [gv ws0 0, gv ws0 1] h4)

noncomputable def f88 (rec : Rec) (k : Nat) (v0 : Value) (n0 : Int) (n1 : Int) (n2 : Int) (h0 : H) : Option (Value × H) :=
  mkm h0 fun h1 =>
  mup Tryd.prog h1 87 (.map (some (nx h0))) (.int .i64 n0) (.int .i64 (-1)) fun h2 =>
  bls Tryd.prog h2 22 1 [(0, (.int .i64 n0))] fun v1 h3 =>
  lp k (f88_l1 rec k v0 n1 n2 h0) [(.slice none 0 0), v1] h3 fun e2 ws5 h16 =>
  onE e2 0 (
    some ((.slice none 0 0), h16)) (
    onR e2 (
      some (gv ws5 0, h16)))

theorem e88 (rec : Rec) (k : Nat) (v0 : Value) (n0 : Int) (n1 : Int) (n2 : Int) (h : H) : bodyT Tryd.prog E0 SC (XC Tryd.prog rec k) 88 (Value × H) [.opq v0, .int .i64 n0, .int .i64 n1, .int .i64 n2] h (fun v h => some (v, h)) = f88 rec k v0 n0 n1 n2 h := by kernel_rfl

theorem t88 {k : Nat} {v0 : Value} {n0 : Int} {n1 : Int} {n2 : Int} {h h1 : H} {v : Value} (hh : f88 rn k v0 n0 n1 n2 h = some (v, h1)) : rn 88 #[v0, .int .i64 n0, .int .i64 n1, .int .i64 n2] h = some (v, trunc Tryd.prog h h1 v) :=
  run_of_bodyT (args := [.opq v0, .int .i64 n0, .int .i64 n1, .int .i64 n2]) rfl ((e88 _ _ _ _ _ _ _).trans hh)

theorem x88 {k : Nat} {v0 : Value} {n0 : Int} {n1 : Int} {n2 : Int} {h h1 : H} {v : Value} (hh : f88 rn k v0 n0 n1 n2 h = some (v, h1)) (hp : plainO v = false) : ∃ h2, rn 88 #[v0, .int .i64 n0, .int .i64 n1, .int .i64 n2] h = some (v, h2) ∧ Sm h1 h2 ∧ (Ext h h1 → Exw h h2) := trunc_cell hp (t88 hh)

noncomputable def f104_l1 (_rec : Rec) (_k : Nat) (v0 : Value) (ws0 : List Value) (h1 : H) : Option (Ex × List Value × H) :=
  asI .i64 (gv ws0 0) fun n1 =>
  asI .i64 (gv ws0 1) fun n2 =>
  ifB (lt n1 n2) (
    asK (gv ws0 1) fun n3 =>
    six v0 n3 1 fun b0 b1 =>
    ld Tryd.prog h1 3 b0 b1 fun v1 =>
    asI .i64 v1 fun n4 =>
    asK (gv ws0 0) fun n5 =>
    six v0 n5 1 fun b2 b3 =>
    ld Tryd.prog h1 3 b2 b3 fun v2 =>
    asI .i64 v2 fun n6 =>
    asK (gv ws0 0) fun n7 =>
    six v0 n7 1 fun b4 b5 =>
    st Tryd.prog h1 3 b4 b5 (.int .i64 n4) fun h2 =>
    asK (gv ws0 1) fun n8 =>
    six v0 n8 1 fun b6 b7 =>
    st Tryd.prog h2 3 b6 b7 (.int .i64 n6) fun h3 =>
    asI .i64 (gv ws0 0) fun n9 =>
    asI .i64 (gv ws0 1) fun n10 =>
    out .normal [(.int .i64 (add .i64 n9 1)), (.int .i64 (sub .i64 n10 1))] h3) (
    out (.exit 0) [gv ws0 0, gv ws0 1] h1)

noncomputable def f104 (rec : Rec) (k : Nat) (v0 : Value) (h0 : H) : Option (Value × H) :=
  len v0 fun n0 =>
  lp k (f104_l1 rec k v0) [(.int .i64 0), (.int .i64 (sub .i64 n0 1))] h0 fun e0 _ h4 =>
  onE e0 0 (
    some (undef, h4)) (
    none)

theorem e104 (rec : Rec) (k : Nat) (v0 : Value) (h : H) : bodyT Tryd.prog E0 SC (XC Tryd.prog rec k) 104 (Value × H) [.opq v0] h (fun v h => some (v, h)) = f104 rec k v0 h := by kernel_rfl

theorem t104 {k : Nat} {v0 : Value} {h h1 : H} {v : Value} (hh : f104 rn k v0 h = some (v, h1)) : rn 104 #[v0] h = some (v, trunc Tryd.prog h h1 v) :=
  run_of_bodyT (args := [.opq v0]) rfl ((e104 _ _ _ _).trans hh)

noncomputable def f97 (rec : Rec) (_k : Nat) (v0 : Value) (n0 : Int) (h0 : H) : Option (Value × H) :=
  calls rec h0 111 [v0, (.int .i64 n0)] fun v1 h1 =>
  asI .i64 v1 fun n1 =>
  some ((.bool (le 0 n1)), h1)

theorem e97 (rec : Rec) (k : Nat) (v0 : Value) (n0 : Int) (h : H) : bodyT Tryd.prog E0 SC (XC Tryd.prog rec k) 97 (Value × H) [.opq v0, .int .i64 n0] h (fun v h => some (v, h)) = f97 rec k v0 n0 h := by kernel_rfl

theorem t97 {k : Nat} {v0 : Value} {n0 : Int} {h h1 : H} {v : Value} (hh : f97 rn k v0 n0 h = some (v, h1)) : rn 97 #[v0, .int .i64 n0] h = some (v, trunc Tryd.prog h h1 v) :=
  run_of_bodyT (args := [.opq v0, .int .i64 n0]) rfl ((e97 _ _ _ _ _).trans hh)

theorem p97 {k : Nat} {v0 : Value} {n0 : Int} {h h1 : H} {v : Value} (hh : f97 rn k v0 n0 h = some (v, h1)) (hp : plainO v = true) (x : Ext h h1) : rn 97 #[v0, .int .i64 n0] h = some (v, h) := by rw [t97 hh, trunc_pure hp x]

noncomputable def f111_l1 (_rec : Rec) (_k : Nat) (v0 : Value) (n0 : Int) (n1 : Int) (ws0 : List Value) (h1 : H) : Option (Ex × List Value × H) :=
  asI .i64 (gv ws0 1) fun n2 =>
  ifB (lt n2 n1) (
    asK (gv ws0 1) fun n3 =>
    six v0 n3 1 fun b0 b1 =>
    ld Tryd.prog h1 3 b0 b1 fun v1 =>
    asI .i64 v1 fun n4 =>
    ifB (eq n0 n4) (
      out .ret [gv ws0 1, gv ws0 1] h1) (
      asI .i64 (gv ws0 1) fun n5 =>
      out .normal [gv ws0 0, (.int .i64 (add .i64 n5 1))] h1)) (
    out (.exit 0) [gv ws0 0, gv ws0 1] h1)

noncomputable def f111 (rec : Rec) (k : Nat) (v0 : Value) (n0 : Int) (h0 : H) : Option (Value × H) :=
  len v0 fun n1 =>
  lp k (f111_l1 rec k v0 n0 n1) [(.int .i64 0), (.int .i64 0)] h0 fun e0 ws1 h2 =>
  onE e0 0 (
    some ((.int .i64 (-1)), h2)) (
    onR e0 (
      some (gv ws1 0, h2)))

theorem e111 (rec : Rec) (k : Nat) (v0 : Value) (n0 : Int) (h : H) : bodyT Tryd.prog E0 SC (XC Tryd.prog rec k) 111 (Value × H) [.opq v0, .int .i64 n0] h (fun v h => some (v, h)) = f111 rec k v0 n0 h := by kernel_rfl

theorem t111 {k : Nat} {v0 : Value} {n0 : Int} {h h1 : H} {v : Value} (hh : f111 rn k v0 n0 h = some (v, h1)) : rn 111 #[v0, .int .i64 n0] h = some (v, trunc Tryd.prog h h1 v) :=
  run_of_bodyT (args := [.opq v0, .int .i64 n0]) rfl ((e111 _ _ _ _ _).trans hh)

theorem p111 {k : Nat} {v0 : Value} {n0 : Int} {h h1 : H} {v : Value} (hh : f111 rn k v0 n0 h = some (v, h1)) (hp : plainO v = true) (x : Ext h h1) : rn 111 #[v0, .int .i64 n0] h = some (v, h) := by rw [t111 hh, trunc_pure hp x]

noncomputable def f55_l1 (_rec : Rec) (_k : Nat) (v1 : Value) (n0 : Int) (ws0 : List Value) (h2 : H) : Option (Ex × List Value × H) :=
  asI .i64 (gv ws0 1) fun n1 =>
  ifB (lt n1 n0) (
    asK (gv ws0 1) fun n2 =>
    six v1 n2 1 fun b0 b1 =>
    ld Tryd.prog h2 22 b0 b1 fun v2 =>
    bls Tryd.prog h2 56 1 [(0, v2)] fun v3 h3 =>
    app Tryd.prog h3 56 56 (gv ws0 0) v3 fun v4 h4 =>
    asI .i64 (gv ws0 1) fun n3 =>
    out .normal [v4, (.int .i64 (add .i64 n3 1))] h4) (
    out (.exit 0) [gv ws0 0, gv ws0 1] h2)

noncomputable def f55 (rec : Rec) (k : Nat) (v0 : Value) (h0 : H) : Option (Value × H) :=
  calls rec h0 98 [v0] fun v1 h1 =>
  len v1 fun n0 =>
  lp k (f55_l1 rec k v1 n0) [(.slice none 0 0), (.int .i64 0)] h1 fun e0 ws1 h5 =>
  onE e0 0 (
    some (gv ws1 0, h5)) (
    none)

theorem e55 (rec : Rec) (k : Nat) (v0 : Value) (h : H) : bodyT Tryd.prog E0 SC (XC Tryd.prog rec k) 55 (Value × H) [.opq v0] h (fun v h => some (v, h)) = f55 rec k v0 h := by kernel_rfl

theorem t55 {k : Nat} {v0 : Value} {h h1 : H} {v : Value} (hh : f55 rn k v0 h = some (v, h1)) : rn 55 #[v0] h = some (v, trunc Tryd.prog h h1 v) :=
  run_of_bodyT (args := [.opq v0]) rfl ((e55 _ _ _ _).trans hh)

theorem x55 {k : Nat} {v0 : Value} {h h1 : H} {v : Value} (hh : f55 rn k v0 h = some (v, h1)) (hp : plainO v = false) : ∃ h2, rn 55 #[v0] h = some (v, h2) ∧ Sm h1 h2 ∧ (Ext h h1 → Exw h h2) := trunc_cell hp (t55 hh)

noncomputable def f57_l1 (_rec : Rec) (_k : Nat) (v0 : Value) (n0 : Int) (ws0 : List Value) (h1 : H) : Option (Ex × List Value × H) :=
  asI .i64 (gv ws0 1) fun n1 =>
  ifB (lt n1 n0) (
    asK (gv ws0 1) fun n2 =>
    six v0 n2 1 fun b0 b1 =>
    ld Tryd.prog h1 102 b0 b1 fun v1 =>
    bls Tryd.prog h1 68 1 [(0, v1)] fun v2 h2 =>
    app Tryd.prog h2 68 68 (gv ws0 0) v2 fun v3 h3 =>
    asI .i64 (gv ws0 1) fun n3 =>
    out .normal [v3, (.int .i64 (add .i64 n3 1))] h3) (
    out (.exit 0) [gv ws0 0, gv ws0 1] h1)

noncomputable def f57 (rec : Rec) (k : Nat) (v0 : Value) (h0 : H) : Option (Value × H) :=
  len v0 fun n0 =>
  lp k (f57_l1 rec k v0 n0) [(.slice none 0 0), (.int .i64 0)] h0 fun e0 ws1 h4 =>
  onE e0 0 (
    some (gv ws1 0, h4)) (
    none)

theorem e57 (rec : Rec) (k : Nat) (v0 : Value) (h : H) : bodyT Tryd.prog E0 SC (XC Tryd.prog rec k) 57 (Value × H) [.opq v0] h (fun v h => some (v, h)) = f57 rec k v0 h := by kernel_rfl

theorem t57 {k : Nat} {v0 : Value} {h h1 : H} {v : Value} (hh : f57 rn k v0 h = some (v, h1)) : rn 57 #[v0] h = some (v, trunc Tryd.prog h h1 v) :=
  run_of_bodyT (args := [.opq v0]) rfl ((e57 _ _ _ _).trans hh)

theorem x57 {k : Nat} {v0 : Value} {h h1 : H} {v : Value} (hh : f57 rn k v0 h = some (v, h1)) (hp : plainO v = false) : ∃ h2, rn 57 #[v0] h = some (v, h2) ∧ Sm h1 h2 ∧ (Ext h h1 → Exw h h2) := trunc_cell hp (t57 hh)

noncomputable def f98_l1 (rec : Rec) (_k : Nat) (v0 : Value) (n0 : Int) (ws0 : List Value) (h1 : H) : Option (Ex × List Value × H) :=
  asI .i64 (gv ws0 1) fun n1 =>
  ifB (lt n1 n0) (
    asK (gv ws0 1) fun n2 =>
    six v0 n2 1 fun b0 b1 =>
    ld Tryd.prog h1 22 b0 b1 fun v1 =>
    asI .i64 (gv ws0 1) fun n3 =>
    ifB (lt n3 50) (
      calls rec h1 36 [v1] fun v2 h2 =>
      bls Tryd.prog h2 68 1 [(0, v2)] fun v3 h3 =>
      app Tryd.prog h3 68 68 (gv ws0 0) v3 fun v4 h4 =>
      asI .i64 (gv ws0 1) fun n4 =>
      out .normal [v4, (.int .i64 (add .i64 n4 1))] h4) (
      asI .i64 (gv ws0 1) fun n5 =>
      out .normal [gv ws0 0, (.int .i64 (add .i64 n5 1))] h1)) (
    out (.exit 0) [gv ws0 0, gv ws0 1] h1)

noncomputable def f98 (rec : Rec) (k : Nat) (v0 : Value) (h0 : H) : Option (Value × H) :=
  len v0 fun n0 =>
  lp k (f98_l1 rec k v0 n0) [(.slice none 0 0), (.int .i64 0)] h0 fun e0 ws1 h5 =>
  onE e0 0 (
    some (gv ws1 0, h5)) (
    none)

theorem e98 (rec : Rec) (k : Nat) (v0 : Value) (h : H) : bodyT Tryd.prog E0 SC (XC Tryd.prog rec k) 98 (Value × H) [.opq v0] h (fun v h => some (v, h)) = f98 rec k v0 h := by kernel_rfl

theorem t98 {k : Nat} {v0 : Value} {h h1 : H} {v : Value} (hh : f98 rn k v0 h = some (v, h1)) : rn 98 #[v0] h = some (v, trunc Tryd.prog h h1 v) :=
  run_of_bodyT (args := [.opq v0]) rfl ((e98 _ _ _ _).trans hh)

theorem x98 {k : Nat} {v0 : Value} {h h1 : H} {v : Value} (hh : f98 rn k v0 h = some (v, h1)) (hp : plainO v = false) : ∃ h2, rn 98 #[v0] h = some (v, h2) ∧ Sm h1 h2 ∧ (Ext h h1 → Exw h h2) := trunc_cell hp (t98 hh)

noncomputable def f8_l1 (rec : Rec) (_k : Nat) (v0 : Value) (n1 : Int) (ws0 : List Value) (h5 : H) : Option (Ex × List Value × H) :=
  asI .i64 (gv ws0 1) fun n2 =>
  ifB (lt n2 n1) (
    asK (gv ws0 1) fun n3 =>
    six v0 n3 1 fun b0 b1 =>
    ld Tryd.prog h5 3 b0 b1 fun v7 =>
    asI .i64 v7 fun n4 =>
    calls rec h5 43 [(.int .i64 n4)] fun v8 h6 =>
    asI .i64 v8 fun n5 =>
    asI .i64 (gv ws0 0) fun n6 =>
    asI .i64 (gv ws0 1) fun n7 =>
    out .normal [(.int .i64 (add .i64 n6 n5)), (.int .i64 (add .i64 n7 1))] h6) (
    out (.exit 0) [gv ws0 0, gv ws0 1] h5)

noncomputable def f8 (rec : Rec) (k : Nat) (v0 : Value) (h0 : H) : Option (Value × H) :=
  calls rec h0 18 [v0] fun v1 h1 =>
  calls rec h1 42 [v1] fun v2 h2 =>
  ext v2 0 fun v3 =>
  ext v2 1 fun v4 =>
  asI .i64 v4 fun n0 =>
  ifB (not (eq n0 0)) (
    ifB (eq n0 2) (
      calls rec h2 20 [] fun v5 h3 =>
      asB v5 fun q0 =>
      some ((.bool q0), h3)) (
      ifB (eq n0 5) (
        calls rec h2 20 [] fun v6 h4 =>
        asB v6 fun q1 =>
        some ((.bool q1), h4)) (
        some ((.bool false), h2)))) (
    len v0 fun n1 =>
    lp k (f8_l1 rec k v0 n1) [(.int .i64 0), (.int .i64 0)] h2 fun e0 ws1 h7 =>
    onE e0 0 (
      len v3 fun n8 =>
      asI .i64 (gv ws1 0) fun n9 =>
      nz 2 (
        len v0 fun n10 =>
        ifB (eq n8 (add .i64 (sub .i64 (quo .i64 n9 2) n10) 1)) (
          calls rec h7 20 [] fun v9 h8 =>
          asB v9 fun q2 =>
          some ((.bool q2), h8)) (
          some ((.bool false), h7)))) (
      none))

theorem e8 (rec : Rec) (k : Nat) (v0 : Value) (h : H) : bodyT Tryd.prog E0 SC (XC Tryd.prog rec k) 8 (Value × H) [.opq v0] h (fun v h => some (v, h)) = f8 rec k v0 h := by kernel_rfl

theorem t8 {k : Nat} {v0 : Value} {h h1 : H} {v : Value} (hh : f8 rn k v0 h = some (v, h1)) : rn 8 #[v0] h = some (v, trunc Tryd.prog h h1 v) :=
  run_of_bodyT (args := [.opq v0]) rfl ((e8 _ _ _ _).trans hh)

theorem x8 {k : Nat} {v0 : Value} {h h1 : H} {v : Value} (hh : f8 rn k v0 h = some (v, h1)) (hp : plainO v = false) : ∃ h2, rn 8 #[v0] h = some (v, h2) ∧ Sm h1 h2 ∧ (Ext h h1 → Exw h h2) := trunc_cell hp (t8 hh)

noncomputable def f13 (rec : Rec) (_k : Nat) (v0 : Value) (v1 : Value) (h0 : H) : Option (Value × H) :=
  calls rec h0 18 [v0] fun v2 h1 =>
  calls rec h1 42 [v2] fun v3 h2 =>
  ext v3 0 fun v4 =>
  ext v3 1 fun v5 =>
  asI .i64 v5 fun n0 =>
  calls rec h2 18 [v0] fun v6 h3 =>
  calls rec h3 55 [v1] fun v7 h4 =>
  calls rec h4 54 [v6, v7] fun v8 h5 =>
  ext v8 0 fun v9 =>
  asB v9 fun q0 =>
  ext v8 1 fun v10 =>
  asI .i64 v10 fun n1 =>
  calls rec h5 19 [v0] fun v11 h6 =>
  asB v11 fun q1 =>
  ifB (not q1) (
    len v4 fun n2 =>
    ifB (eq n2 0) (
      ifB (not q0) (
        ifB (eq n0 2) (
          ifB (eq n1 2) (
            calls rec h6 20 [] fun v12 h7 =>
            asB v12 fun q2 =>
            some ((.bool q2), h7)) (
            some ((.bool false), h6))) (
          some ((.bool false), h6))) (
        some ((.bool false), h6))) (
      some ((.bool false), h6))) (
    calls rec h6 56 [v0, v1] fun v13 h8 =>
    asB v13 fun q3 =>
    eqv Tryd.prog 4 (.bool q0) (.bool q3) fun q4 =>
    ifB (not q4) (
      some ((.bool false), h8)) (
      ifB (not (eq n1 0)) (
        some ((.bool false), h8)) (
        calls rec h8 20 [] fun v14 h9 =>
        asB v14 fun q5 =>
        ifB (not q5) (
          some ((.bool false), h9)) (
          calls rec h9 39 [v0] fun v15 h10 =>
          asB v15 fun q6 =>
          ifB (not q6) (
            len v4 fun n3 =>
            ifB (eq n3 0) (
              some ((.bool (eq n0 5)), h10)) (
              some ((.bool false), h10))) (
            ifB (eq n0 0) (
              calls rec h10 57 [v4] fun v16 h11 =>
              calls rec h11 56 [v0, v16] fun v17 h12 =>
              asB v17 fun q7 =>
              some ((.bool q7), h12)) (
              some ((.bool false), h10)))))))

theorem e13 (rec : Rec) (k : Nat) (v0 : Value) (v1 : Value) (h : H) : bodyT Tryd.prog E0 SC (XC Tryd.prog rec k) 13 (Value × H) [.opq v0, .opq v1] h (fun v h => some (v, h)) = f13 rec k v0 v1 h := by kernel_rfl

theorem t13 {k : Nat} {v0 : Value} {v1 : Value} {h h1 : H} {v : Value} (hh : f13 rn k v0 v1 h = some (v, h1)) : rn 13 #[v0, v1] h = some (v, trunc Tryd.prog h h1 v) :=
  run_of_bodyT (args := [.opq v0, .opq v1]) rfl ((e13 _ _ _ _ _).trans hh)

theorem x13 {k : Nat} {v0 : Value} {v1 : Value} {h h1 : H} {v : Value} (hh : f13 rn k v0 v1 h = some (v, h1)) (hp : plainO v = false) : ∃ h2, rn 13 #[v0, v1] h = some (v, h2) ∧ Sm h1 h2 ∧ (Ext h h1 → Exw h h2) := trunc_cell hp (t13 hh)

end Go.AM

end

section

/- Reverse. -/
namespace Go.AM
open Go.Proofs
variable {R : Type}
attribute [local simp] nx_eq nx_new nx_set blk_new blk_set asI_int asK_int asB_bool asP_ptr al_eq bx_eq len_slice onE_exit onE_ret onR_ret Value.cells cell_new cell_set rd_new rd_set off eq lt le ifB gv out ext20 ext21
theorem nb_in {m : List Nat} {k : Nat} (h : k < m.length) : nb m k = m[k] := by
  unfold nb
  rw [List.getD_eq_getElem?_getD, List.getElem?_eq_getElem h]; rfl

/-- The numbers of a slice that owns its row are turned round. -/
theorem s104 {v : Value} {l : List Nat} {h : H} {lo : Nat} (hap : AqR lo h 3 1 v (cellsN l)) (h0 : l ≠ []) (hm : l.length < 1000) :
    ∃ h', rn 104 #[v] h = some (undef, h') ∧ AqR lo h' 3 1 v (cellsN l.reverse) ∧ h'.nx = h.nx ∧ ∀ q, q < h.nx → blkOf v ≠ some q → h'.blk q = h.blk q := by
  have hn : ∀ {T : Type} (K : Int → Option T), len v K = K (l.length : Int) := fun K => by rw [hap.slR.len]; simp
  have hne : cellsN l ≠ [] := by simpa using h0
  have hl0 : 0 < l.length := by cases l with
    | nil => exact absurd rfl h0
    | cons => simp
  obtain ⟨b, c, rfl, hlo, hbn, hrow, hc⟩ : ∃ b c, v = .slice (some ⟨b, 0, none⟩) l.length c ∧ lo ≤ b ∧ b < h.nx ∧ h.blk b = some (.row (cellsN l).flatten 3 true) ∧ (c = U + l.length ∨ c = l.length) := by
    generalize hL : cellsN l = LL at hap
    cases hap with
    | nil => exact absurd hL hne
    | @at_ b c l' hlo hb hr hx hm2 hc =>
      have := congrArg List.length hL
      rw [List.length_map] at this
      rw [← this] at hc ⊢
      exact ⟨b, c, rfl, hlo, hb, hr, hc⟩
  have hia0 : IA h b (.slice (some ⟨b, 0, none⟩) l.length c) (l.map Int.ofNat) := by
    rw [← cellsN_eq] at hap
    obtain ⟨b', _, hb', hia⟩ := hap.ia (by simpa using h0)
    cases hb'
    exact hia
  obtain ⟨e, ws', h1, hlp, rfl, m, i1, i2, i3, hnx, hblk⟩ := lpGo_inv (F := f104_l1 rn 600 (.slice (some ⟨b, 0, none⟩) l.length c))
    (fun d ws g => ∃ (i : Nat) (m : List Nat), ws = [iv i, iv ((l.length : Int) - 1 - i)] ∧ 2 * i ≤ l.length ∧ d = l.length / 2 - i ∧ IA g b (.slice (some ⟨b, 0, none⟩) l.length c) (m.map Int.ofNat) ∧ m.length = l.length ∧ (∀ k, k < l.length → nb m k = if k < i ∨ l.length ≤ k + i then nb l (l.length - 1 - k) else nb l k) ∧ g.nx = h.nx ∧ ∀ q, q ≠ b → g.blk q = h.blk q)
    (fun e ws g => e = .exit 0 ∧ ∃ (m : List Nat), IA g b (.slice (some ⟨b, 0, none⟩) l.length c) (m.map Int.ofNat) ∧ m.length = l.length ∧ (∀ k, k < l.length → nb m k = nb l (l.length - 1 - k)) ∧ g.nx = h.nx ∧ ∀ q, q ≠ b → g.blk q = h.blk q)
    (by
      rintro d ws g ⟨i, m, rfl, h2i, hd, hia, hml, hk, hnx, hblk⟩
      by_cases hlt : 2 * i + 1 < l.length
      · obtain ⟨j, hj⟩ : ∃ j : Nat, j + i + 1 = l.length := ⟨l.length - 1 - i, by omega⟩
        have hjI : (l.length : Int) - 1 - i = (j : Int) := by omega
        have hadd : add .i64 (i : Int) 1 = ((i + 1 : Nat) : Int) := by rw [add64 (by omega) (by omega)]; omega
        have hsub : AM.sub .i64 (j : Int) 1 = (l.length : Int) - 1 - ((i + 1 : Nat) : Int) := by rw [sub64 (by omega) (by omega)]; omega
        have h1 := hia.set i ((nb m j : Nat) : Int)
        rw [set_nat] at h1
        have h2 := h1.set j ((nb m i : Nat) : Int)
        rw [set_nat] at h2
        refine ⟨.normal, [iv ((i + 1 : Nat) : Int), iv ((l.length : Int) - 1 - ((i + 1 : Nat) : Int))], _, ?_, .inl ⟨rfl, d - 1, by omega, i + 1, (m.set i (nb m j)).set j (nb m i), rfl, by omega, by omega, h2, by simp [hml], fun k hkl => ?_, hnx, fun q hq => by rw [blk_set_ne _ _ _ hq, blk_set_ne _ _ _ hq]; exact hblk q hq⟩⟩
        · unfold f104_l1
          rw [hjI, show AM.gv [iv i, iv j] 0 = iv i from rfl, show AM.gv [iv i, iv j] 1 = iv j from rfl, asI_int, asI_int, lt_t (by omega), ifB_true, asK_int]
          simp only [d3, w3]
          rw [hia.get (by omega) (x := (nb m j : Nat)) (by rw [Int.toNat_natCast]; exact nb_get (by omega)), asI_int, asK_int,
            hia.get (by omega) (x := (nb m i : Nat)) (by rw [Int.toNat_natCast]; exact nb_get (by omega)), asI_int, asK_int, hia.put (by omega) (by simp; omega), Int.toNat_natCast, hia.wrc (i := i) (by simp; omega), set_nat, Option.bind_some, asK_int,
            h1.put (by omega) (by simp; omega), Int.toNat_natCast, h1.wrc (i := j) (by simp; omega), set_nat, Option.bind_some, asI_int, asI_int, hadd, hsub]
          rfl
        · rw [nb_set (by simp; omega), nb_set (by omega)]
          have q1 := hk i (by omega)
          have q2 := hk j (by omega)
          rw [if_neg (by omega)] at q1 q2
          have q3 := hk k hkl
          by_cases hkj : k = j
          · subst hkj
            rw [if_pos rfl, if_pos (by omega), q1]
            congr 1; omega
          · rw [if_neg hkj]
            by_cases hki : k = i
            · subst hki
              rw [if_pos rfl, if_pos (by omega), q2]
              congr 1; omega
            · rw [if_neg hki, q3]
              by_cases hc : k < i ∨ l.length ≤ k + i
              · rw [if_pos hc, if_pos (by omega)]
              · rw [if_neg hc, if_neg (by omega)]
      · refine ⟨.exit 0, [iv i, iv ((l.length : Int) - 1 - i)], g, ?_, .inr ⟨by simp, rfl, m, hia, hml, fun k hkl => ?_, hnx, hblk⟩⟩
        · unfold f104_l1
          rw [show AM.gv [iv i, iv ((l.length : Int) - 1 - i)] 0 = iv i from rfl, show AM.gv [iv i, iv ((l.length : Int) - 1 - i)] 1 = iv ((l.length : Int) - 1 - i) from rfl, asI_int, asI_int, show AM.lt (i : Int) ((l.length : Int) - 1 - i) = false by simp [AM.lt]; omega, ifB_false]
          rfl
        · rw [hk k hkl]
          split
          · rfl
          · congr 1; omega)
    (l.length / 2) 600 (by omega) (ws := [iv 0, iv ((l.length : Int) - 1)]) (h := h) ⟨0, l, by simp, by omega, by omega, hia0, rfl, fun k hkl => by rw [if_neg (by omega)], rfl, fun _ _ => rfl⟩
  have hmr : m = l.reverse := by
    apply List.ext_getElem
    · simp [i2]
    · intro k hk1 hk2
      have := i3 k (by omega)
      rw [nb_in hk1, nb_in (by omega)] at this
      rw [this, List.getElem_reverse]
  subst hmr
  have e104 := t104 (k := 600) (v0 := .slice (some ⟨b, 0, none⟩) l.length c) (h := h) (h1 := h1) (v := undef) (by
    unfold f104
    rw [hn, sub64 (by omega) (by omega)]
    refine (lp_eq hlp).trans ?_
    rfl)
  obtain ⟨q1, q2, q3⟩ := trunc_blk (P := Tryd.prog) (v := undef) (h := h) (h1 := h1) (by omega)
  refine ⟨_, e104, ?_, by omega, fun q hq hqb => ?_⟩
  · have hr : (trunc Tryd.prog h h1 undef).blk b = some (.row (cellsN l.reverse).flatten 3 true) := by
      rw [q3 b hbn, i1.row, ← cellsN_eq, cellsI, flat1]
    have := AqR.at_ (h := trunc Tryd.prog h h1 undef) (e := 3) (s := 1) (c := c) hlo (by omega) hr (fun x hx => by obtain ⟨e, _, rfl⟩ := List.mem_map.1 hx; rfl) (by simp; omega) (by simpa using hc)
    simpa using this
  · rw [q3 q hq, hblk q (fun e => hqb (by rw [e]; rfl))]

end Go.AM

end

section

/- A queue that begins as a literal of one number. -/
namespace Go.AM
open Go.Proofs
variable {R : Type}
inductive QV (lo : Nat) (h : H) : Value → List Nat → Prop
  | q {v : Value} {q : List Nat} : QqR lo h 3 1 v (cellsN q) → QV lo h v q
  | lit {x b : Nat} : lo ≤ b → b < h.nx → h.blk b = some (.row [iv (x : Int)] 3 true) → QV lo h (.slice (some ⟨b, 0, none⟩) 1 1) [x]
  | emp {o : Nat} {b c : Nat} : lo ≤ b → b < h.nx → QV lo h (.slice (some ⟨b, o, none⟩) 0 c) []

section
variable {lo : Nat} {h h' : H} {v : Value} {q : List Nat}
theorem QV.blkOf (a : QV lo h v q) {b : Nat} (hb : AM.blkOf v = some b) : lo ≤ b ∧ b < h.nx := by
  cases a with
  | q a => exact a.blkOf hb
  | lit h1 h2 => cases hb; exact ⟨h1, h2⟩
  | emp h1 h2 => cases hb; exact ⟨h1, h2⟩

theorem QV.keep (a : QV lo h v q) (hn : h.nx ≤ h'.nx) (hb : ∀ b, AM.blkOf v = some b → h'.blk b = h.blk b) : QV lo h' v q := by
  cases a with
  | q a => exact .q (a.keep hn hb)
  | lit h1 h2 h3 => exact .lit h1 (Nat.lt_of_lt_of_le h2 hn) ((hb _ rfl).trans h3)
  | emp h1 h2 => exact .emp h1 (Nat.lt_of_lt_of_le h2 hn)

theorem QV.len (a : QV lo h v q) (K : Int → Option R) : AM.len v K = K (q.length : Int) := by
  cases a with
  | q a => rw [a.slR.len]; simp
  | lit => rfl
  | emp => rfl

theorem QV.head {x : Nat} (a : QV lo h v (x :: q)) (K : Value → Option R) : (six v 0 1 fun b o => ld Tryd.prog h 3 b o K) = K (iv (x : Int)) := by
  cases a with
  | q a => exact a.slR.ld0 ag3 (by omega) (x := [iv (x : Int)]) (by simp) rfl K
  | lit h1 h2 h3 =>
    rename_i b
    rw [six_in (by omega) (by omega), d3, cell_of h3]
    rfl

theorem QV.push {x : Nat} (a : QV lo h v (x :: q)) (y : Nat) (hm : q.length < 1000) (hlo : lo ≤ h.nx) :
    ∃ v' h', (∀ {R : Type} (K : Value → H → Option R), (bls Tryd.prog h 22 1 [(0, iv (y : Int))] fun z h2 => AM.app Tryd.prog h2 22 22 v z K) = K v' h') ∧ QV lo h' v' (x :: q ++ [y]) ∧ h.nx ≤ h'.nx ∧
      (∀ b, b < h.nx → AM.blkOf v ≠ some b → h'.blk b = h.blk b) ∧ ∃ b', AM.blkOf v' = some b' ∧ h.nx ≤ b' := by
  cases a with
  | q a =>
    obtain ⟨v', h', e, a', n, k, b⟩ := a.push app22 app22 (bls22 (y : Int)) rfl rfl (by rw [List.length_map, List.length_cons]; omega) hlo
    refine ⟨v', h', e, .q ?_, n, k, b⟩
    have : cellsN (x :: q ++ [y]) = cellsN (x :: q) ++ [[iv (y : Int)]] := by simp
    rw [this]; exact a'
  | lit h1 h2 h3 =>
    rename_i b
    obtain ⟨i, z, p1, p2, p3, p4, p5, p6, p7⟩ := okApp_spec app22
    have x0 := Ext.new h (.row [iv (y : Int)] 3 true)
    have hsrc : srcCells 1 (.slice (some ⟨h.nx, 0, none⟩) 1 1) (h.new (.row [iv (y : Int)] 3 true)) = some [iv (y : Int)] := by
      simp only [srcCells, Nat.one_mul]
      rw [if_neg (by omega)]
      simp only [H.rd, blk_new_self]
      rfl
    have hlen : lenOf (.slice (some ⟨h.nx, 0, none⟩) 1 1) = some 1 := rfl
    have hrd : (h.new (.row [iv (y : Int)] 3 true)).rd b 0 1 = some [iv (x : Int)] := rd_all ((x0.blk _ h2).trans h3) rfl
    have hcap : capK 1 = 1 := rfl
    have h30 : (1 : Nat) < U := by decide
    refine ⟨.slice (some ⟨h.nx + 1, 0, none⟩) 2 (U + 2), (h.new (.row [iv (y : Int)] 3 true)).new (.row ([iv (x : Int)] ++ [iv (y : Int)]) 3 true), fun K => ?_, .q ?_, by simp only [nx_new]; omega, fun b' hb' _ => ?_, h.nx + 1, rfl, by omega⟩
    · rw [bls_some (bls22 (y : Int) h)]
      unfold AM.app append
      simp only [p1, p2, p3, hlen, p4, hsrc, Option.bind_some]
      rw [if_pos ⟨p5, p6, p7⟩]
      simp only [hcap]
      rw [if_neg (by omega), if_neg (by omega), if_pos (by omega), if_pos h30, if_neg (by omega), Nat.one_mul, hrd]
      rfl
    · exact QqR.at_ (lo := lo) (e := 3) (s := 1) (b := h.nx + 1) (l := cellsN [x, y]) (pre := []) (by omega) (by simp only [nx_new]; omega)
        (by rw [blk_new_at _ _ (by rw [nx_new])]; rfl) (by simp) (by simp)
    · rw [blk_new_ne _ _ (by rw [nx_new]; omega), blk_new_ne _ _ (by omega)]

theorem QV.tail {x : Nat} (a : QV lo h v (x :: q)) : ∃ v', (∀ {R : Type} (K : Value → Option R), sli Tryd.prog h 22 v (some (.int .i64 1)) none none K = K v') ∧ QV lo h v' q ∧ AM.blkOf v' = AM.blkOf v := by
  cases a with
  | q a =>
    obtain ⟨v', e, a', hb⟩ := QqR.tail (l := cellsN q) (x := [iv (x : Int)]) a under22 sz3
    exact ⟨v', e, .q a', hb⟩
  | lit h1 h2 h3 =>
    rename_i b
    refine ⟨.slice (some ⟨b, 0, none⟩) 0 0, fun K => ?_, .emp h1 h2, rfl⟩
    have hcap : capK 1 = 1 := rfl
    have h30 : (1 : Nat) < U := by decide
    simp only [sli, slice, under22, h3, sz3]
    rw [if_pos ⟨trivial, by rw [hcap]; omega, rfl⟩]
    simp [bound, hcap, h30]

end
end Go.AM

end

section

/- The walk of the search. -/
namespace Go.AM
open Go.Proofs
variable {R : Type}
attribute [local simp] nx_eq nx_new nx_set blk_new blk_set asI_int asK_int asB_bool asP_ptr al_eq bx_eq len_slice onE_exit onE_ret onR_ret Value.cells cell_new cell_set rd_new rd_set off eq lt le ifB gv out ext20 ext21
theorem under87 : Tryd.prog.underlying 87 = some (.map 3 3) := by kernel_rfl

theorem zero3' : zero? Tryd.prog 3 = some (iv 0) := by kernel_rfl

theorem under3i : Tryd.prog.underlying 3 = some (.int .i64) := by kernel_rfl

def kvP (T : TL) : List (Int × Value) := T.map fun x => ((x.1 : Int), iv x.2)

theorem kvP_snoc (T : TL) (u : Nat) (p : Int) : kvP (T ++ [(u, p)]) = kvP T ++ [((u : Int), iv p)] := by
  unfold kvP
  rw [List.map_append]; rfl

theorem kvP_key {T : TL} {k : Nat} : (∀ p ∈ kvP T, p.1 ≠ (k : Int)) ↔ k ∉ nodesT T := by
  unfold kvP nodesT
  constructor
  · intro h hm
    obtain ⟨x, hx, rfl⟩ := List.mem_map.1 hm
    exact h ((x.1 : Int), iv x.2) (List.mem_map.2 ⟨x, hx, rfl⟩) rfl
  · rintro hm p hp he
    obtain ⟨x, hx, rfl⟩ := List.mem_map.1 hp
    exact hm (List.mem_map.2 ⟨x, hx, Int.natCast_inj.1 he⟩)

section
variable {g : List Nat} {T : TL} {bt bn bp bv mn mp : Nat} {tv : Value} {h h' : H}
end
end Go.AM

end

section

/- Orient. -/
namespace Go.AM
open Go.Proofs
variable {R : Type}
attribute [local simp] nx_eq nx_new nx_set blk_new blk_set asI_int asK_int asB_bool asP_ptr al_eq bx_eq len_slice onE_exit onE_ret onR_ret Value.cells cell_new cell_set rd_new rd_set off eq lt le ifB gv out ext20 ext21
theorem look_P {x : Nat} : ∀ {T : TL} (i : Nat), x ∈ nodesT T → look (kvP T) (x : Int) i = some (i + numP T x, iv (parP T x)) := by
  intro T
  induction T with
  | nil => intro i h; simp [nodesT] at h
  | cons y T ih =>
    intro i h
    unfold kvP at *
    rw [List.map_cons]
    simp only [look, numP, parP]
    by_cases hy : y.1 = x
    · subst hy; simp
    · rw [if_neg (fun e => hy (Int.natCast_inj.1 e).symm), if_neg hy, if_neg hy]
      have h' : x ∈ nodesT T := by
        simp only [nodesT, List.map_cons, List.mem_cons] at h
        rcases h with h | h
        · exact absurd h.symm hy
        · exact h
      rw [ih (i + 1) h', show i + 1 + numP T x = i + (numP T x + 1) by omega]

end Go.AM

end

section

/- A shortest way: the loops. -/
namespace Go.AM
open Go.Proofs
variable {R : Type}
attribute [local simp] nx_eq nx_new nx_set blk_new blk_set asI_int asK_int asB_bool asP_ptr al_eq bx_eq len_slice onE_exit onE_ret onR_ret Value.cells cell_new cell_set rd_new rd_set off eq lt le ifB gv out ext20 ext21
/-- What the map of the search holds. -/
def HB (mn : Nat) (T : TL) (h : H) : Prop := ∃ es c, h.blk mn = some (.mp es c) ∧ KvI (kvP T) es

theorem HB.look {mn : Nat} {T : TL} {h : H} (a : HB mn T h) {x : Nat} {q : Int} (hx : (x, q) ∈ T) (hn : (nodesT T).Nodup) (K : Value → Option R) : lok Tryd.prog h 87 (.map (some mn)) (.int .i64 (x : Int)) false K = K (iv q) := by
  obtain ⟨es, c, h1, h2⟩ := a
  have hm : x ∈ nodesT T := List.mem_map.2 ⟨_, hx, rfl⟩
  have := look_P 0 hm
  rw [lok_int0 under87 under3i zero3' h1 h2, this]
  obtain ⟨T1, T2, rfl, h3⟩ := split_at hx hn
  simp only [parP_at h3]

theorem HB.ext {mn : Nat} {T : TL} {h h' : H} (a : HB mn T h) (hb : h'.blk mn = h.blk mn) : HB mn T h' := by
  obtain ⟨es, c, h1, h2⟩ := a
  exact ⟨es, c, hb.trans h1, h2⟩

/-- Up the tree, node by node. -/
theorem s88_l2 {mn lo k0 : Nat} {T : TL} {h0 : H} (hn0 : h0.nx = mn) (hnd : (nodesT T).Nodup) (hmlo : mn < lo) : ∀ {v : Nat} {l : List Nat}, Up T v l → ∀ (acc : List Nat) (sv : Value) (g : H) (k : Nat), HB mn T g → AqR lo g 3 1 sv (cellsN acc) → lo ≤ g.nx → l.length < k → acc.length + l.length < 1000 →
    ∃ sv' w g', lpGo (f88_l2 rn k0 h0) k [sv, iv (v : Int)] g = some (.exit 2, [sv', w], g') ∧ AqR lo g' 3 1 sv' (cellsN (acc ++ l)) ∧ g.nx ≤ g'.nx ∧ ∀ b, b < g.nx → blkOf sv ≠ some b → g'.blk b = g.blk b := by
  intro v l hu
  have step : ∀ (v : Nat) (q : Int) (acc : List Nat) (sv : Value) (g : H), (v, q) ∈ T → HB mn T g → AqR lo g 3 1 sv (cellsN acc) → lo ≤ g.nx → acc.length + 1 < 1000 →
      ∃ sv' g', f88_l2 rn k0 h0 [sv, iv (v : Int)] g = some (.normal, [sv', iv q], g') ∧ AqR lo g' 3 1 sv' (cellsN (acc ++ [v])) ∧ HB mn T g' ∧ g.nx ≤ g'.nx ∧ (∀ b, b < g.nx → blkOf sv ≠ some b → g'.blk b = g.blk b) ∧ ∃ b', blkOf sv' = some b' ∧ g.nx ≤ b' := by
    intro v q acc sv g hv hb ha hlo hm
    obtain ⟨sv', g', e, a', n', k', b', hb', hb''⟩ := ha.push app22 app22 (bls22 (v : Int)) rfl rfl (by rw [List.length_map]; omega) hlo
    have hmn : g'.blk mn = g.blk mn := k' _ (by omega) (fun e => by have := (ha.blkOf e).1; omega)
    have hb2 := hb.ext hmn
    refine ⟨sv', g', ?_, ?_, hb2, n', k', b', hb', hb''⟩
    · unfold f88_l2
      rw [show AM.gv [sv, iv (v : Int)] 1 = iv v from rfl, show AM.gv [sv, iv (v : Int)] 0 = sv from rfl, asI_int, show AM.le 0 (v : Int) = true by simp [AM.le], ifB_true, e, nx_eq, hn0, hb2.look hv hnd, asI_int]
      rfl
    · have : cellsN (acc ++ [v]) = cellsN acc ++ [[iv (v : Int)]] := by simp
      rw [this]; exact a'
  induction hu with
  | @root v hv =>
    intro acc sv g k hb ha hlo hk hm
    obtain ⟨sv', g', e, a', hb', n', k', _⟩ := step v (-1) acc sv g hv hb ha hlo (by simpa using hm)
    obtain ⟨k, rfl⟩ : ∃ k', k = k' + 1 + 1 := ⟨k - 2, by simp at hk; omega⟩
    refine ⟨sv', iv (-1), g', ?_, a', n', k'⟩
    rw [lpGo_next e]
    unfold lpGo
    simp [f88_l2]
  | @step v p l hv hl ih =>
    intro acc sv g k hb ha hlo hk hm
    simp only [List.length_cons] at hk hm
    obtain ⟨sv', g', e, a', hb', n', k', b', hbb, hbn⟩ := step v (p : Int) acc sv g hv hb ha hlo (by omega)
    obtain ⟨k, rfl⟩ : ∃ k', k = k' + 1 := ⟨k - 1, by omega⟩
    obtain ⟨sv2, w, g2, e2, a2, n2, k2⟩ := ih (acc ++ [v]) sv' g' k hb' a' (by omega) (by omega) (by simp; omega)
    refine ⟨sv2, w, g2, ?_, by simpa using a2, by omega, fun b hbl hne => ?_⟩
    · rw [lpGo_next e]; exact e2
    · rw [k2 b (by omega) (fun e => by rw [hbb] at e; cases e; omega), k' b hbl hne]

end Go.AM

end

section

/- A shortest way: a node's neighbours join the queue. -/
namespace Go.AM
open Go.Proofs
variable {R : Type}
attribute [local simp] nx_eq nx_new nx_set blk_new blk_set asI_int asK_int asB_bool asP_ptr al_eq bx_eq len_slice onE_exit onE_ret onR_ret Value.cells cell_new cell_set rd_new rd_set off eq lt le ifB gv out ext20 ext21
/-- The nodes of a set, in a slice that owns its row. -/
theorem s76A {S : Nat} (hS : S < 1024) (h : H) : ∃ v' h', rn 76 #[iv S] h = some (v', h') ∧ Exw h h' ∧ AqR h.nx h' 3 1 v' (cellsN (elts S)) := by
  obtain ⟨e, ws', h', hl, rfl, xg, v, w, hap, rfl⟩ := lpGo_inv (F := f76_l1 rn 2000)
    (fun d ws g => Ext h g ∧ ∃ (v : Value) (x : Nat) (L : List Nat), ws = [v, iv x] ∧ d = x ∧ x < 1024 ∧ L ++ elts x = elts S ∧ AqR h.nx g 3 1 v (cellsN L))
    (fun e ws g => e = .exit 0 ∧ Ext h g ∧ ∃ v w, AqR h.nx g 3 1 v (cellsN (elts S)) ∧ ws = [v, w])
    (by
      rintro d ws g ⟨xg, v, x, L, rfl, rfl, hx, hL, hap⟩
      by_cases hx0 : d = 0
      · subst hx0
        rw [elts_zero, List.append_nil] at hL
        subst hL
        exact ⟨.exit 0, [v, iv 0], _, by simp [f76_l1], .inr ⟨by simp, rfl, xg, v, iv 0, hap, rfl⟩⟩
      · have h0 : 0 < d := Nat.pos_of_ne_zero hx0
        obtain ⟨h1, h2⟩ := elts_next h0 hx
        have c89 := fun (K : Value → H → Option (Ex × List Value × H)) => calls_eq (K := K) (xs := [.int .u64 d]) (s89 h0 hx g)
        have hsub : sub .i64 (d : Int) 1 = ((d - 1 : Nat) : Int) := by rw [sub64 (by omega) (by omega)]; omega
        have hand : AM.and .i64 (d : Int) ((d - 1 : Nat) : Int) = ((d &&& (d - 1) : Nat) : Int) := and_nat (by omega) (by omega)
        have hLl : L.length ≤ 10 := by
          have h3 := congrArg List.length hL
          rw [List.length_append, elts_len S] at h3
          have := pop_le_n (Nat.le_refl 10) hS
          omega
        obtain ⟨v', g2, e2, a2, n2, k2, b2, hb2, hb2'⟩ := hap.push app22 app22 (bls22 (low d : Int)) rfl rfl (by simp; omega) xg.nx
        have ee : ∀ (K : Value → H → Option (Ex × List Value × H)), (bls Tryd.prog g 22 1 [(0, iv (low d : Nat))] fun y h2 => app Tryd.prog h2 22 22 v y K) = K v' g2 := fun K => e2 K
        refine ⟨.normal, [v', iv (d &&& (d - 1) : Nat)], g2, ?_, .inl ⟨rfl, d &&& (d - 1), h2, ⟨by have := xg.nx; omega, fun b hb => ?_⟩, v', d &&& (d - 1), L ++ [low d], rfl, rfl, by omega, ?_, ?_⟩⟩
        · unfold f76_l1
          rw [show AM.gv [v, iv d] 1 = iv d from rfl, show AM.gv [v, iv d] 0 = v from rfl, asI_int, show AM.eq (d : Int) 0 = false by simp; omega, show (!false) = true from rfl, ifB_true, asI_int, wr64u hx, c89, asI_int, ee, asI_int, asI_int, hsub, hand]
          rfl
        · rw [k2 b (by have := xg.nx; omega) (fun e => by have := (hap.blkOf e).1; omega)]
          exact xg.blk b hb
        · rw [← hL, h1]; simp
        · have : cellsN (L ++ [low d]) = cellsN L ++ [[iv (low d : Int)]] := by simp
          rw [this]; exact a2)
    S 2000 (by omega) ⟨.refl _, .slice none 0 0, S, [], rfl, rfl, hS, rfl, .nil⟩
  obtain ⟨h2, e2, m2, w2⟩ := x76 (k := 2000) (n0 := S) (h := h) (h1 := h') (v := v) (by
    unfold f76
    exact (lp_eq hl).trans rfl) (by obtain ⟨x, y, z, hz⟩ := hap.isSl; rw [hz]; rfl)
  exact ⟨v, h2, e2, w2 xg, hap.ext m2.ext⟩

/-- After some neighbours. -/
structure L3 (g : List Nat) (a to W mn lo v : Nat) (T0 : TL) (q0 : List Nat) (qv0 : Value) (g0 : H) (L : List Nat) (i : Nat) (ws : List Value) (h : H) : Prop where
  ex : ∃ (X : TL) (qv : Value), ws = [qv, iv (i : Int)] ∧ BW g a to W (T0 ++ X) ∧ HB mn (T0 ++ X) h ∧ QV lo h qv (v :: q0 ++ nodesT X) ∧ (∀ u ∈ L.take i, u ∈ nodesT (T0 ++ X)) ∧ X.length ≤ i ∧
    g0.nx ≤ h.nx ∧ (∀ b, b < g0.nx → b ≠ mn → blkOf qv0 ≠ some b → h.blk b = g0.blk b) ∧ (∀ b, blkOf qv = some b → blkOf qv0 = some b ∨ g0.nx ≤ b)

set_option maxHeartbeats 1000000 in
theorem s88_l3 {g : List Nat} (hg : GrB g) {a to W mn lo k0 v : Nat} {h0 : H} {L : List Nat} {v8 : Value} {T0 : TL} {q0 : List Nat} {qv0 : Value} {g0 : H} (hn0 : h0.nx = mn) (hmlo : mn < lo)
    (hL : ∀ u ∈ L, adj g v u = true ∧ W.testBit u = true) (hLl : L.length ≤ 10) (hv : v ∈ nodesT T0) (hvt : to.testBit v = false) (h8 : SlR g0 3 1 v8 (cellsN L)) (h8n : ∀ b, blkOf v8 = some b → lo ≤ b ∧ blkOf qv0 ≠ some b)
    (hbw : BW g a to W T0) (hb : HB mn T0 g0) (hq : QV lo g0 qv0 (v :: q0)) (hmn : mn < g0.nx) (hlo : lo ≤ g0.nx) (hql : q0.length ≤ 100) :
    ∃ ws' h', lpGo (f88_l3 rn k0 h0 v v8 L.length) 20 [qv0, iv 0] g0 = some (.exit 4, ws', h') ∧ L3 g a to W mn lo v T0 q0 qv0 g0 L L.length ws' h' := by
  obtain ⟨e, ws', h', hl, rfl, hr⟩ := lp_range (F := f88_l3 rn k0 h0 v v8 L.length) (k := 20) (n := L.length) (fun i ws h => L3 g a to W mn lo v T0 q0 qv0 g0 L i ws h) (fun e ws h => e = .exit 4 ∧ L3 g a to W mn lo v T0 q0 qv0 g0 L L.length ws h)
    (by
      rintro i ws h hi ⟨X, qv, rfl, bw, hbh, hqh, hin, hXi, hnx, hblk, hqb⟩
      have hu := List.getElem?_eq_getElem hi
      generalize L[i] = u at hu
      obtain ⟨hadj, hW⟩ := hL u (List.mem_of_getElem? hu)
      have hadd : add .i64 (i : Int) 1 = ((i + 1 : Nat) : Int) := by rw [add64 (by omega) (by omega)]; omega
      have h8h : SlR h 3 1 v8 (cellsN L) := h8.keepB hnx fun b hb8 => by
        obtain ⟨q1, _⟩ := h8.blkR hb8
        obtain ⟨q2, q3⟩ := h8n b hb8
        exact hblk b q1 (by omega) q3
      have e1 : ∀ (K : Value → Option (Ex × List Value × H)), (six v8 (i : Int) 1 fun b o => ld Tryd.prog h 3 b o K) = K (iv (u : Int)) := fun K =>
        h8h.ld0 ag3 (by omega) (x := [iv (u : Int)]) (by simp [hu]) rfl K
      obtain ⟨es, c, m1, m2⟩ := hbh
      by_cases hm : u ∈ nodesT (T0 ++ X)
      · have hlk := look_P 0 hm
        refine ⟨.normal, [qv, iv ((i + 1 : Nat) : Int)], h, ?_, .inl ⟨rfl, ⟨X, qv, rfl, bw, ⟨es, c, m1, m2⟩, hqh, fun y hy => ?_, by omega, hnx, hblk, hqb⟩⟩⟩
        · unfold f88_l3
          rw [show AM.gv [qv, iv i] 1 = iv i from rfl, show AM.gv [qv, iv i] 0 = qv from rfl, asI_int, lt_t (by omega), ifB_true, asK_int, e1, asI_int, nx_eq, hn0, lok_int under87 under3i zero3' m1 m2, hlk]
          simp [hadd]
        · rw [List.take_add_one, hu, List.mem_append] at hy
          rcases hy with hy | hy
          · exact hin y hy
          · simp at hy; rw [hy]; exact hm
      · have hlk := (look_none (k := (u : Int)) (kvP (T0 ++ X)) 0).2 (kvP_key.2 hm)
        obtain ⟨h1, hh1⟩ : ∃ h1, h1 = h.set mn (.mp (es ++ [{ key := .int .i64 (u : Int), val := .int .i64 (v : Int), born := c }]) (c + 1)) := ⟨_, rfl⟩
        have n1 : h1.nx = h.nx := by rw [hh1]; rfl
        have k1 : ∀ b, b ≠ mn → h1.blk b = h.blk b := fun b hb => by rw [hh1]; exact blk_set_ne _ _ _ hb
        have hb1 : HB mn (T0 ++ (X ++ [(u, (v : Int))])) h1 := by
          refine ⟨_, _, by rw [hh1]; exact blk_set_self _ _ _, ?_⟩
          rw [← List.append_assoc, kvP_snoc]
          exact m2.snoc _ _
        have hq1 : QV lo h1 qv (v :: q0 ++ nodesT X) := hqh.keep (by omega) fun b hb => k1 b (by have := (hqh.blkOf hb).1; omega)
        have hXl : (nodesT X).length = X.length := by simp [nodesT]
        obtain ⟨qv', h2, e2, hq2, n2, k2, b', hb', hbn⟩ := QV.push (q := q0 ++ nodesT X) hq1 u (by rw [List.length_append]; omega) (by omega)
        have hb2 : HB mn (T0 ++ (X ++ [(u, (v : Int))])) h2 := hb1.ext (k2 mn (by omega) (fun e => by have := (hq1.blkOf e).1; omega))
        have bw2 : BW g a to W (T0 ++ (X ++ [(u, (v : Int))])) := by
          rw [← List.append_assoc]
          exact bw.snoc hg (by rw [nodesT_app]; exact List.mem_append_left _ hv) hm hadj hW hvt
        refine ⟨.normal, [qv', iv ((i + 1 : Nat) : Int)], h2, ?_, .inl ⟨rfl, ⟨X ++ [(u, (v : Int))], qv', rfl, bw2, hb2, ?_, fun y hy => ?_, by simp; omega, by omega, fun b hbl hbm hbq => ?_, fun b hbb => ?_⟩⟩⟩
        · unfold f88_l3
          rw [show AM.gv [qv, iv i] 1 = iv i from rfl, show AM.gv [qv, iv i] 0 = qv from rfl, asI_int, lt_t (by omega), ifB_true, asK_int, e1, asI_int, nx_eq, hn0, lok_int under87 under3i zero3' m1 m2, hlk]
          simp only [ext20, ext21, asI_int, asB_bool]
          rw [show (!false) = true from rfl, ifB_true, mup_new under87 under3i m1 m2 hlk, ← hh1, e2, hadd]
          rfl
        · have : nodesT (X ++ [(u, (v : Int))]) = nodesT X ++ [u] := by simp [nodesT]
          rw [this, ← List.append_assoc]; exact hq2
        · rw [← List.append_assoc, nodesT_app, List.mem_append]
          rw [List.take_add_one, hu, List.mem_append] at hy
          rcases hy with hy | hy
          · exact .inl (hin y hy)
          · simp at hy; rw [hy]; exact .inr (by simp [nodesT])
        · rw [k2 b (by omega) (fun e => by
            rcases hqb b e with h3 | h3
            · exact hbq h3
            · omega), k1 b hbm]
          exact hblk b hbl hbm hbq
        · rw [hb'] at hbb
          cases hbb
          exact .inr (by omega))
    (by
      rintro ws h ⟨X, qv, rfl, rest⟩
      exact ⟨.exit 4, [qv, iv L.length], h, by simp [f88_l3], by simp, rfl, X, qv, rfl, rest⟩)
    (ws := [qv0, iv 0]) (h := g0) (by omega) ⟨[], qv0, rfl, by simpa using hbw, by simpa using hb, by simpa [nodesT] using hq, by simp, by simp, Nat.le_refl _, fun _ _ _ _ => rfl, fun b hb => .inl hb⟩
  exact ⟨ws', h', hl, hr⟩

end Go.AM

end

section

/- A shortest way: the whole. -/
namespace Go.AM
open Go.Proofs
variable {R : Type}
attribute [local simp] nx_eq nx_new nx_set blk_new blk_set asI_int asK_int asB_bool asP_ptr al_eq bx_eq len_slice onE_exit onE_ret onR_ret Value.cells cell_new cell_set rd_new rd_set off eq lt le ifB gv out ext20 ext21
theorem AqR.down {lo lo' : Nat} {h : H} {e : TypeId} {s : Nat} {v : Value} {l : List (List Value)} (a : AqR lo h e s v l) (hl : lo' ≤ lo) : AqR lo' h e s v l := by
  cases a with
  | nil => exact .nil
  | at_ h1 h2 h3 h4 h5 h6 => exact .at_ (Nat.le_trans hl h1) h2 h3 h4 h5 h6

theorem nodes_le {g : List Nat} {l : List Nat} (hn : l.Nodup) (hl : ∀ x ∈ l, x < g.length) : l.length ≤ g.length := by
  have := len_le (F := fun x => x) (l := l) (l' := List.range g.length) hn (fun x hx => List.mem_range.2 (hl x hx)) (fun _ _ _ _ e => e)
  simpa using this

set_option maxHeartbeats 1000000 in
theorem s88 {g : List Nat} {a to thr : Nat} {tv : Value} {h : H} (hg : GrB g) (hs : SlR h 3 1 tv (cellsN g)) (ha : a < g.length) (hto : to < 2 ^ g.length) (hthr : thr < 2 ^ g.length) :
    ∃ v' h', rn 88 #[tv, iv a, iv to, iv thr] h = some (v', h') ∧ Exw h h' ∧
      ((∃ l x, WayB g a (thr ||| to) to l ∧ l.head? = some x ∧ to.testBit x = true ∧ AqR h.nx h' 3 1 v' (cellsN l.reverse)) ∨ (v' = .slice none 0 0 ∧ ∀ u, to.testBit u = true → ¬ Rch g (thr ||| to) a u)) := by
  have hlen := hg.len
  have hpow := hg.pow
  have hW : thr ||| to < 1024 := Nat.or_lt_two_pow (n := 10) (by omega) (by omega)
  have hor : AM.or .i64 (thr : Int) (to : Int) = ((thr ||| to : Nat) : Int) := or_nat (by omega) (by omega)
  generalize hWd : thr ||| to = W at *
  have hm0 : (h.new (.mp [] 0)).blk h.nx = some (.mp [] 0) := blk_new_self _ _
  have k0 : KvI ([] : List (Int × Value)) [] := rfl
  obtain ⟨h2, hh2⟩ : ∃ h2, h2 = (h.new (.mp [] 0)).set h.nx (.mp ([] ++ [{ key := .int .i64 (a : Int), val := .int .i64 (-1), born := 0 }]) (0 + 1)) := ⟨_, rfl⟩
  have n2 : h2.nx = h.nx + 1 := by rw [hh2]; rfl
  obtain ⟨h3, hh3⟩ : ∃ h3, h3 = h2.new (.row [iv a] 3 true) := ⟨_, rfl⟩
  have n3 : h3.nx = h.nx + 2 := by rw [hh3, nx_new, n2]
  have x2 : Ext h h2 := by rw [hh2]; exact ((Ext.refl h).new' _).set (Nat.le_refl _) _
  have x3 : Ext h2 h3 := by rw [hh3]; exact Ext.new _ _
  have hb3 : HB h.nx [(a, -1)] h3 := by
    refine ⟨_, _, (x3.blk _ (by omega)).trans (by rw [hh2]; exact blk_set_self _ _ _), ?_⟩
    exact k0.snoc (.int .i64 (-1)) 0
  have hq3 : QV (h.nx + 1) h3 (.slice (some ⟨h2.nx, 0, none⟩) 1 1) [a] := .lit (by omega) (by omega) (by rw [hh3]; exact blk_new_self _ _)
  obtain ⟨e, ws', h9, hlp, hQ⟩ := lpGo_inv (F := f88_l1 rn 600 tv to thr h)
    (fun d ws g' => ∃ (T : TL) (pre q : List Nat) (qv : Value), ws = [.slice none 0 0, qv] ∧ QV (h.nx + 1) g' qv q ∧ HB h.nx T g' ∧ Ext h g' ∧ h.nx + 1 ≤ g'.nx ∧ BW g a to W T ∧ nodesT T = pre ++ q ∧ d + pre.length = g.length ∧
      ∀ v ∈ pre, to.testBit v = false ∧ ∀ u, adj g v u = true → W.testBit u = true → u ∈ nodesT T)
    (fun e ws g' => Ext h g' ∧ ((e = .exit 0 ∧ ∀ u, to.testBit u = true → ¬ Rch g W a u) ∨ (e = .ret ∧ ∃ v' w l x, ws = [v', w] ∧ WayB g a W to l ∧ l.head? = some x ∧ to.testBit x = true ∧ AqR h.nx g' 3 1 v' (cellsN l.reverse))))
    (by
      rintro d ws g' ⟨T, pre, q, qv, rfl, hq, hb, xg, hlo, bw, hTn, hd, hpre⟩
      have hTl := nodes_le bw.nodup bw.lt
      cases q with
      | nil =>
        refine ⟨.exit 0, [.slice none 0 0, qv], g', ?_, .inr ⟨by simp, xg, .inl ⟨rfl, fun u hu hr => ?_⟩⟩⟩
        · unfold f88_l1
          rw [show AM.gv [.slice none 0 0, qv] 1 = qv from rfl, show AM.gv [.slice none 0 0, qv] 0 = .slice none 0 0 from rfl, hq.len]
          simp
        · rw [List.append_nil] at hTn
          have := bw.closed (fun v hv u h1 h2 => (hpre v (by rw [← hTn]; exact hv)).2 u h1 h2) hr
          rw [hTn] at this
          rw [(hpre u this).1] at hu
          cases hu
      | cons v q =>
        have hvn : v ∈ nodesT T := by rw [hTn]; simp
        have hvl := bw.lt v hvn
        have hpl : pre.length + (q.length + 1) ≤ g.length := by rw [hTn] at hTl; simpa using hTl
        have hsg := hs.ext xg
        have hbit : AM.eq (AM.and .i64 (AM.shr .i64 (to : Int) (v : Int)) 1) 1 = to.testBit v := by
          rw [bit_nat (by omega) (by omega)]
          cases to.testBit v <;> rfl
        cases htv : to.testBit v with
        | true =>
          obtain ⟨l, hup⟩ := bw.up (numP T v + 1) v hvn (by omega)
          obtain ⟨way, hhd, _⟩ := hup.way bw
          have hll := nodes_le way.nodup way.lt
          have hl0 : l ≠ [] := by rintro rfl; simp at hhd
          obtain ⟨sv', w', g2, e2, a2, n2', k2⟩ := s88_l2 (k0 := 600) (h0 := h) rfl bw.nodup (Nat.lt_succ_self _) hup [] (.slice none 0 0) g' 600 hb .nil hlo (by omega) (by simp; omega)
          rw [List.nil_append] at a2
          obtain ⟨h10, e104, a10, n10, k10⟩ := s104 a2 hl0 (by omega)
          have hb2 : ∀ b, b < h.nx → h10.blk b = h.blk b := fun b hb => by
            rw [k10 b (by have := xg.nx; omega) (fun e => by have := (a2.blkOf e).1; omega), k2 b (by have := xg.nx; omega) (by simp [blkOf])]
            exact xg.blk b hb
          refine ⟨.ret, [sv', qv], h10, ?_, .inr ⟨by simp, ⟨by have := xg.nx; omega, hb2⟩, .inr ⟨rfl, sv', qv, l, v, rfl, way, hhd, htv, a10.down (by omega)⟩⟩⟩
          unfold f88_l1
          rw [show AM.gv [.slice none 0 0, qv] 1 = qv from rfl, show AM.gv [.slice none 0 0, qv] 0 = .slice none 0 0 from rfl, hq.len, lt_t (by simp only [List.length_cons]; omega), ifB_true, hq.head, asI_int, nn_ge (show (0 : Int) ≤ (v : Int) by omega), hbit, htv, ifB_true]
          refine (lp_eq e2).trans ?_
          rw [onE_exit, if_pos rfl, show AM.gv [sv', w'] 0 = sv' from rfl, calls_eq (xs := [sv']) e104]
          rfl
        | false =>
          have hS : nb g v &&& W < 1024 := Nat.lt_of_le_of_lt Nat.and_le_right hW
          obtain ⟨v8, g2, e76, x76, a8⟩ := s76A hS g'
          have hnb := Nat.lt_of_lt_of_le (hg.nb_lt v) hpow
          have hand : AM.and .i64 (nb g v : Int) (W : Int) = ((nb g v &&& W : Nat) : Int) := and_nat (by omega) (by omega)
          have hel : (elts (nb g v &&& W)).length ≤ 10 := by unfold elts; exact Nat.le_trans (List.length_filter_le ..) (by simp)
          have hn8 : ∀ {T : Type} (K : Int → Option T), len v8 K = K ((elts (nb g v &&& W)).length : Int) := fun K => by rw [a8.slR.len]; simp
          have hmem : ∀ u, u ∈ elts (nb g v &&& W) ↔ adj g v u = true ∧ W.testBit u = true := fun u => by rw [mem_elts hS, Nat.testBit_and, Bool.and_eq_true]; rfl
          have hqx : QV (h.nx + 1) g2 qv (v :: q) := hq.keep x76.nx fun b hb => x76.blk b (hq.blkOf hb).2
          have hx76 := x76.nx
          obtain ⟨ws2, h4, e4, X, qv', rfl, bw4, hb4, hq4, hin, hXl, hnx4, hk4, hqb4⟩ := s88_l3 (k0 := 600) (h0 := h) (lo := h.nx + 1) hg rfl (Nat.lt_succ_self _) (fun u hu => (hmem u).1 hu) hel hvn htv a8.slR
            (fun b hb => ⟨by have := (a8.blkOf hb).1; omega, fun e => by have := (hq.blkOf e).2; have := (a8.blkOf hb).1; omega⟩) bw (hb.ext (x76.blk _ (by omega))) hqx (by omega) (by omega) (by omega)
          obtain ⟨v15, e15, hq15, _⟩ := QV.tail (q := q ++ nodesT X) hq4
          have x4 : Ext h h4 := ⟨by have := xg.nx; omega, fun b hb => by
            rw [hk4 b (by have := xg.nx; omega) (by omega) (fun e => by have := (hq.blkOf e).1; omega), x76.blk b (by have := xg.nx; omega)]
            exact xg.blk b hb⟩
          refine ⟨.normal, [.slice none 0 0, v15], h4, ?_, .inl ⟨rfl, d - 1, by omega, T ++ X, pre ++ [v], q ++ nodesT X, v15, rfl, hq15, hb4, x4, by omega, bw4, by rw [nodesT_app, hTn]; simp, by simp; omega, fun y hy => ?_⟩⟩
          · unfold f88_l1
            rw [show AM.gv [.slice none 0 0, qv] 1 = qv from rfl, show AM.gv [.slice none 0 0, qv] 0 = .slice none 0 0 from rfl, hq.len, lt_t (by simp only [List.length_cons]; omega), ifB_true, hq.head, asI_int, nn_ge (show (0 : Int) ≤ (v : Int) by omega), hbit, htv, ifB_false]
            simp only [d3]
            rw [getN hsg hvl, asI_int, hor, hand, calls_eq (xs := [iv ((nb g v &&& W : Nat) : Int)]) e76, hn8]
            refine (lp_eq (lpGo_mono e4 (show 20 ≤ 600 by omega))).trans ?_
            rw [onE_exit, if_pos rfl, show AM.gv [qv', iv ((elts (nb g v &&& W)).length : Int)] 0 = qv' from rfl, e15]
            rfl
          · rw [List.mem_append, List.mem_singleton] at hy
            rcases hy with hy | rfl
            · refine ⟨(hpre y hy).1, fun u h1 h2 => ?_⟩
              rw [nodesT_app]; exact List.mem_append_left _ ((hpre y hy).2 u h1 h2)
            · refine ⟨htv, fun u h1 h2 => ?_⟩
              have := (hmem u).2 ⟨h1, h2⟩
              refine hin u ?_
              rw [List.take_length]; exact this)
    g.length 600 (by omega) (ws := [.slice none 0 0, .slice (some ⟨h2.nx, 0, none⟩) 1 1]) (h := h3) ⟨[(a, -1)], [], [a], _, rfl, hq3, hb3, x2.trans x3, by omega, bw0 hg ha, rfl, by simp, by simp⟩
  obtain ⟨x9, hor9⟩ := hQ
  have start : ∀ r, (onE e 0 (some ((.slice none 0 0), h9)) (onR e (some (AM.gv ws' 0, h9)))) = r → f88 rn 600 tv a to thr h = r := by
    intro r hr
    unfold f88
    simp only [mkm]
    rw [nx_eq, mup_new under87 under3i hm0 k0 rfl, ← hh2, bls_some (bls22 (a : Int) h2), ← hh3]
    exact (lp_eq hlp).trans hr
  rcases hor9 with ⟨rfl, hno⟩ | ⟨rfl, v', w, l, x, rfl, way, hhd, htx, a9⟩
  · obtain ⟨h10, e10, m10, w10⟩ := x88 (k := 600) (v0 := tv) (n0 := a) (n1 := to) (n2 := thr) (h := h) (h1 := h9) (v := .slice none 0 0) (start _ (by rw [onE_exit, if_pos rfl])) rfl
    exact ⟨_, h10, e10, w10 x9, .inr ⟨rfl, hno⟩⟩
  · obtain ⟨h10, e10, m10, w10⟩ := x88 (k := 600) (v0 := tv) (n0 := a) (n1 := to) (n2 := thr) (h := h) (h1 := h9) (v := v') (start _ (by rw [onE_ret, onR_ret]; rfl)) a9.slR.notR
    exact ⟨v', h10, e10, w10 x9, .inl ⟨l, x, way, hhd, htx, a9.ext m10.ext⟩⟩

end Go.AM

end

section

/- Numberings: where a beginning goes on. Plain. -/
namespace Go.AM
open Go.Proofs
/-- What is left behind a beginning. -/
def lf (g : List Nat) (B : Nat) : Nat := without (allN g) B

section
variable {g : List Nat} {t B : Nat}
end
end Go.AM

end

section

/- The staged forms of functions 7, 34, 35, 36, 37, 38, 39, 41, 81, 82, 84, and what calls of these answer. -/
namespace Go.AM
open Go.Proofs
noncomputable def f7 (rec : Rec) (_k : Nat) (v0 : Value) (n0 : Int) (n1 : Int) (v1 : Value) (h0 : H) : Option (Value × H) :=
  calls rec h0 18 [v0] fun v2 h1 =>
  calls rec h1 34 [v2, (.int .i64 n0), (.int .i64 n1)] fun v3 h2 =>
  ext v3 0 fun v4 =>
  ext v3 1 fun v5 =>
  asI .i64 v5 fun n2 =>
  calls rec h2 18 [v0] fun v6 h3 =>
  calls rec h3 36 [v1] fun v7 h4 =>
  calls rec h4 35 [v6, v7] fun v8 h5 =>
  ext v8 0 fun v9 =>
  asB v9 fun q0 =>
  ext v8 1 fun v10 =>
  asI .i64 v10 fun n3 =>
  calls rec h5 19 [v0] fun v11 h6 =>
  asB v11 fun q1 =>
  ifB (not q1) (
    len v4 fun n4 =>
    ifB (eq n4 0) (
      ifB (not q0) (
        ifB (eq n2 2) (
          ifB (eq n3 2) (
            calls rec h6 20 [] fun v12 h7 =>
            asB v12 fun q2 =>
            some ((.bool q2), h7)) (
            some ((.bool false), h6))) (
          some ((.bool false), h6))) (
        some ((.bool false), h6))) (
      some ((.bool false), h6))) (
    calls rec h6 37 [v0, v1] fun v13 h8 =>
    asB v13 fun q3 =>
    eqv Tryd.prog 4 (.bool q0) (.bool q3) fun q4 =>
    ifB (not q4) (
      some ((.bool false), h8)) (
      ifB (not (eq n3 0)) (
        some ((.bool false), h8)) (
        calls rec h8 20 [] fun v14 h9 =>
        asB v14 fun q5 =>
        ifB (not q5) (
          some ((.bool false), h9)) (
          calls rec h9 38 [v0, (.int .i64 n0)] fun v15 h10 =>
          asB v15 fun q6 =>
          ifB (not q6) (
            len v4 fun n5 =>
            ifB (eq n5 0) (
              some ((.bool (eq n2 2)), h10)) (
              some ((.bool false), h10))) (
            calls rec h10 38 [v0, (.int .i64 n1)] fun v16 h11 =>
            asB v16 fun q7 =>
            ifB (not q7) (
              len v4 fun n6 =>
              ifB (eq n6 0) (
                some ((.bool (eq n2 2)), h11)) (
                some ((.bool false), h11))) (
              six v0 n0 1 fun b0 b1 =>
              ld Tryd.prog h11 3 b0 b1 fun v17 =>
              asI .i64 v17 fun n7 =>
              nn n1 (
                ifB (eq (and .i64 (shr .i64 n7 n1) 1) 0) (
                  len v4 fun n8 =>
                  ifB (eq n8 0) (
                    some ((.bool (eq n2 2)), h11)) (
                    some ((.bool false), h11))) (
                  calls rec h11 39 [v0] fun v18 h12 =>
                  asB v18 fun q8 =>
                  ifB (not q8) (
                    len v4 fun n9 =>
                    ifB (eq n9 0) (
                      some ((.bool (eq n2 5)), h12)) (
                      some ((.bool false), h12))) (
                    calls rec h12 41 [v0, (.int .i64 n0), (.int .i64 n1)] fun v19 h13 =>
                    calls rec h13 40 [v4, v19] fun v20 h14 =>
                    asB v20 fun q9 =>
                    ifB q9 (
                      some ((.bool (eq n2 0)), h14)) (
                      some ((.bool false), h14)))))))))))

theorem e7 (rec : Rec) (k : Nat) (v0 : Value) (n0 : Int) (n1 : Int) (v1 : Value) (h : H) : bodyT Tryd.prog E0 SC (XC Tryd.prog rec k) 7 (Value × H) [.opq v0, .int .i64 n0, .int .i64 n1, .opq v1] h (fun v h => some (v, h)) = f7 rec k v0 n0 n1 v1 h := by kernel_rfl

theorem t7 {k : Nat} {v0 : Value} {n0 : Int} {n1 : Int} {v1 : Value} {h h1 : H} {v : Value} (hh : f7 rn k v0 n0 n1 v1 h = some (v, h1)) : rn 7 #[v0, .int .i64 n0, .int .i64 n1, v1] h = some (v, trunc Tryd.prog h h1 v) :=
  run_of_bodyT (args := [.opq v0, .int .i64 n0, .int .i64 n1, .opq v1]) rfl ((e7 _ _ _ _ _ _ _).trans hh)

theorem p7 {k : Nat} {v0 : Value} {n0 : Int} {n1 : Int} {v1 : Value} {h h1 : H} {v : Value} (hh : f7 rn k v0 n0 n1 v1 h = some (v, h1)) (hp : plainO v = true) (x : Ext h h1) : rn 7 #[v0, .int .i64 n0, .int .i64 n1, v1] h = some (v, h) := by rw [t7 hh, trunc_pure hp x]

theorem x7 {k : Nat} {v0 : Value} {n0 : Int} {n1 : Int} {v1 : Value} {h h1 : H} {v : Value} (hh : f7 rn k v0 n0 n1 v1 h = some (v, h1)) (hp : plainO v = false) : ∃ h2, rn 7 #[v0, .int .i64 n0, .int .i64 n1, v1] h = some (v, h2) ∧ Sm h1 h2 ∧ (Ext h h1 → Exw h h2) := trunc_cell hp (t7 hh)

noncomputable def f36 (rec : Rec) (_k : Nat) (v0 : Value) (h0 : H) : Option (Value × H) :=
  len v0 fun n0 =>
  sli Tryd.prog h0 22 v0 none (some (.int .i64 (imin n0 16))) none fun v1 =>
  calls rec h0 83 [v1] fun v2 h1 =>
  some (v2, h1)

theorem e36 (rec : Rec) (k : Nat) (v0 : Value) (h : H) : bodyT Tryd.prog E0 SC (XC Tryd.prog rec k) 36 (Value × H) [.opq v0] h (fun v h => some (v, h)) = f36 rec k v0 h := by kernel_rfl

theorem t36 {k : Nat} {v0 : Value} {h h1 : H} {v : Value} (hh : f36 rn k v0 h = some (v, h1)) : rn 36 #[v0] h = some (v, trunc Tryd.prog h h1 v) :=
  run_of_bodyT (args := [.opq v0]) rfl ((e36 _ _ _ _).trans hh)

theorem x36 {k : Nat} {v0 : Value} {h h1 : H} {v : Value} (hh : f36 rn k v0 h = some (v, h1)) (hp : plainO v = false) : ∃ h2, rn 36 #[v0] h = some (v, h2) ∧ Sm h1 h2 ∧ (Ext h h1 → Exw h h2) := trunc_cell hp (t36 hh)

noncomputable def f39 (rec : Rec) (_k : Nat) (v0 : Value) (h0 : H) : Option (Value × H) :=
  len v0 fun n0 =>
  ifB (le 3 n0) (
    calls rec h0 68 [v0] fun v1 h1 =>
    asI .i64 v1 fun n1 =>
    calls rec h1 67 [v0, (.int .i64 n1)] fun v2 h2 =>
    asB v2 fun q0 =>
    ifB q0 (
      calls rec h2 26 [v0] fun v3 h3 =>
      asI .i64 v3 fun n2 =>
      some ((.bool (eq n2 0)), h3)) (
      some ((.bool false), h2))) (
    some ((.bool false), h0))

theorem e39 (rec : Rec) (k : Nat) (v0 : Value) (h : H) : bodyT Tryd.prog E0 SC (XC Tryd.prog rec k) 39 (Value × H) [.opq v0] h (fun v h => some (v, h)) = f39 rec k v0 h := by kernel_rfl

theorem t39 {k : Nat} {v0 : Value} {h h1 : H} {v : Value} (hh : f39 rn k v0 h = some (v, h1)) : rn 39 #[v0] h = some (v, trunc Tryd.prog h h1 v) :=
  run_of_bodyT (args := [.opq v0]) rfl ((e39 _ _ _ _).trans hh)

theorem p39 {k : Nat} {v0 : Value} {h h1 : H} {v : Value} (hh : f39 rn k v0 h = some (v, h1)) (hp : plainO v = true) (x : Ext h h1) : rn 39 #[v0] h = some (v, h) := by rw [t39 hh, trunc_pure hp x]

noncomputable def f81 (rec : Rec) (_k : Nat) (v0 : Value) (h0 : H) : Option (Value × H) :=
  len v0 fun n0 =>
  ifB (le 3 n0) (
    calls rec h0 65 [v0] fun v1 h1 =>
    asI .i64 v1 fun n1 =>
    calls rec h1 64 [v0, (.int .i64 n1)] fun v2 h2 =>
    asB v2 fun q0 =>
    ifB q0 (
      calls rec h2 65 [v0] fun v3 h3 =>
      asI .i64 v3 fun n2 =>
      calls rec h3 70 [v0, (.int .i64 n2)] fun v4 h4 =>
      asI .i64 v4 fun n3 =>
      some ((.bool (eq n3 0)), h4)) (
      some ((.bool false), h2))) (
    some ((.bool false), h0))

theorem e81 (rec : Rec) (k : Nat) (v0 : Value) (h : H) : bodyT Tryd.prog E0 SC (XC Tryd.prog rec k) 81 (Value × H) [.opq v0] h (fun v h => some (v, h)) = f81 rec k v0 h := by kernel_rfl

theorem t81 {k : Nat} {v0 : Value} {h h1 : H} {v : Value} (hh : f81 rn k v0 h = some (v, h1)) : rn 81 #[v0] h = some (v, trunc Tryd.prog h h1 v) :=
  run_of_bodyT (args := [.opq v0]) rfl ((e81 _ _ _ _).trans hh)

theorem p81 {k : Nat} {v0 : Value} {h h1 : H} {v : Value} (hh : f81 rn k v0 h = some (v, h1)) (hp : plainO v = true) (x : Ext h h1) : rn 81 #[v0] h = some (v, h) := by rw [t81 hh, trunc_pure hp x]

end Go.AM

end

section

/- The search for a numbering, walked. -/
namespace Go.AM
open Go.Proofs
variable {R : Type}
attribute [local simp] nx_eq nx_new nx_set blk_new blk_set asI_int asK_int asB_bool asP_ptr al_eq bx_eq len_slice onE_exit onE_ret onR_ret Value.cells cell_new cell_set rd_new rd_set off eq lt le ifB gv out ext20 ext21
theorem or_calc2 {n B u : Nat} (hn : n ≤ 10) (hB : B < 2 ^ n) (hu : u < n) : AM.or .i64 (B : Int) (AM.shl .i64 1 (u : Int)) = ((B ||| 2 ^ u : Nat) : Int) := by
  have h2 : 2 ^ n ≤ 1024 := Nat.pow_le_pow_right (n := 2) (by omega) hn
  have h3 : 2 ^ u < 1024 := Nat.lt_of_lt_of_le (Nat.pow_lt_pow_right (by omega) hu) h2
  rw [shl1_nat (by omega), or_nat (by omega) (by omega)]

end Go.AM

end

section

/- Number: the program's and the document's. -/
namespace Go.AM
open Go.Proofs
variable {R : Type}
attribute [local simp] nx_eq nx_new nx_set blk_new blk_set asI_int asK_int asB_bool asP_ptr al_eq bx_eq len_slice onE_exit onE_ret onR_ret Value.cells cell_new cell_set rd_new rd_set off eq lt le ifB gv out ext20 ext21
noncomputable def doubleP (g : List Nat) : Bool := decide (3 ≤ g.length) && connS g (allN g) && decide (cutsP g (allN g) = 0)

theorem pop_all_tab : ((List.range 11).all fun n => decide (pop (2 ^ n - 1) = n) && (List.range n).all fun t => decide (pop (without (2 ^ n - 1) (2 ^ t)) = n - 1)) = true := by decide +kernel

theorem pop_all {n : Nat} (h : n ≤ 10) : pop (2 ^ n - 1) = n ∧ ∀ t, t < n → pop (without (2 ^ n - 1) (2 ^ t)) = n - 1 := by
  have := List.all_eq_true.1 pop_all_tab n (List.mem_range.2 (by omega))
  simp only [Bool.and_eq_true, decide_eq_true_eq, List.all_eq_true, List.mem_range] at this
  exact this

theorem double_bi {g : List Nat} (hg : GrN g) (h : doubleP g = true) : Bi g (allN g) := by
  unfold doubleP at h
  simp only [Bool.and_eq_true, decide_eq_true_eq] at h
  refine ((cand2_iff hg (allN_lt g)).1 ?_).2
  unfold cand2
  have := (pop_all hg.len).1
  rw [show pop (allN g) = g.length from this, h.1.2, h.2, decide_eq_true (by omega)]
  rfl

theorem s81 {tv : Value} {g : List Nat} {h : H} (hg : GrN g) (hs : SlR h 3 1 tv (cellsN g)) : rn 81 #[tv] h = some (.bool (doubleP g), h) := by
  have hn : ∀ {T : Type} (K : Int → Option T), len tv K = K (g.length : Int) := fun K => by rw [hs.len]; simp
  have c65 := fun (K : Value → H → Option (Value × H)) => calls_eq (K := K) (xs := [tv]) (s65 hg.toGrB hs)
  have c64 := fun (K : Value → H → Option (Value × H)) => calls_eq (K := K) (xs := [tv, iv (allN g : Nat)]) (s64 hg.toGrB hs (allN_lt g))
  have c70 := fun (K : Value → H → Option (Value × H)) => calls_eq (K := K) (xs := [tv, iv (allN g : Nat)]) (s70 hg.toGrB hs (allN_lt g))
  refine p81 (k := 0) (h1 := h) ?_ rfl (.refl _)
  unfold f81 doubleP
  rw [hn, show AM.le 3 (g.length : Int) = decide (3 ≤ g.length) by simp only [AM.le, decide_eq_decide]; omega]
  by_cases h3 : 3 ≤ g.length
  · rw [decide_eq_true h3, ifB_true, c65, asI_int, c64, asB_bool, Bool.true_and]
    cases connS g (allN g) with
    | true => rw [ifB_true, c65, asI_int, c70, asI_int, Bool.true_and, show AM.eq (cutsP g (allN g) : Int) 0 = decide (cutsP g (allN g) = 0) from eqN (b := 0)]
    | false => rw [ifB_false, Bool.false_and]
  · rw [decide_eq_false h3, ifB_false, Bool.false_and, Bool.false_and]

theorem s39 {tv : Value} {g : List Nat} {h : H} (hg : GrN g) (hs : SlR h 3 1 tv (cellsN g)) : rn 39 #[tv] h = some (.bool (doubleP g), h) := by
  have hn : ∀ {T : Type} (K : Int → Option T), len tv K = K (g.length : Int) := fun K => by rw [hs.len]; simp
  have c68 := fun (K : Value → H → Option (Value × H)) => calls_eq (K := K) (xs := [tv]) (s68 hg.toGrB hs)
  have c67 := fun (K : Value → H → Option (Value × H)) => calls_eq (K := K) (xs := [tv, iv (allN g : Nat)]) (s67 hg.toGrB hs (allN_lt g))
  have c26 := fun (K : Value → H → Option (Value × H)) => calls_eq (K := K) (xs := [tv]) (s26 hg hs)
  rw [decide_eq_true (all_ne hg), Bool.true_and] at c67
  refine p39 (k := 0) (h1 := h) ?_ rfl (.refl _)
  unfold f39 doubleP
  rw [hn, show AM.le 3 (g.length : Int) = decide (3 ≤ g.length) by simp only [AM.le, decide_eq_decide]; omega]
  by_cases h3 : 3 ≤ g.length
  · rw [decide_eq_true h3, ifB_true, c68, asI_int, c67, asB_bool, Bool.true_and]
    cases connS g (allN g) with
    | true => rw [ifB_true, c26, asI_int, Bool.true_and, show AM.eq (cutsP g (allN g) : Int) 0 = decide (cutsP g (allN g) = 0) from eqN (b := 0)]
    | false => rw [ifB_false, Bool.false_and]
  · rw [decide_eq_false h3, ifB_false, Bool.false_and, Bool.false_and]

/-- Is a number a node? -/
def nodeB (g : List Nat) (z : Int) : Bool := decide (0 ≤ z) && decide (z < (g.length : Int))

theorem nodeB_nat {g : List Nat} {z : Int} (h : nodeB g z = true) : ∃ a : Nat, z = (a : Int) ∧ a < g.length := by
  unfold nodeB at h
  simp only [Bool.and_eq_true, decide_eq_true_eq] at h
  exact ⟨z.toNat, by omega, by omega⟩

theorem s79 {tv : Value} {g : List Nat} {z : Int} {h : H} (hs : SlR h 3 1 tv (cellsN g)) : rn 79 #[tv, iv z] h = some (.bool (nodeB g z), h) := by
  have hn : ∀ {T : Type} (K : Int → Option T), len tv K = K (g.length : Int) := fun K => by rw [hs.len]; simp
  refine p79 (k := 0) (h1 := h) ?_ rfl (.refl _)
  unfold f79 nodeB
  by_cases h0 : 0 ≤ z
  · rw [show AM.le 0 z = true by simp [AM.le, h0], ifB_true, hn, decide_eq_true h0, Bool.true_and]; rfl
  · rw [show AM.le 0 z = false by simp [AM.le]; omega, ifB_false, decide_eq_false h0, Bool.false_and]

theorem s80 {tv : Value} {g : List Nat} {a b : Nat} {h : H} (hg : GrB g) (hs : SlR h 3 1 tv (cellsN g)) (ha : a < g.length) (hb : b < g.length) : rn 80 #[tv, iv a, iv b] h = some (.bool (adj g a b), h) := by
  have hlen := hg.len
  refine p80 (k := 0) (h1 := h) ?_ rfl (.refl _)
  unfold f80
  simp only [d3]
  rw [getN hs ha, asI_int, nn_ge (show (0 : Int) ≤ (b : Int) by omega), adj_bit hg (by omega)]
  cases adj g a b <;> rfl

end Go.AM

end

section

/- CheckNumber and IsNumber. -/
namespace Go.AM
open Go.Proofs
variable {R : Type}
attribute [local simp] nx_eq nx_new nx_set blk_new blk_set asI_int asK_int asB_bool asP_ptr al_eq bx_eq len_slice onE_exit onE_ret onR_ret Value.cells cell_new cell_set rd_new rd_set off eq lt le ifB gv out ext20 ext21
/-! ### Plain -/
/-! ### A slice's beginning -/
theorem s36 {v : Value} {l : List Int} {h : H} (hs : SlR h 3 1 v (cellsI l)) : ∃ v' h', rn 36 #[v] h = some (v', h') ∧ Exw h h' ∧ SlR h' 3 1 v' (cellsI (l.take 16)) := by
  have e1 : imin ((cellsI l).length : Int) 16 = ((min l.length 16 : Nat) : Int) := by
    rw [List.length_map]
    unfold imin
    split <;> omega
  obtain ⟨v1, s1, e2⟩ := hs.take (i := ((min l.length 16 : Nat) : Int)) under22 sz3 (by omega) (by rw [List.length_map]; omega)
  have e3 : (cellsI l).take ((min l.length 16 : Nat) : Int).toNat = cellsI (l.take 16) := by
    rw [Int.toNat_natCast, ← List.map_take]
    congr 1
    rcases Nat.le_total l.length 16 with h1 | h1
    · rw [Nat.min_eq_left h1, List.take_of_length_le (Nat.le_refl _), List.take_of_length_le h1]
    · rw [Nat.min_eq_right h1]
  rw [e3] at s1
  obtain ⟨v', h', e4, x, s, a, n, c, rfl⟩ := s83 s1 (by rw [List.length_map, List.length_take]; omega)
  obtain ⟨h2, e5, m2, w2⟩ := x36 (k := 0) (h := h) (v0 := v) (h1 := h') (v := .slice a n c) (by
    unfold f36
    rw [hs.len, e1, e2, calls_eq e4]) rfl
  exact ⟨_, h2, e5, w2 x.toExt, s.ext m2.ext⟩

/-! ### The program's loops -/
theorem getI {h : H} {v : Value} {l : List Int} (hs : SlR h 3 1 v (cellsI l)) {i : Nat} {x : Int} (hx : l[i]? = some x) (K : Value → Option R) : (six v (i : Int) 1 fun b o => ld Tryd.prog h 3 b o K) = K (iv x) := by
  simp only [d3]; exact getL hs hx K

end Go.AM

end

section

/- Slices of slices of numbers. -/
namespace Go.AM
open Go.Proofs
variable {R : Type}
attribute [local simp] nx_eq nx_new nx_set blk_new blk_set asI_int asK_int asB_bool asP_ptr al_eq bx_eq len_slice onE_exit onE_ret onR_ret Value.cells cell_new cell_set rd_new rd_set off eq lt le ifB gv out ext20 ext21
theorem app68 : okApp Tryd.prog 68 22 1 = true := by kernel_rfl

theorem app56 : okApp Tryd.prog 56 102 1 = true := by kernel_rfl

theorem bls68 {x y z} (h : H) : buildSlice Tryd.prog 68 1 [(0, .slice x y z)] h = some (.slice (some ⟨h.nx, 0, none⟩) 1 1, h.new (.row [.slice x y z] 22 true)) := by kernel_rfl

theorem bls56 {x y z} (h : H) : buildSlice Tryd.prog 56 1 [(0, .slice x y z)] h = some (.slice (some ⟨h.nx, 0, none⟩) 1 1, h.new (.row [.slice x y z] 102 true)) := by kernel_rfl

abbrev cellsV (vs : List Value) : List (List Value) := vs.map fun x => [x]

def AllSl (vs : List Value) : Prop := ∀ x ∈ vs, ∃ a n c, x = .slice a n c

/-- Ears as slices of numbers. -/
theorem s57 {v : Value} {vs : List Value} {h : H} (hs : SlR h 102 1 v (cellsV vs)) (hv : AllSl vs) (hm : vs.length ≤ 1000) : ∃ v' h', rn 57 #[v] h = some (v', h') ∧ Exw h h' ∧ SlR h' 22 1 v' (cellsV vs) := by
  have hn : ∀ {T : Type} (K : Int → Option T), len v K = K (vs.length : Int) := fun K => by rw [hs.len]; simp
  obtain ⟨ws', h', hl, xg, hll, sv', hap', rfl⟩ := lp_for (F := f57_l1 rn 2000 v vs.length) (k := 2000) (l := vs) (fun _ x acc => acc ++ [x])
    (fun i acc ws g => Ext h g ∧ acc = vs.take i ∧ ∃ sv, AqR h.nx g 22 1 sv (cellsV acc) ∧ ws = [sv, iv i]) 0 (ws := [.slice none 0 0, iv 0]) (h := h) (s0 := [])
    ⟨.refl _, rfl, _, .nil, rfl⟩ (by omega)
    (by
      rintro acc ws g ⟨_, _, sv, _, rfl⟩
      simp [f57_l1])
    (by
      rintro i x acc ws g hx ⟨xg, hal, sv, hap, rfl⟩
      have hi := (List.getElem?_eq_some_iff.1 hx).1
      obtain ⟨p, q, r, rfl⟩ := hv x (List.mem_of_getElem? hx)
      have hadd : add .i64 (i : Int) 1 = ((i + 1 : Nat) : Int) := by rw [add64 (by omega) (by omega)]; omega
      have e1 : ∀ (K : Value → Option (Ex × List Value × H)), (six v (i : Int) 1 fun b o => ld Tryd.prog g 102 b o K) = K (.slice p q r) := fun K =>
        (hs.ext xg).ld0 ag102 (by omega) (x := [.slice p q r]) (by rw [Int.toNat_natCast, List.getElem?_map, hx]; rfl) rfl K
      obtain ⟨sv', h2, e2, a2, n2, k2, b2, hb2, hb2'⟩ := hap.push app68 app68 (bls68 (x := p) (y := q) (z := r)) rfl rfl (by rw [List.length_map, hal, List.length_take]; omega) xg.nx
      refine ⟨[sv', iv ((i + 1 : Nat) : Int)], h2, ?_, ⟨by have := xg.nx; omega, fun b hb => ?_⟩, ?_, sv', ?_, rfl⟩
      · unfold f57_l1
        rw [show AM.gv [sv, iv i] 1 = iv i from rfl, show AM.gv [sv, iv i] 0 = sv from rfl, asI_int, lt_t (by omega), ifB_true, asK_int, e1, e2, asI_int, hadd]
        rfl
      · rw [k2 b (by have := xg.nx; omega) (fun e => by have := (hap.blkOf e).1; omega)]
        exact xg.blk b hb
      · rw [hal, List.take_add_one, hx]; rfl
      · have : cellsV (acc ++ [.slice p q r]) = cellsV acc ++ [[.slice p q r]] := by simp
        rw [this]; exact a2)
  rw [hll, List.take_length] at hap'
  obtain ⟨h2, e2, m2, w2⟩ := x57 (k := 2000) (v0 := v) (h := h) (h1 := h') (v := sv') (by
    unfold f57
    rw [hn]
    refine (lp_eq hl).trans ?_
    rfl) hap'.slR.notR
  exact ⟨sv', h2, e2, w2 xg, hap'.slR.ext m2.ext⟩

/-! ### Slices that came in -/
def LSI (h : H) (vs : List Value) (LL : List (List Int)) : Prop := vs.length = LL.length ∧ ∀ (i : Nat) (x : Value) (m : List Int), vs[i]? = some x → LL[i]? = some m → SlR h 3 1 x (cellsI m)

theorem LSI.keep {h h' : H} {vs : List Value} {LL : List (List Int)} (a : LSI h vs LL) (hn : h.nx ≤ h'.nx) (hb : ∀ b cs o, b < h.nx → h.blk b = some (.row cs 3 o) → h'.blk b = h.blk b) : LSI h' vs LL :=
  ⟨a.1, fun i x m hx hm => (a.2 i x m hx hm).keepB hn fun b hbb => by
    obtain ⟨h1, cs, o, h2⟩ := (a.2 i x m hx hm).blkR hbb
    exact hb b cs o h1 h2⟩

theorem LSI.ext {h h' : H} {vs : List Value} {LL : List (List Int)} (a : LSI h vs LL) (x : Ext h h') : LSI h' vs LL := a.keep x.nx fun b _ _ hb _ => x.blk b hb

theorem LSI.snoc {h : H} {vs : List Value} {LL : List (List Int)} (a : LSI h vs LL) {x : Value} {m : List Int} (hx : SlR h 3 1 x (cellsI m)) : LSI h (vs ++ [x]) (LL ++ [m]) := by
  refine ⟨by simp [a.1], fun i y k hy hk => ?_⟩
  have h1 := a.1
  by_cases hi : i < vs.length
  · rw [List.getElem?_append_left hi] at hy
    rw [List.getElem?_append_left (by omega)] at hk
    exact a.2 i y k hy hk
  · have hi2 := (List.getElem?_eq_some_iff.1 hy).1
    simp at hi2
    have : i = vs.length := by omega
    subst this
    simp at hy
    rw [h1] at hk
    simp at hk
    subst hy hk
    exact hx

theorem s98 {v : Value} {vs : List Value} {LL : List (List Int)} {h : H} (hs : SlR h 22 1 v (cellsV vs)) (hv : AllSl vs) (hl : LSI h vs LL) :
    ∃ v' h' vs', rn 98 #[v] h = some (v', h') ∧ Exw h h' ∧ SlR h' 22 1 v' (cellsV vs') ∧ AllSl vs' ∧ LSI h' vs' ((LL.take 50).map fun m => m.take 16) := by
  have hm := hs.lt62
  rw [List.length_map] at hm
  have hlen := hl.1
  have hn : ∀ {T : Type} (K : Int → Option T), len v K = K (vs.length : Int) := fun K => by rw [hs.len]; simp
  obtain ⟨e, ws', h', hlp, rfl, vs', sv, w, rfl, xg, ha, hvs, hLS⟩ := lp_range (F := f98_l1 rn (vs.length + 1) v vs.length) (k := vs.length + 1) (n := vs.length)
    (fun i ws g => ∃ (vs' : List Value) (sv : Value), ws = [sv, iv i] ∧ Ext h g ∧ AqR h.nx g 22 1 sv (cellsV vs') ∧ AllSl vs' ∧ LSI g vs' ((LL.take (min i 50)).map fun m => m.take 16))
    (fun e ws g => e = .exit 0 ∧ ∃ (vs' : List Value) (sv w : Value), ws = [sv, w] ∧ Ext h g ∧ AqR h.nx g 22 1 sv (cellsV vs') ∧ AllSl vs' ∧ LSI g vs' ((LL.take 50).map fun m => m.take 16))
    (by
      rintro i ws g hi ⟨vs', sv, rfl, xg, ha, hvs, hLS⟩
      have hx := List.getElem?_eq_getElem hi
      generalize hxd : vs[i] = x at hx
      have hmm := List.getElem?_eq_getElem (show i < LL.length by omega)
      generalize hmd : LL[i] = m at hmm
      obtain ⟨p, q, r, rfl⟩ := hv x (List.mem_of_getElem? hx)
      have hadd : add .i64 (i : Int) 1 = ((i + 1 : Nat) : Int) := by rw [add64 (by omega) (by omega)]; omega
      have e1 : ∀ (K : Value → Option (Ex × List Value × H)), (six v (i : Int) 1 fun b o => ld Tryd.prog g 22 b o K) = K (.slice p q r) := fun K =>
        (hs.ext xg).ld0 ag22 (by omega) (x := [.slice p q r]) (by rw [Int.toNat_natCast, List.getElem?_map, hx]; rfl) rfl K
      by_cases h50 : i < 50
      · obtain ⟨v2, h2, e36, x2, hs2⟩ := s36 ((hl.2 i _ m hx hmm).ext xg)
        have c36 := fun (K : Value → H → Option (Ex × List Value × H)) => calls_eq (K := K) (xs := [.slice p q r]) e36
        obtain ⟨p2, q2, r2, rfl⟩ := hs2.isSl
        have ha2 := ha.ext x2.toExt
        have hvl : vs'.length ≤ 50 := by rw [hLS.1, List.length_map, List.length_take]; omega
        obtain ⟨sv', h3, e3, a3, n3, k3, b3, hb3, hb3'⟩ := ha2.push app68 app68 (bls68 (x := p2) (y := q2) (z := r2)) rfl rfl (by rw [List.length_map]; omega) (xg.trans x2.toExt).nx
        have hkeep : ∀ b cs o, b < h2.nx → h2.blk b = some (.row cs 3 o) → h3.blk b = h2.blk b := fun b cs o hb hr => k3 b hb fun e => by
          have := (ha2.blkOf e).2.2
          rw [hr] at this
          cases this
        refine ⟨.normal, [sv', iv ((i + 1 : Nat) : Int)], h3, ?_, .inl ⟨rfl, vs' ++ [.slice p2 q2 r2], sv', rfl, ⟨by have := (xg.trans x2.toExt).nx; omega, fun b hb => ?_⟩, ?_, ?_, ?_⟩⟩
        · unfold f98_l1
          rw [show AM.gv [sv, iv i] 1 = iv i from rfl, show AM.gv [sv, iv i] 0 = sv from rfl, asI_int, lt_t (by omega), ifB_true, asK_int, e1, asI_int, lt_t (by omega), ifB_true, c36, e3, asI_int, hadd]
          rfl
        · rw [k3 b (by have := (xg.trans x2.toExt).nx; omega) (fun e => by have := (ha2.blkOf e).1; omega)]
          exact (xg.trans x2.toExt).blk b hb
        · have : cellsV (vs' ++ [.slice p2 q2 r2]) = cellsV vs' ++ [[.slice p2 q2 r2]] := by simp
          rw [this]; exact a3
        · intro y hy
          rw [List.mem_append, List.mem_singleton] at hy
          rcases hy with hy | rfl
          · exact hvs y hy
          · exact ⟨_, _, _, rfl⟩
        · rw [Nat.min_eq_left (by omega), List.take_add_one, hmm]
          have q1 := ((hLS.ext x2.toExt).keep n3 hkeep).snoc (hs2.keepB n3 fun b hb => by
            obtain ⟨z1, cs, o, z2⟩ := hs2.blkR hb
            exact hkeep b cs o z1 z2)
          rw [Nat.min_eq_left (by omega)] at q1
          simpa using q1
      · refine ⟨.normal, [sv, iv ((i + 1 : Nat) : Int)], g, ?_, .inl ⟨rfl, vs', sv, rfl, xg, ha, hvs, ?_⟩⟩
        · unfold f98_l1
          rw [show AM.gv [sv, iv i] 1 = iv i from rfl, show AM.gv [sv, iv i] 0 = sv from rfl, asI_int, lt_t (by omega), ifB_true, asK_int, e1, asI_int, show AM.lt (i : Int) 50 = false by simp [AM.lt]; omega, ifB_false, asI_int, hadd]
          rfl
        · rw [Nat.min_eq_right (by omega)] at hLS ⊢
          exact hLS)
    (by
      rintro ws g ⟨vs', sv, rfl, xg, ha, hvs, hLS⟩
      refine ⟨.exit 0, [sv, iv vs.length], g, by simp [f98_l1], by simp, rfl, vs', sv, _, rfl, xg, ha, hvs, ?_⟩
      have : LL.take (min vs.length 50) = LL.take 50 := by
        rcases Nat.le_total vs.length 50 with h1 | h1
        · rw [Nat.min_eq_left h1, List.take_of_length_le (by omega), List.take_of_length_le (by omega)]
        · rw [Nat.min_eq_right h1]
      rw [this] at hLS
      exact hLS)
    (ws := [.slice none 0 0, iv 0]) (h := h) (by omega) ⟨[], .slice none 0 0, rfl, .refl _, .nil, (fun x hx => by cases hx), by simp [LSI]⟩
  obtain ⟨h2, e2, m2, w2⟩ := x98 (k := vs.length + 1) (v0 := v) (h := h) (h1 := h') (v := sv) (by
    unfold f98
    rw [hn]
    refine (lp_eq hlp).trans ?_
    rfl) ha.slR.notR
  exact ⟨sv, h2, vs', e2, w2 xg, ha.slR.ext m2.ext, hvs, hLS.ext m2.ext⟩

/-- Slices of numbers as ears: the loop. -/
theorem s55_l {v : Value} {vs : List Value} {h : H} (hs : SlR h 22 1 v (cellsV vs)) (hv : AllSl vs) (hm : vs.length ≤ 1000) : ∃ v' h', lpGo (f55_l1 rn 2000 v vs.length) 2000 [.slice none 0 0, iv 0] h = some (.exit 0, [v', iv vs.length], h') ∧ Ext h h' ∧ AqR h.nx h' 102 1 v' (cellsV vs) := by
  have hn : ∀ {T : Type} (K : Int → Option T), len v K = K (vs.length : Int) := fun K => by rw [hs.len]; simp
  obtain ⟨ws', h', hl, xg, hll, sv', hap', rfl⟩ := lp_for (F := f55_l1 rn 2000 v vs.length) (k := 2000) (l := vs) (fun _ x acc => acc ++ [x])
    (fun i acc ws g => Ext h g ∧ acc = vs.take i ∧ ∃ sv, AqR h.nx g 102 1 sv (cellsV acc) ∧ ws = [sv, iv i]) 0 (ws := [.slice none 0 0, iv 0]) (h := h) (s0 := [])
    ⟨.refl _, rfl, _, .nil, rfl⟩ (by omega)
    (by
      rintro acc ws g ⟨_, _, sv, _, rfl⟩
      simp [f55_l1])
    (by
      rintro i x acc ws g hx ⟨xg, hal, sv, hap, rfl⟩
      have hi := (List.getElem?_eq_some_iff.1 hx).1
      obtain ⟨p, q, r, rfl⟩ := hv x (List.mem_of_getElem? hx)
      have hadd : add .i64 (i : Int) 1 = ((i + 1 : Nat) : Int) := by rw [add64 (by omega) (by omega)]; omega
      have e1 : ∀ (K : Value → Option (Ex × List Value × H)), (six v (i : Int) 1 fun b o => ld Tryd.prog g 22 b o K) = K (.slice p q r) := fun K =>
        (hs.ext xg).ld0 ag22 (by omega) (x := [.slice p q r]) (by rw [Int.toNat_natCast, List.getElem?_map, hx]; rfl) rfl K
      obtain ⟨sv', h2, e2, a2, n2, k2, b2, hb2, hb2'⟩ := hap.push app56 app56 (bls56 (x := p) (y := q) (z := r)) rfl rfl (by rw [List.length_map, hal, List.length_take]; omega) xg.nx
      refine ⟨[sv', iv ((i + 1 : Nat) : Int)], h2, ?_, ⟨by have := xg.nx; omega, fun b hb => ?_⟩, ?_, sv', ?_, rfl⟩
      · unfold f55_l1
        rw [show AM.gv [sv, iv i] 1 = iv i from rfl, show AM.gv [sv, iv i] 0 = sv from rfl, asI_int, lt_t (by omega), ifB_true, asK_int, e1, e2, asI_int, hadd]
        rfl
      · rw [k2 b (by have := xg.nx; omega) (fun e => by have := (hap.blkOf e).1; omega)]
        exact xg.blk b hb
      · rw [hal, List.take_add_one, hx]; rfl
      · have : cellsV (acc ++ [.slice p q r]) = cellsV acc ++ [[.slice p q r]] := by simp
        rw [this]; exact a2)
  rw [hll, List.take_length] at hap'
  exact ⟨sv', h', hl, xg, hap'⟩

theorem s55 {v : Value} {vs : List Value} {LL : List (List Int)} {h : H} (hs : SlR h 22 1 v (cellsV vs)) (hv : AllSl vs) (hl : LSI h vs LL) :
    ∃ v' h' vs', rn 55 #[v] h = some (v', h') ∧ Exw h h' ∧ SlR h' 102 1 v' (cellsV vs') ∧ AllSl vs' ∧ LSI h' vs' ((LL.take 50).map fun m => m.take 16) := by
  obtain ⟨v1, h1, vs1, e98, x1, hs1, hv1, hl1⟩ := s98 hs hv hl
  have hm : vs1.length ≤ 50 := by rw [hl1.1, List.length_map, List.length_take]; omega
  have hn : ∀ {T : Type} (K : Int → Option T), len v1 K = K (vs1.length : Int) := fun K => by rw [hs1.len]; simp
  obtain ⟨v2, h2, hlp, x2, ha⟩ := s55_l hs1 hv1 (by omega)
  obtain ⟨h3, e3, m3, w3⟩ := x55 (k := 2000) (v0 := v) (h := h) (h1 := h2) (v := v2) (by
    unfold f55
    rw [calls_eq (xs := [v]) e98, hn]
    refine (lp_eq hlp).trans ?_
    rfl) ha.slR.notR
  exact ⟨v2, h3, vs1, e3, w3 (x1.toExt.trans x2), ha.slR.ext m3.ext, hv1, (hl1.ext x2).ext m3.ext⟩

end Go.AM

end

section

/- An ear is added: the closure's loop. -/
namespace Go.AM
open Go.Proofs
variable {R : Type}
attribute [local simp] nx_eq nx_new nx_set blk_new blk_set asI_int asK_int asB_bool asP_ptr al_eq bx_eq len_slice onE_exit onE_ret onR_ret Value.cells cell_new cell_set rd_new rd_set off eq lt le ifB gv out ext20 ext21
/-- The edges that no ear has, and the nodes that one has. -/
structure HE (n : Nat) (gl : List Nat) (there bth blf : Nat) (h : H) : Prop where
  th : h.blk bth = some (.row [iv (there : Int)] 3 true)
  lf : ∃ lv, h.blk blf = some (.row [lv] 78 true) ∧ SlR h 3 1 lv (cellsN gl) ∧ blkOf lv ≠ some bth
  gb : GrB gl
  gn : gl.length = n
  tn : there < 2 ^ n
  l1 : bth < h.nx
  l2 : blf < h.nx

def stepE (m : List Nat) (i x : Nat) (s : List Nat × Nat) : List Nat × Nat := (if 0 < i then delE s.1 (nb m (i - 1)) x else s.1, s.2 ||| 2 ^ x)

set_option maxHeartbeats 1000000 in
theorem s86_l {n bth blf : Nat} {v0 : Value} {m gl : List Nat} {there : Nat} {h : H} (hm : ∀ x ∈ m, x < n) (hne : ∀ i, i + 1 < m.length → nb m i ≠ nb m (i + 1)) (hml : m.length ≤ 100) (h0 : SlR h 3 1 v0 (cellsN m)) (h0b : blkOf v0 ≠ some bth)
    (he : HE n gl there bth blf h) :
    ∃ w h', lpGo (f86_l1 rn 200 v0 (pt bth 0) (pt blf 0) m.length) 200 [iv 0] h = some (.exit 0, w, h') ∧ HE n (foldI (stepE m) m 0 (gl, there)).1 (foldI (stepE m) m 0 (gl, there)).2 bth blf h' ∧ h.nx ≤ h'.nx ∧ ∀ b, b < h.nx → b ≠ bth → b ≠ blf → h'.blk b = h.blk b := by
  obtain ⟨w, h', hl, _, he', hnx, hblk⟩ := lp_for (F := f86_l1 rn 200 v0 (pt bth 0) (pt blf 0) m.length) (k := 200) (l := m) (stepE m)
    (fun i s ws g => ws = [iv i] ∧ HE n s.1 s.2 bth blf g ∧ h.nx ≤ g.nx ∧ ∀ b, b < h.nx → b ≠ bth → b ≠ blf → g.blk b = h.blk b) 0 (ws := [iv 0]) (h := h) (s0 := (gl, there))
    ⟨rfl, he, Nat.le_refl _, fun _ _ _ _ => rfl⟩ (by omega)
    (by
      rintro s ws g ⟨rfl, _⟩
      simp [f86_l1])
    (by
      rintro i x ⟨gs, ts⟩ ws g hx ⟨rfl, hg, hnx, hblk⟩
      have hi := (List.getElem?_eq_some_iff.1 hx).1
      have hxn := hm x (List.mem_of_getElem? hx)
      have hadd : add .i64 (i : Int) 1 = ((i + 1 : Nat) : Int) := by rw [add64 (by omega) (by omega)]; omega
      dsimp only at hg
      obtain ⟨lv, l1, l2, l3⟩ := hg.lf
      have hlen := hg.gb.len
      have hgn : gs.length = n := hg.gn
      have hv0 : SlR g 3 1 v0 (cellsN m) := h0.keepB hnx fun b hb => by
        obtain ⟨z1, cs, o, z2⟩ := h0.blkR hb
        refine hblk b z1 (fun e => h0b (by rw [← e]; exact hb)) (fun e => ?_)
        obtain ⟨lv0, z3, _⟩ := he.lf
        rw [← e, z2] at z3
        cases z3
      have e1 : ∀ (K : Value → Option (Ex × List Value × H)), (six v0 (i : Int) 1 fun b o => ld Tryd.prog g 3 b o K) = K (iv (x : Int)) := fun K =>
        hv0.ld0 ag3 (by omega) (x := [iv (x : Int)]) (by simp [hx]) rfl K
      obtain ⟨g2, hg2⟩ : ∃ g2, g2 = g.set bth (.row [iv ((ts ||| 2 ^ x : Nat) : Int)] 3 true) := ⟨_, rfl⟩
      have hw : wrc 1 g bth 0 (.int .i64 ((ts ||| 2 ^ x : Nat) : Int)) = some g2 := by
        rw [hg2]; unfold wrc; rw [hg.th]; rfl
      have n2 : g2.nx = g.nx := by rw [hg2]; rfl
      have hbl : blf ≠ bth := by
        rintro rfl
        rw [hg.th] at l1; cases l1
      have k2 : ∀ b, b ≠ bth → g2.blk b = g.blk b := fun b hb => by rw [hg2]; exact blk_set_ne _ _ _ hb
      have hl2 : SlR g2 3 1 lv (cellsN gs) := l2.keepB (by omega) fun b hb => k2 b (fun e => l3 (by rw [← e]; exact hb))
      have hv2 : SlR g2 3 1 v0 (cellsN m) := hv0.keepB (by omega) fun b hb => k2 b (fun e => h0b (by rw [← e]; exact hb))
      have th2 : g2.blk bth = some (.row [iv ((ts ||| 2 ^ x : Nat) : Int)] 3 true) := by rw [hg2]; exact blk_set_self _ _ _
      have hor := or_calc2 hlen (by rw [hgn]; exact hg.tn) (by rw [hgn]; exact hxn)
      have htlt : ts ||| 2 ^ x < 2 ^ n := Nat.or_lt_two_pow hg.tn (Nat.pow_lt_pow_right (by omega) hxn)
      by_cases hi0 : 0 < i
      · obtain ⟨j, rfl⟩ : ∃ j, i = j + 1 := ⟨i - 1, by omega⟩
        have hsub : AM.sub .i64 ((j + 1 : Nat) : Int) 1 = (j : Int) := by rw [sub64 (by omega) (by omega)]; omega
        have hxe : nb m (j + 1) = x := by
          unfold nb
          rw [List.getD_eq_getElem?_getD, hx]; rfl
        have hjn : nb m j < n := by
          refine hm _ ?_
          unfold nb
          rw [List.getD_eq_getElem?_getD, List.getElem?_eq_getElem (by omega)]
          exact List.getElem_mem _
        have hab : nb m j ≠ x := by rw [← hxe]; exact hne j (by omega)
        obtain ⟨v9, g3, e87, x3, bb, hbb, hia⟩ := s87 (a := nb m j) (b := x) hg.gb (by omega) (by omega) hab hl2
        have e2 : ∀ (K : Value → Option (Ex × List Value × H)), (six v0 (j : Int) 1 fun b o => ld Tryd.prog g2 3 b o K) = K (iv (nb m j : Nat)) := fun K =>
          hv2.ld0 ag3 (by omega) (x := [iv (nb m j : Nat)]) (by rw [Int.toNat_natCast, List.getElem?_map]; unfold nb; rw [List.getD_eq_getElem?_getD, List.getElem?_eq_getElem (show j < m.length by omega)]; rfl) rfl K
        obtain ⟨c9, hv9, _⟩ := hia.val
        have x3n := x3.nx
        obtain ⟨g4, hg4⟩ : ∃ g4, g4 = g3.set blf (.row [v9] 78 true) := ⟨_, rfl⟩
        have hw3 : wrc 1 g3 blf 0 v9 = some g4 := by
          rw [hg4]; unfold wrc
          rw [x3.blk _ (by have := hg.l2; omega), k2 _ hbl, l1, hv9]; rfl
        have k4 : ∀ b, b ≠ blf → g4.blk b = g3.blk b := fun b hb => by rw [hg4]; exact blk_set_ne _ _ _ hb
        have n4 : g4.nx = g3.nx := by rw [hg4]; rfl
        have hbo : ∀ b, blkOf v9 = some b → b = bb := fun b hb => by rw [hv9] at hb; cases hb; rfl
        have hh1 := hg.l1
        have hh2 := hg.l2
        refine ⟨[iv ((j + 1 + 1 : Nat) : Int)], g4, ?_, rfl, ⟨?_, ⟨v9, ?_, ?_, ?_⟩, ?_, ?_, htlt, by omega, by omega⟩, by omega, fun b hb q1 q2 => ?_⟩
        · unfold f86_l1
          rw [show AM.gv [iv ((j + 1 : Nat) : Int)] 0 = iv ((j + 1 : Nat) : Int) from rfl, asI_int, lt_t (by omega), ifB_true, asK_int, e1, asI_int, asP_ptr, asP_ptr, d3, cell_of hg.th, show ([iv (ts : Int)] : List Value)[0]? = some (iv ts) from rfl, Option.bind_some, asI_int,
            nn_ge (show (0 : Int) ≤ (x : Int) by omega), asP_ptr, asP_ptr, hor, w3, hw, Option.bind_some, asI_int, lt_t (by omega), ifB_true, asP_ptr, asP_ptr, d78, cell_of ((k2 _ hbl).trans l1), show ([lv] : List Value)[0]? = some lv from rfl, Option.bind_some, asI_int, hsub, e2, asI_int, kbld32,
            calls_eq (xs := [lv, .agg #[iv (nb m j : Nat), iv x]]) e87, asP_ptr, asP_ptr, w78, hw3, Option.bind_some, asI_int, hadd]
          rfl
        · rw [k4 _ (fun e => hbl e.symm), x3.blk _ (by omega)]; exact th2
        · rw [hg4]; exact blk_set_self _ _ _
        · simp only [stepE, Nat.succ_pos, if_true, Nat.add_sub_cancel]
          exact hia.slN.keepB (by omega) fun b hb => k4 b (by have := hbo b hb; omega)
        · intro e
          have := hbo _ e
          omega
        · simp only [stepE, Nat.succ_pos, if_true, Nat.add_sub_cancel]
          exact hg.gb.delE _ _
        · simp only [stepE, Nat.succ_pos, if_true, Nat.add_sub_cancel]
          rw [delE_len]; exact hgn
        · rw [k4 b q2, x3.blk b (by omega), k2 b q1]
          exact hblk b hb q1 q2
      · have hi00 : i = 0 := by omega
        subst hi00
        refine ⟨[iv ((0 + 1 : Nat) : Int)], g2, ?_, rfl, ⟨th2, ⟨lv, (k2 _ hbl).trans l1, hl2, l3⟩, hg.gb, hgn, htlt, by have := hg.l1; omega, by have := hg.l2; omega⟩, by omega, fun b hb q1 q2 => ?_⟩
        · unfold f86_l1
          rw [show AM.gv [iv ((0 : Nat) : Int)] 0 = iv ((0 : Nat) : Int) from rfl, asI_int, lt_t (by omega), ifB_true, asK_int, e1, asI_int, asP_ptr, asP_ptr, d3, cell_of hg.th, show ([iv (ts : Int)] : List Value)[0]? = some (iv ts) from rfl, Option.bind_some, asI_int,
            nn_ge (show (0 : Int) ≤ (x : Int) by omega), asP_ptr, asP_ptr, hor, w3, hw, Option.bind_some, asI_int, show AM.lt 0 ((0 : Nat) : Int) = false from rfl, ifB_false, asI_int, hadd]
          rfl
        · rw [k2 b q1]
          exact hblk b hb q1 q2)
  exact ⟨w, h', hl, he', hnx, hblk⟩

end Go.AM

end

section

/- An ear is added: the closure. -/
namespace Go.AM
open Go.Proofs
variable {R : Type}
attribute [local simp] nx_eq nx_new nx_set blk_new blk_set asI_int asK_int asB_bool asP_ptr al_eq bx_eq len_slice onE_exit onE_ret onR_ret Value.cells cell_new cell_set rd_new rd_set off eq lt le ifB gv out ext20 ext21
theorem row_ty {a b : List Value} {e e' : TypeId} {o o' : Bool} (h : some (Blk.row a e o) = some (Blk.row b e' o')) : e = e' := by
  injection h with h; injection h

theorem trunc_turned {P : Program} {h h1 : H} {v : Value} {b : Nat} (hb : b < h.nx) (hne : h1.blk b ≠ h.blk b) : Sm h1 (trunc P h h1 v) := by
  unfold trunc
  rw [if_neg (fun hc => hne (hc b hb))]
  exact ⟨rfl, rfl⟩

theorem HE.keep {n : Nat} {gl : List Nat} {there bth blf : Nat} {h h' : H} (a : HE n gl there bth blf h) (hn : h.nx ≤ h'.nx) (h1 : h'.blk bth = h.blk bth) (h2 : h'.blk blf = h.blk blf) (hk : ∀ b cs o, b < h.nx → b ≠ bth → h.blk b = some (.row cs 3 o) → h'.blk b = h.blk b) : HE n gl there bth blf h' := by
  obtain ⟨lv, l1, l2, l3⟩ := a.lf
  refine ⟨h1.trans a.th, ⟨lv, h2.trans l1, l2.keepB hn fun b hb => ?_, l3⟩, a.gb, a.gn, a.tn, Nat.lt_of_lt_of_le a.l1 hn, Nat.lt_of_lt_of_le a.l2 hn⟩
  obtain ⟨z1, cs, o, z2⟩ := l2.blkR hb
  exact hk b cs o z1 (fun e => l3 (by rw [← e]; exact hb)) z2

theorem s86 {n bth blf bou lo : Nat} {p} {q r : Nat} {ov : Value} {m gl : List Nat} {there : Nat} {vs : List Value} {h : H} (hm : ∀ x ∈ m, x < n) (hne : ∀ i, i + 1 < m.length → nb m i ≠ nb m (i + 1)) (hml : m.length ≤ 100) (h0 : SlR h 3 1 (.slice p q r) (cellsN m)) (h0b : blkOf (.slice p q r) ≠ some bth)
    (he : HE n gl there bth blf h) (ho : h.blk bou = some (.row [ov] 56 true)) (hol : bou < h.nx) (hov : AqR lo h 102 1 ov (cellsV vs)) (hlo : lo ≤ h.nx) (hvl : vs.length ≤ 1000) :
    ∃ h' ov', rn 86 #[.slice p q r, pt bth 0, pt blf 0, pt bou 0] h = some (undef, h') ∧ HE n (foldI (stepE m) m 0 (gl, there)).1 (foldI (stepE m) m 0 (gl, there)).2 bth blf h' ∧ h'.blk bou = some (.row [ov'] 56 true) ∧ AqR lo h' 102 1 ov' (cellsV (vs ++ [.slice p q r])) ∧
      h.nx ≤ h'.nx ∧ ∀ b, b < h.nx → b ≠ bth → b ≠ blf → b ≠ bou → blkOf ov ≠ some b → h'.blk b = h.blk b := by
  have hn0 : ∀ {T : Type} (K : Int → Option T), len (.slice p q r) K = K (m.length : Int) := fun K => by rw [h0.len]; simp
  obtain ⟨w, h1, hl, he1, n1, k1⟩ := s86_l hm hne hml h0 h0b he
  obtain ⟨lv, lv1, _⟩ := he.lf
  have o1 : bou ≠ bth := by rintro rfl; rw [he.th] at ho; cases ho
  have o2 : bou ≠ blf := by rintro rfl; rw [lv1] at ho; cases ho
  have ho1 : h1.blk bou = some (.row [ov] 56 true) := (k1 _ hol o1 o2).trans ho
  have hov1 : AqR lo h1 102 1 ov (cellsV vs) := hov.keep n1 fun b hb => by
    obtain ⟨_, z1, z2⟩ := hov.blkOf hb
    refine k1 b z1 ?_ ?_ <;> rintro rfl
    · rw [he.th] at z2; exact absurd (row_ty z2) (by decide)
    · rw [lv1] at z2; exact absurd (row_ty z2) (by decide)
  obtain ⟨ov', h2, e2, a2, n2, k2, b', hb', hbn⟩ := hov1.push app56 app56 (bls56 (x := p) (y := q) (z := r)) rfl rfl (by rw [List.length_map]; omega) (by omega)
  have hoo : blkOf ov ≠ some bou := fun e => by
    have := (hov.blkOf e).2.2
    rw [ho] at this; exact absurd (row_ty this) (by decide)
  have ho2 : h2.blk bou = some (.row [ov] 56 true) := (k2 _ (by omega) hoo).trans ho1
  obtain ⟨h3, hh3⟩ : ∃ h3, h3 = h2.set bou (.row [ov'] 56 true) := ⟨_, rfl⟩
  have hcells := a2.cells
  have hw : wrc 1 h2 bou 0 ov' = some h3 := by
    rw [hh3]; obtain ⟨x, y, z, rfl⟩ := a2.isSl
    unfold wrc; rw [ho2]; rfl
  have k3 : ∀ b, b ≠ bou → h3.blk b = h2.blk b := fun b hb => by rw [hh3]; exact blk_set_ne _ _ _ hb
  have n3 : h3.nx = h2.nx := by rw [hh3]; rfl
  have ho3 : h3.blk bou = some (.row [ov'] 56 true) := by rw [hh3]; exact blk_set_self _ _ _
  have e86 := t86 (k := 200) (v0 := .slice p q r) (v1 := pt bth 0) (v2 := pt blf 0) (v3 := pt bou 0) (h := h) (h1 := h3) (v := undef) (by
    unfold f86
    rw [hn0]
    refine (lp_eq hl).trans ?_
    rw [onE_exit, if_pos rfl, asP_ptr, show ld Tryd.prog h1 56 bou 0 = fun (K : Value → Option (Value × H)) => (h1.cell bou 0).bind K from funext fun K => d56, cell_of ho1]
    simp only [Option.bind_some, List.getElem?_cons_zero]
    rw [e2, asP_ptr, w56, hw]
    rfl)
  have sm := trunc_turned (P := Tryd.prog) (v := undef) hol (h1 := h3) (h := h) (by
    rw [ho3, ho]
    intro e
    cases e
    have := (hov1.blkOf hb').2.1
    omega)
  have m1 := he1.l1
  have m2 := he1.l2
  have hkk : ∀ b, b < h1.nx → blkOf ov ≠ some b → b ≠ bou → h3.blk b = h1.blk b := fun b hb q1 q2 => by rw [k3 b q2, k2 b hb q1]
  have he3 := he1.keep (h' := h3) (by omega) (hkk _ m1 (fun e => by have := (hov1.blkOf e).2.2; rw [he1.th] at this; exact absurd (row_ty this) (by decide)) (fun e => o1 e.symm))
    (hkk _ m2 (fun e => by have := (hov1.blkOf e).2.2; obtain ⟨lv', q1, _⟩ := he1.lf; rw [q1] at this; exact absurd (row_ty this) (by decide)) (fun e => o2 e.symm))
    (fun b cs o z1 z2 z3 => hkk b z1 (fun e => by have := (hov1.blkOf e).2.2; rw [z3] at this; cases this) (fun e => by rw [e, ho1] at z3; cases z3))
  refine ⟨_, ov', e86, he3.keep (by rw [sm.nx]; exact Nat.le_refl _) (by rw [sm.blk]) (by rw [sm.blk]) (fun b _ _ _ _ _ => by rw [sm.blk]), by rw [sm.blk]; exact ho3, ?_, by rw [sm.nx]; omega, fun b hb q1 q2 q3 q4 => ?_⟩
  · have : cellsV (vs ++ [.slice p q r]) = cellsV vs ++ [[.slice p q r]] := by simp
    rw [this]
    refine (a2.keep (h' := h3) (by omega) fun b hb => k3 b ?_).ext sm.ext
    rintro rfl
    have := (a2.blkOf hb).2.2
    rw [ho2] at this; exact absurd (row_ty this) (by decide)
  · rw [sm.blk, hkk b (by omega) q4 q3, k1 b hb q1 q2]

end Go.AM

end

section

/- Ears, plainly: edges taken out along a way, how many they are, and what ears leave. -/
namespace Go.AM
open Go.Proofs
/-- A graph without the edges along a list. -/
def delP (gl : List Nat) : List Nat → List Nat
  | [] => gl
  | [_] => gl
  | a :: b :: m => delP (delE gl a b) (b :: m)

/-- Two nodes stand beside each other in a list. -/
def onP : List Nat → Nat → Nat → Prop
  | [], _, _ => False
  | [_], _, _ => False
  | a :: b :: m, x, y => (x = a ∧ y = b) ∨ (x = b ∧ y = a) ∨ onP (b :: m) x y

/-- A list walks along edges, each taken out once it was used. -/
def Tra (gl : List Nat) : List Nat → Prop
  | [] => True
  | [_] => True
  | a :: b :: m => adj gl a b = true ∧ Tra (delE gl a b) (b :: m)

/-- A list walks along edges. -/
def Ch (gl : List Nat) : List Nat → Prop
  | [] => True
  | [_] => True
  | a :: b :: m => adj gl a b = true ∧ Ch gl (b :: m)

theorem delP_len : ∀ (m gl : List Nat), (delP gl m).length = gl.length
  | [], _ => rfl
  | [_], _ => rfl
  | a :: b :: m, gl => by rw [delP, delP_len (b :: m), delE_len]

theorem setOf_cons (x : Nat) (l : List Nat) : setOf (x :: l) = setOf l ||| 2 ^ x := rfl

theorem fold_stepE {M : List Nat} : ∀ (m pre : List Nat) (g : List Nat) (t x : Nat), M = pre ++ x :: m →
    foldI (stepE M) m (pre.length + 1) (g, t) = (delP g (x :: m), t ||| setOf m) := by
  intro m
  induction m with
  | nil => intro pre g t x _; simp [foldI, delP, setOf]
  | cons y m ih =>
    intro pre g t x hM
    have hx : nb M (pre.length + 1 - 1) = x := by
      rw [hM, Nat.add_sub_cancel]; unfold nb
      rw [List.getD_eq_getElem?_getD, List.getElem?_append_right (Nat.le_refl _), Nat.sub_self]; rfl
    have h2 := ih (pre ++ [x]) (delE g x y) (t ||| 2 ^ y) y (by rw [hM]; simp)
    rw [List.length_append, List.length_singleton] at h2
    rw [foldI, stepE, if_pos (Nat.succ_pos _), hx, h2, delP, setOf_cons, Nat.or_assoc, Nat.or_comm (2 ^ y)]

theorem fold_ear {m gl : List Nat} {there : Nat} : foldI (stepE m) m 0 (gl, there) = (delP gl m, there ||| setOf m) := by
  cases m with
  | nil => simp [foldI, delP, setOf]
  | cons x m =>
    rw [foldI, stepE, if_neg (by omega)]
    have := fold_stepE (M := x :: m) m [] gl (there ||| 2 ^ x) x rfl
    rw [List.length_nil] at this
    rw [this, setOf_cons, Nat.or_assoc, Nat.or_comm (2 ^ x)]

theorem GrN.delE {g : List Nat} (hg : GrN g) {a b : Nat} (hab : adj g a b = true) : GrN (delE g a b) := by
  obtain ⟨ha, hb⟩ := hg.adj_lt hab
  have hne : a ≠ b := by rintro rfl; rw [hg.irr] at hab; cases hab
  refine ⟨hg.toGrB.delE a b, by rw [delE_len]; exact hg.pos, fun x => ?_, fun x y => ?_⟩
  · rw [adj_delE ha hb hne, hg.irr]; rfl
  · rw [adj_delE ha hb hne, adj_delE ha hb hne, hg.sym x y]
    congr 2
    rw [Bool.or_comm]
    congr 1 <;> exact decide_eq_decide.2 ⟨fun h => ⟨h.2, h.1⟩, fun h => ⟨h.2, h.1⟩⟩

theorem GrN.delP : ∀ (m : List Nat) {g : List Nat}, GrN g → Tra g m → GrN (delP g m)
  | [], _, hg, _ => hg
  | [_], _, hg, _ => hg
  | _ :: b :: m, _, hg, ht => GrN.delP (b :: m) (hg.delE ht.1) ht.2

theorem adj_delP : ∀ (m : List Nat) {g : List Nat}, GrN g → Tra g m → ∀ x y, adj (delP g m) x y = true ↔ adj g x y = true ∧ ¬ onP m x y
  | [], _, _, _ => fun x y => by simp [delP, onP]
  | [_], _, _, _ => fun x y => by simp [delP, onP]
  | a :: b :: m, g, hg, ht => fun x y => by
    obtain ⟨ha, hb⟩ := hg.adj_lt ht.1
    have hne : a ≠ b := by rintro rfl; have := ht.1; rw [hg.irr] at this; cases this
    rw [delP, adj_delP (b :: m) (hg.delE ht.1) ht.2, adj_delE ha hb hne, onP, Bool.and_eq_true, Bool.not_eq_true', Bool.or_eq_false_iff, decide_eq_false_iff_not, decide_eq_false_iff_not]
    constructor
    · rintro ⟨⟨h1, h2, h3⟩, h4⟩
      exact ⟨h1, fun h => h.elim h2 fun h => h.elim h3 h4⟩
    · rintro ⟨h1, h2⟩
      exact ⟨⟨h1, fun h => h2 (.inl h), fun h => h2 (.inr (.inl h))⟩, fun h => h2 (.inr (.inr h))⟩

theorem onP_mem : ∀ (m : List Nat) {x y : Nat}, onP m x y → x ∈ m ∧ y ∈ m
  | [], _, _ => fun h => h.elim
  | [_], _, _ => fun h => h.elim
  | a :: b :: m, x, y => fun h => by
    rcases h with ⟨rfl, rfl⟩ | ⟨rfl, rfl⟩ | h
    · simp
    · simp
    · obtain ⟨h1, h2⟩ := onP_mem (b :: m) h
      exact ⟨List.mem_cons_of_mem _ h1, List.mem_cons_of_mem _ h2⟩

/-- Edges that are told twice: once from each end. -/
def dsum (g : List Nat) : Nat := (g.map pop).sum

theorem sum_set : ∀ (l : List Nat) (i x : Nat), i < l.length → ((l.set i x).map pop).sum + pop (nb l i) = (l.map pop).sum + pop x
  | [], i, x => fun h => by simp at h
  | y :: l, 0, x => fun _ => by simp [nb]; omega
  | y :: l, i + 1, x => fun h => by
    have := sum_set l i x (by simpa using h)
    have e : nb (y :: l) (i + 1) = nb l i := rfl
    simp only [List.set_cons_succ, List.map_cons, List.sum_cons, e]
    omega

theorem pop_take {S b : Nat} (hS : S < 1024) (h : S.testBit b = true) : pop (without S (2 ^ b)) + 1 = pop S := by
  have hp : (elts S).filter (fun i => decide (i = b)) = [b] := by
    have hm : b ∈ elts S := (mem_elts hS).2 h
    have hnd := elts_nodup S
    generalize elts S = l at hm hnd
    induction l with
    | nil => cases hm
    | cons x l ih =>
      rw [List.nodup_cons] at hnd
      rw [List.mem_cons] at hm
      rw [List.filter_cons]
      by_cases hx : x = b
      · subst hx
        rw [if_pos (by simp)]
        congr 1
        rw [List.filter_eq_nil_iff]
        intro y hy
        simp only [decide_eq_true_eq]
        rintro rfl
        exact hnd.1 hy
      · rw [if_neg (by simpa using hx)]
        exact ih (hm.resolve_left fun e => hx e.symm) hnd.2
  have h1 : pop S = (elts S).countP (fun i => decide (i = b)) + (elts S).countP (fun i => !decide (i = b)) := by
    rw [← elts_len, List.length_eq_countP_add_countP (fun i => decide (i = b))]
    congr 1
    exact List.countP_congr fun i _ => by simp
  have h2 : pop (without S (2 ^ b)) = (elts S).countP (fun i => !decide (i = b)) := by
    unfold pop elts
    rw [List.countP_filter]
    refine List.countP_congr fun i _ => ?_
    rw [bit_del]
    simp [and_comm]
  rw [h1, h2, List.countP_eq_length_filter (p := fun i => decide (i = b)), hp]
  simp; omega

theorem dsum_delE {g : List Nat} (hg : GrN g) {a b : Nat} (hab : adj g a b = true) : dsum (delE g a b) + 2 = dsum g := by
  obtain ⟨ha, hb⟩ := hg.adj_lt hab
  have hne : a ≠ b := by rintro rfl; rw [hg.irr] at hab; cases hab
  have hpow := hg.pow
  have h1 := sum_set g a (without (nb g a) (2 ^ b)) ha
  have h2 := sum_set (g.set a (without (nb g a) (2 ^ b))) b (without (nb g b) (2 ^ a)) (by simpa using hb)
  have e : nb (g.set a (without (nb g a) (2 ^ b))) b = nb g b := by rw [nb_set ha, if_neg (fun e => hne e.symm)]
  have p1 := pop_take (S := nb g a) (b := b) (Nat.lt_of_lt_of_le (hg.nb_lt a) hpow) hab
  have p2 := pop_take (S := nb g b) (b := a) (Nat.lt_of_lt_of_le (hg.nb_lt b) hpow) (by have := hg.sym a b; rw [hab] at this; exact this.symm)
  rw [e] at h2
  unfold dsum AM.delE
  omega

theorem dsum_delP : ∀ (m : List Nat) {g : List Nat}, GrN g → Tra g m → m ≠ [] → dsum (delP g m) + 2 * (m.length - 1) = dsum g
  | [], _, _, _ => fun h => absurd rfl h
  | [_], _, _, _ => fun _ => by simp [delP]
  | a :: b :: m, g, hg, ht => fun _ => by
    have := dsum_delP (b :: m) (hg.delE ht.1) ht.2 (by simp)
    have h2 := dsum_delE hg ht.1
    rw [delP]
    simp only [List.length_cons] at this ⊢
    omega

theorem dsum_zero {g : List Nat} (hg : GrN g) : dsum g = 0 ↔ edgesP g = [] := by
  constructor
  · intro h
    rw [List.eq_nil_iff_forall_not_mem]
    intro e he
    obtain ⟨h1, h2, h3⟩ := mem_edges.1 he
    have := dsum_delE hg h3
    omega
  · intro h
    unfold dsum
    have hz : ∀ l : List Nat, (∀ x ∈ l, x = 0) → l.sum = 0 := by
      intro l
      induction l with
      | nil => intro _; rfl
      | cons y l ih => intro hl; rw [List.sum_cons, hl y List.mem_cons_self, ih fun x hx => hl x (List.mem_cons_of_mem _ hx)]
    refine hz _ fun x hx => ?_
    obtain ⟨y, hy, rfl⟩ := List.mem_map.1 hx
    obtain ⟨i, hi, rfl⟩ := List.mem_iff_getElem.1 hy
    refine Classical.byContradiction fun hc => ?_
    have hp : 0 < pop g[i] := Nat.pos_of_ne_zero hc
    obtain ⟨j, _, hj⟩ := List.countP_pos_iff.1 hp
    have hij : adj g i j = true := by
      unfold adj nb; rw [List.getD_eq_getElem?_getD, List.getElem?_eq_getElem hi]; exact hj
    obtain ⟨_, hjl⟩ := hg.adj_lt hij
    have hne : i ≠ j := by rintro rfl; rw [hg.irr] at hij; cases hij
    have : ∃ e, e ∈ edgesP g := by
      rcases Nat.lt_or_ge i j with h | h
      · exact ⟨(i, j), mem_edges.2 ⟨h, hjl, hij⟩⟩
      · exact ⟨(j, i), mem_edges.2 ⟨by omega, hi, by have := hg.sym i j; rw [hij] at this; exact this.symm⟩⟩
    obtain ⟨e, he⟩ := this
    rw [h] at he; cases he

/-- A walk without a node twice uses no edge twice. -/
theorem tr_of : ∀ (m : List Nat) {g : List Nat}, GrN g → Ch g m → m.Nodup → Tra g m
  | [], _, _, _ => fun _ => trivial
  | [_], _, _, _ => fun _ => trivial
  | a :: b :: m, g, hg, hc => fun hn => by
    refine ⟨hc.1, tr_of (b :: m) (hg.delE hc.1) ?_ (List.nodup_cons.1 hn).2⟩
    obtain ⟨ha, hb⟩ := hg.adj_lt hc.1
    have hne : a ≠ b := by rintro rfl; have := hc.1; rw [hg.irr] at this; cases this
    have : ∀ (l : List Nat), a ∉ l → Ch g l → Ch (delE g a b) l := by
      intro l
      induction l with
      | nil => intro _ _; trivial
      | cons x l ih =>
        intro hm hl
        cases l with
        | nil => trivial
        | cons y l =>
          refine ⟨?_, ih (fun h => hm (List.mem_cons_of_mem _ h)) hl.2⟩
          rw [adj_delE ha hb hne, hl.1, Bool.true_and, Bool.not_eq_true', Bool.or_eq_false_iff, decide_eq_false_iff_not, decide_eq_false_iff_not]
          exact ⟨fun e => hm (by rw [e.1]; exact List.mem_cons_self), fun e => hm (by rw [e.2]; simp)⟩
    exact this _ (List.nodup_cons.1 hn).1 hc.2

theorem Tra.ch : ∀ (m : List Nat) {g : List Nat}, GrN g → Tra g m → Ch g m
  | [], _, _, _ => trivial
  | [_], _, _, _ => trivial
  | a :: b :: m, g, hg, ht => by
    refine ⟨ht.1, ?_⟩
    have h1 := Tra.ch (b :: m) (hg.delE ht.1) ht.2
    obtain ⟨ha, hb⟩ := hg.adj_lt ht.1
    have hne : a ≠ b := by rintro rfl; have := ht.1; rw [hg.irr] at this; cases this
    have : ∀ (l : List Nat), Ch (delE g a b) l → Ch g l := by
      intro l
      induction l with
      | nil => intro _; trivial
      | cons x l ih =>
        intro hl
        cases l with
        | nil => trivial
        | cons y l =>
          refine ⟨?_, ih hl.2⟩
          have := hl.1
          rw [adj_delE ha hb hne, Bool.and_eq_true] at this
          exact this.1
    exact this _ h1

theorem ch_of {g : List Nat} : ∀ (m : List Nat), (∀ i, i + 1 < m.length → adj g (nb m i) (nb m (i + 1)) = true) → Ch g m
  | [], _ => trivial
  | [_], _ => trivial
  | a :: b :: m, h => ⟨h 0 (by simp), ch_of (b :: m) fun i hi => h (i + 1) (by simpa using hi)⟩

theorem ch_get {g : List Nat} : ∀ (m : List Nat), Ch g m → ∀ i, i + 1 < m.length → adj g (nb m i) (nb m (i + 1)) = true
  | [], _, i, hi => by simp at hi
  | [_], _, i, hi => by simp at hi
  | a :: b :: m, h, 0, _ => h.1
  | a :: b :: m, h, i + 1, hi => ch_get (b :: m) h.2 i (by simpa using hi)

theorem nb_rev {l : List Nat} {i : Nat} (hi : i < l.length) : nb l.reverse i = nb l (l.length - 1 - i) := by
  unfold nb
  rw [List.getD_eq_getElem?_getD, List.getD_eq_getElem?_getD, List.getElem?_reverse hi]

theorem WayB.ch {g : List Nat} {a W to : Nat} {l : List Nat} (w : WayB g a W to l) : Ch g l.reverse := by
  refine ch_of _ fun i hi => ?_
  rw [List.length_reverse] at hi
  rw [nb_rev (by omega), nb_rev hi]
  have := w.chain (l.length - 1 - (i + 1)) (by omega)
  rw [show l.length - 1 - (i + 1) + 1 = l.length - 1 - i by omega] at this
  exact this

end Go.AM

end

section

/- Ears, plainly: what a list of ears is, what it leaves, and that one more can be found. -/
namespace Go.AM
open Go.Proofs
/-- The first ear: a cycle. -/
structure Ear1 (g m : List Nat) : Prop where
  len : 4 ≤ m.length
  ends : m.head? = m.getLast?
  nodup : m.dropLast.Nodup
  tr : Tra g m
  lt : ∀ x ∈ m, x < g.length

/-- A further ear: from what is there, through what is not, to what is there. -/
structure Ear2 (n : Nat) (left : List Nat) (there : Nat) (m : List Nat) : Prop where
  len : 2 ≤ m.length
  nodup : m.Nodup
  tr : Tra left m
  bits : ∀ i, i < m.length → (there.testBit (nb m i) = true ↔ i = 0 ∨ i + 1 = m.length)
  lt : ∀ x ∈ m, x < n

/-- Ears, one after the other: the edges that they leave and the nodes that they have. -/
inductive EL (g : List Nat) : List (List Nat) → List Nat → Nat → Prop
  | first {m : List Nat} : Ear1 g m → EL g [m] (delP g m) (setOf m)
  | next {es : List (List Nat)} {left : List Nat} {there : Nat} {m : List Nat} : EL g es left there → Ear2 g.length left there m → EL g (es ++ [m]) (delP left m) (there ||| setOf m)

theorem pop_put {S x : Nat} (hS : S < 1024) (hx : x < 10) (h : S.testBit x = false) : pop (S ||| 2 ^ x) = pop S + 1 := by
  have h1 : S ||| 2 ^ x < 1024 := Nat.or_lt_two_pow (n := 10) hS (Nat.pow_lt_pow_right (by omega) hx)
  have h2 := pop_take (S := S ||| 2 ^ x) (b := x) h1 (by rw [Nat.testBit_or, Nat.testBit_two_pow_self, Bool.or_true])
  have h3 : without (S ||| 2 ^ x) (2 ^ x) = S := by
    refine Nat.eq_of_testBit_eq fun i => ?_
    rw [Bool.eq_iff_iff, bit_del, Nat.testBit_or, Nat.testBit_two_pow, Bool.or_eq_true, decide_eq_true_iff]
    constructor
    · rintro ⟨h1 | h1, h2⟩
      · exact h1
      · exact absurd h1.symm h2
    · intro h1
      exact ⟨.inl h1, fun e => by rw [e, h] at h1; cases h1⟩
  rw [h3] at h2
  exact h2.symm

theorem pop_orL {t : Nat} (ht : t < 1024) : ∀ m : List Nat, m.Nodup → (∀ x ∈ m, x < 10) → pop (t ||| setOf m) = pop t + m.countP fun v => !t.testBit v
  | [], _, _ => by simp [setOf]
  | x :: m, hn, hl => by
    rw [List.nodup_cons] at hn
    have ih := pop_orL ht m hn.2 fun y hy => hl y (List.mem_cons_of_mem _ hy)
    have hx := hl x List.mem_cons_self
    have hlt : t ||| setOf m < 1024 := Nat.or_lt_two_pow (n := 10) ht (setOf_lt fun y hy => hl y (List.mem_cons_of_mem _ hy))
    rw [setOf_cons, ← Nat.or_assoc, List.countP_cons]
    cases hb : t.testBit x with
    | true =>
      have : t ||| setOf m ||| 2 ^ x = t ||| setOf m := by
        refine Nat.eq_of_testBit_eq fun i => ?_
        rw [Nat.testBit_or, Nat.testBit_two_pow, Bool.eq_iff_iff, Bool.or_eq_true, decide_eq_true_iff]
        refine ⟨fun h => h.elim id ?_, .inl⟩
        rintro rfl
        rw [Nat.testBit_or, hb]; rfl
      rw [this, ih]; simp
    | false =>
      rw [pop_put hlt hx (by
        rw [Nat.testBit_or, hb, Bool.false_or]
        exact Bool.eq_false_iff.2 fun h => hn.1 (setOf_bit.1 h)), ih]
      simp; omega

theorem pop_setOf {m : List Nat} (hn : m.Nodup) (hl : ∀ x ∈ m, x < 10) : pop (setOf m) = m.length := by
  have := pop_orL (t := 0) (by omega) m hn hl
  rw [Nat.zero_or] at this
  rw [this]
  have h0 : pop 0 = 0 := by decide
  rw [h0, List.countP_eq_length.2 (by simp)]
  omega

theorem snoc_of {m : List Nat} (h : m ≠ []) : ∃ p z, m = p ++ [z] := ⟨m.dropLast, m.getLast h, (List.dropLast_concat_getLast h).symm⟩

theorem nb_snoc (p : List Nat) (z : Nat) : nb (p ++ [z]) p.length = z := by
  unfold nb; rw [List.getD_eq_getElem?_getD, List.getElem?_append_right (Nat.le_refl _), Nat.sub_self]; rfl

theorem nb_app {p q : List Nat} {i : Nat} (h : i < p.length) : nb (p ++ q) i = nb p i := by
  unfold nb; rw [List.getD_eq_getElem?_getD, List.getD_eq_getElem?_getD, List.getElem?_append_left h]

theorem nb_mem {m : List Nat} {i : Nat} (h : i < m.length) : nb m i ∈ m := by
  unfold nb; rw [List.getD_eq_getElem?_getD, List.getElem?_eq_getElem h]; exact List.getElem_mem h

theorem mem_nb {m : List Nat} {x : Nat} (h : x ∈ m) : ∃ i, i < m.length ∧ nb m i = x := by
  obtain ⟨i, hi, rfl⟩ := List.mem_iff_getElem.1 h
  exact ⟨i, hi, by unfold nb; rw [List.getD_eq_getElem?_getD, List.getElem?_eq_getElem hi]; rfl⟩

theorem nodup_rev {l : List Nat} : l.reverse.Nodup ↔ l.Nodup := (List.reverse_perm l).nodup_iff

/-- A further ear has its two ends among what is there, and no more. -/
theorem Ear2.count {n : Nat} {left : List Nat} {there : Nat} {m : List Nat} (e : Ear2 n left there m) : m.countP (fun v => !there.testBit v) + 2 = m.length := by
  have hl := e.len
  cases m with
  | nil => simp at hl
  | cons a m =>
    cases m with
    | nil => simp at hl
    | cons b m =>
      obtain ⟨p, z, hp⟩ := snoc_of (m := b :: m) (by simp)
      rw [hp] at e ⊢
      have ha := (e.bits 0 (by simp)).2 (.inl rfl)
      have hz := (e.bits (p.length + 1) (by simp)).2 (.inr (by simp))
      have ha' : there.testBit a = true := ha
      have hz' : there.testBit z = true := by
        have : nb (a :: (p ++ [z])) (p.length + 1) = nb (p ++ [z]) p.length := rfl
        rw [this, nb_snoc] at hz
        exact hz
      have hmid : p.countP (fun v => !there.testBit v) = p.length := by
        rw [List.countP_eq_length]
        intro x hx
        obtain ⟨i, hi, rfl⟩ := mem_nb hx
        have h1 := e.bits (i + 1) (by simp; omega)
        have : nb (a :: (p ++ [z])) (i + 1) = nb p i := nb_app hi
        rw [this] at h1
        rw [Bool.not_eq_true']
        exact Bool.eq_false_iff.2 fun h => by
          have := h1.1 h
          simp at this
          omega
      rw [List.countP_cons, List.countP_append, hmid, List.countP_cons, ha', hz']
      simp

structure EI (g : List Nat) (k : Nat) (left : List Nat) (there : Nat) : Prop where
  gr : GrN left
  len : left.length = g.length
  sub : ∀ x y, adj left x y = true → adj g x y = true
  used : ∀ x y, adj g x y = true → adj left x y = true ∨ (there.testBit x = true ∧ there.testBit y = true)
  tn : there < 2 ^ g.length
  two : 2 ≤ pop there
  sum : dsum left + 2 * (pop there + k) = dsum g + 2

theorem Ear1.snoc {g m : List Nat} (e : Ear1 g m) : ∃ a p, m = a :: (p ++ [a]) ∧ (a :: p).Nodup ∧ 2 ≤ p.length := by
  have hl := e.len
  have hh := e.ends
  have hn := e.nodup
  cases m with
  | nil => simp at hl
  | cons a m =>
    obtain ⟨p, z, rfl⟩ := snoc_of (m := m) (by rintro rfl; simp at hl)
    rw [List.head?_cons, ← List.cons_append, List.getLast?_concat, Option.some.injEq] at hh
    rw [← List.cons_append, List.dropLast_concat] at hn
    subst hh
    refine ⟨a, p, rfl, hn, ?_⟩
    simp at hl
    omega

theorem EL.inv {g : List Nat} (hg : GrN g) {es : List (List Nat)} {left : List Nat} {there : Nat} (h : EL g es left there) : EI g es.length left there := by
  have hpow := hg.pow
  have hlen := hg.len
  induction h with
  | @first m e =>
    obtain ⟨a, p, rfl, hn, hp⟩ := e.snoc
    have hset : setOf (a :: (p ++ [a])) = setOf (a :: p) := Nat.eq_of_testBit_eq fun i => by
      rw [Bool.eq_iff_iff, setOf_bit, setOf_bit]
      simp only [List.mem_cons, List.mem_append, List.not_mem_nil, or_false]
      exact ⟨fun h => h.elim .inl fun h => h.elim .inr .inl, fun h => h.elim .inl fun h => .inr (.inl h)⟩
    have hpop : pop (setOf (a :: (p ++ [a]))) = p.length + 1 := by
      rw [hset, pop_setOf hn fun x hx => Nat.lt_of_lt_of_le (e.lt x (by rw [← List.cons_append]; exact List.mem_append_left _ hx)) hlen]
      rfl
    have hd := dsum_delP _ hg e.tr (by simp)
    refine ⟨hg.delP _ e.tr, delP_len _ _, fun x y h => ((adj_delP _ hg e.tr x y).1 h).1, fun x y h => ?_, setOf_lt e.lt, by omega, ?_⟩
    · by_cases ho : onP (a :: (p ++ [a])) x y
      · obtain ⟨h1, h2⟩ := onP_mem _ ho
        exact .inr ⟨setOf_bit.2 h1, setOf_bit.2 h2⟩
      · exact .inl ((adj_delP _ hg e.tr x y).2 ⟨h, ho⟩)
    · rw [hpop]
      simp only [List.length_cons, List.length_append, List.length_nil] at hd ⊢
      omega
  | @next es left there m hEL e ih =>
    have hd := dsum_delP _ ih.gr e.tr (by have := e.len; rintro rfl; simp at this)
    have hc := e.count
    have hpop := pop_orL (t := there) (Nat.lt_of_lt_of_le ih.tn hpow) m e.nodup fun x hx => Nat.lt_of_lt_of_le (e.lt x hx) hlen
    refine ⟨ih.gr.delP _ e.tr, (delP_len _ _).trans ih.len, fun x y h => ih.sub x y ((adj_delP _ ih.gr e.tr x y).1 h).1, fun x y h => ?_, Nat.or_lt_two_pow ih.tn (setOf_lt e.lt), by have := ih.two; omega, ?_⟩
    · rcases ih.used x y h with h1 | ⟨h1, h2⟩
      · by_cases ho : onP m x y
        · obtain ⟨h1, h2⟩ := onP_mem _ ho
          exact .inr ⟨by rw [Nat.testBit_or, setOf_bit.2 h1, Bool.or_true], by rw [Nat.testBit_or, setOf_bit.2 h2, Bool.or_true]⟩
        · exact .inl ((adj_delP _ ih.gr e.tr x y).2 ⟨h1, ho⟩)
      · exact .inr ⟨by rw [Nat.testBit_or, h1]; rfl, by rw [Nat.testBit_or, h2]; rfl⟩
    · have := ih.sum
      have := e.len
      rw [List.length_append, List.length_singleton]
      omega

theorem bit_all {g : List Nat} {x : Nat} (h : x < g.length) : (allN g).testBit x = true := by rw [allN_bit, decide_eq_true h]

/-- Where an edge is left, one of them begins at a node that is there. -/
theorem EI.more {g : List Nat} (hg : GrN g) (hb : Bi g (allN g)) {k : Nat} {left : List Nat} {there : Nat} (e : EI g k left there) (hne : edgesP left ≠ []) : ∃ u, there.testBit u = true ∧ nb left u ≠ 0 := by
  have hpow := hg.pow
  have ht1024 := Nat.lt_of_lt_of_le e.tn hpow
  obtain ⟨q, hq⟩ : ∃ q, q ∈ edgesP left := List.exists_mem_of_ne_nil _ hne
  obtain ⟨h1, h2, h3⟩ := mem_edges.1 hq
  obtain ⟨v0, hv0, _⟩ := exists_other1 (a := 0) ht1024 (by have := e.two; omega)
  have hc1 : q.1 < g.length := by rw [← e.len]; omega
  have hr := hb.conn (Nat.lt_of_lt_of_le (allN_lt g) hpow) v0 q.1 (bit_all (bit_lt e.tn hv0)) (bit_all hc1)
  have hne0 : ∀ x y, adj left x y = true → nb left x ≠ 0 := fun x y h h0 => by unfold adj at h; rw [h0] at h; simp at h
  have : ∀ z, Rch g (allN g) v0 z → there.testBit z = true ∨ ∃ u, there.testBit u = true ∧ nb left u ≠ 0 := by
    intro z hz
    induction hz with
    | base => exact .inl hv0
    | @step a b _ hab _ ih =>
      rcases ih with ih | ih
      · rcases e.used a b hab with h | h
        · exact .inr ⟨a, ih, hne0 a b h⟩
        · exact .inl h.2
      · exact .inr ih
  rcases this _ hr with h | h
  · exact ⟨q.1, h, hne0 _ _ h3⟩
  · exact h

/-- Where no edge is left, all nodes are there. -/
theorem EI.done {g : List Nat} (hg : GrN g) (hb : Bi g (allN g)) {k : Nat} {left : List Nat} {there : Nat} (e : EI g k left there) (he : edgesP left = []) : there = allN g ∧ dsum g + 2 = 2 * (g.length + k) := by
  have hpow := hg.pow
  have ht1024 := Nat.lt_of_lt_of_le e.tn hpow
  have hd0 := (dsum_zero e.gr).2 he
  have hno : ∀ x y, adj left x y = false := by
    intro x y
    refine Bool.eq_false_iff.2 fun h => ?_
    have := dsum_delE e.gr h
    omega
  obtain ⟨v0, hv0, _⟩ := exists_other1 (a := 0) ht1024 (by have := e.two; omega)
  have : there = allN g := by
    refine set_ext e.tn (allN_lt g) fun i hi => ?_
    rw [bit_all hi]
    have hr := hb.conn (Nat.lt_of_lt_of_le (allN_lt g) hpow) v0 i (bit_all (bit_lt e.tn hv0)) (bit_all hi)
    induction hr with
    | base => exact hv0
    | @step a b _ hab _ ih =>
      rcases e.used a b hab with h | h
      · rw [hno] at h; cases h
      · exact h.2
  refine ⟨this, ?_⟩
  have h1 := e.sum
  rw [hd0, this, show pop (allN g) = g.length from (pop_all hg.len).1] at h1
  omega

/-- A way that was found makes an ear. -/
theorem EI.ear {g : List Nat} (hg : GrN g) {k : Nat} {left : List Nat} {there : Nat} (e : EI g k left there) {u w W to x : Nat} {l : List Nat} (hu : there.testBit u = true) (huw : adj left u w = true)
    (hto : ∀ i, to.testBit i = true ↔ there.testBit i = true ∧ i ≠ u) (hW : ∀ i, W.testBit i = true → i ≠ u) (way : WayB g w W to l) (hh : l.head? = some x) (hx : to.testBit x = true) : Ear2 g.length left there (u :: l.reverse) := by
  have hun := bit_lt e.tn hu
  have hne : l ≠ [] := by rintro rfl; simp at hh
  have hl0 : 0 < l.length := List.length_pos_iff.2 hne
  obtain ⟨y, l', rfl⟩ : ∃ y l', l = y :: l' := by
    cases l with
    | nil => exact absurd rfl hne
    | cons y l' => exact ⟨y, l', rfl⟩
  simp only [List.head?_cons, Option.some.injEq] at hh
  subst hh
  have huw' : u ≠ w := by rintro rfl; rw [e.gr.irr] at huw; cases huw
  have hlast := way.last
  have hul : u ∉ y :: l' := by
    intro hm
    obtain ⟨p, z, hp⟩ := snoc_of (m := y :: l') (by simp)
    rw [hp, List.getLast?_concat, Option.some.injEq] at hlast
    have hW' := way.inW
    rw [hp, List.dropLast_concat] at hW'
    rw [hp, List.mem_append, List.mem_singleton] at hm
    rcases hm with h | h
    · exact hW u (hW' u h) rfl
    · exact huw' (h.trans hlast)
  have hnb : ∀ i, i < (y :: l').length → nb (y :: l').reverse i = nb (y :: l') ((y :: l').length - 1 - i) := fun i hi => nb_rev hi
  have hbit : ∀ i, i < (y :: l').length → (there.testBit (nb (y :: l').reverse i) = true ↔ i + 1 = (y :: l').length) := by
    intro i hi
    rw [hnb i hi]
    simp only [List.length_cons] at hi ⊢
    constructor
    · intro hb
      refine Classical.byContradiction fun hc => ?_
      have hm : nb (y :: l') (l'.length + 1 - 1 - i) ∈ l' := by
        obtain ⟨j, hj⟩ : ∃ j, l'.length + 1 - 1 - i = j + 1 := ⟨l'.length - i - 1, by omega⟩
        rw [hj]
        exact nb_mem (m := l') (by omega)
      have h1 := way.noTo _ hm
      have h2 := (hto (nb (y :: l') (l'.length + 1 - 1 - i))).2 ⟨hb, fun e => hul (by rw [← e]; exact List.mem_cons_of_mem _ hm)⟩
      rw [h1] at h2; cases h2
    · intro hi2
      rw [show l'.length + 1 - 1 - i = 0 by omega]
      exact ((hto y).1 hx).1
  refine ⟨by simp, List.nodup_cons.2 ⟨by rw [List.mem_reverse]; exact hul, nodup_rev.2 way.nodup⟩, ?_, ?_, ?_⟩
  · refine tr_of _ e.gr (ch_of _ fun i hi => ?_) (List.nodup_cons.2 ⟨by rw [List.mem_reverse]; exact hul, nodup_rev.2 way.nodup⟩)
    cases i with
    | zero =>
      have : nb (u :: (y :: l').reverse) (0 + 1) = w := by
        have h1 : nb (u :: (y :: l').reverse) (0 + 1) = nb (y :: l').reverse 0 := rfl
        rw [h1]
        obtain ⟨p, z, hp⟩ := snoc_of (m := y :: l') (by simp)
        rw [hp, List.getLast?_concat, Option.some.injEq] at hlast
        rw [hp, List.reverse_append, hlast]; rfl
      rw [this]; exact huw
    | succ i =>
      have h1 : ∀ j, nb (u :: (y :: l').reverse) (j + 1) = nb (y :: l').reverse j := fun _ => rfl
      rw [h1, h1]
      simp only [List.length_cons, List.length_reverse] at hi
      have hadj := ch_get _ way.ch i (by rw [List.length_reverse, List.length_cons]; omega)
      rcases e.used _ _ hadj with h | ⟨h, _⟩
      · exact h
      · have := (hbit i (by rw [List.length_cons]; omega)).1 h
        rw [List.length_cons] at this
        omega
  · intro i hi
    cases i with
    | zero => exact ⟨fun _ => .inl rfl, fun _ => hu⟩
    | succ i =>
      have h1 : nb (u :: (y :: l').reverse) (i + 1) = nb (y :: l').reverse i := rfl
      simp only [List.length_cons, List.length_reverse] at hi
      rw [h1, hbit i (by rw [List.length_cons]; omega)]
      simp only [List.length_cons, List.length_reverse]
      omega
  · intro z hz
    rw [List.mem_cons, List.mem_reverse] at hz
    rcases hz with rfl | hz
    · exact hun
    · exact way.lt z hz

/-- There is a way for an ear. -/
theorem EI.way {g : List Nat} (hg : GrN g) (hb : Bi g (allN g)) {k : Nat} {left : List Nat} {there : Nat} (e : EI g k left there) {u w W to : Nat} (hu : there.testBit u = true) (huw : adj left u w = true)
    (hto : ∀ i, to.testBit i = true ↔ there.testBit i = true ∧ i ≠ u) (hW : ∀ i, i < g.length → i ≠ u → W.testBit i = true) : ∃ x, to.testBit x = true ∧ Rch g W w x := by
  have hpow := hg.pow
  have huw' : w ≠ u := by rintro rfl; rw [e.gr.irr] at huw; cases huw
  have hwn := (hg.adj_lt (e.sub _ _ huw)).2
  obtain ⟨x, hx, hxu⟩ := exists_other1 (a := u) (Nat.lt_of_lt_of_le e.tn hpow) (by have := e.two; omega)
  refine ⟨x, (hto x).2 ⟨hx, hxu⟩, (hb u w x (bit_del.2 ⟨bit_all hwn, huw'⟩) (bit_del.2 ⟨bit_all (bit_lt e.tn hx), hxu⟩)).mono fun i hi => ?_⟩
  have h := bit_del.1 hi
  exact hW i (bit_lt (allN_lt g) h.1) h.2

/-- The first edge is in a cycle. -/
theorem first_way {g : List Nat} (hg : GrN g) (hb : Bi g (allN g)) (h3 : 3 ≤ g.length) {a b : Nat} (hab : adj g a b = true) : Rch (delE g a b) (allN g) a b := by
  have hpow := hg.pow
  obtain ⟨ha, hbn⟩ := hg.adj_lt hab
  have hne : a ≠ b := by rintro rfl; rw [hg.irr] at hab; cases hab
  have hp : pop (allN g) = g.length := (pop_all hg.len).1
  obtain ⟨c, hc, hca, hcb⟩ := exists_other (a := a) (b := b) (Nat.lt_of_lt_of_le (allN_lt g) hpow) (by rw [hp]; omega)
  have hda := fun {x : Nat} => bit_del (S := allN g) (w := a) (i := x)
  have hw : ∀ z, without (allN g) (2 ^ z) < 2 ^ g.length := fun z => without_le _ _ (allN_lt g)
  have r1 := hb b a c (bit_del.2 ⟨bit_all ha, hne⟩) (bit_del.2 ⟨hc, hcb⟩)
  have r2 := hb a c b (bit_del.2 ⟨hc, hca⟩) (bit_del.2 ⟨bit_all hbn, fun e => hne e.symm⟩)
  have n1 : ∀ z, (without (allN g) (2 ^ z)).testBit z = false := fun z => Bool.eq_false_iff.2 fun h => (bit_del.1 h).2 rfl
  exact (r1.del hg hab (.inr (n1 b)) (bit_del.2 ⟨bit_all ha, hne⟩) (hw b)).trans (r2.del hg hab (.inl (n1 a)) (bit_del.2 ⟨hc, hca⟩) (hw a))

theorem first_ear {g : List Nat} (hg : GrN g) {a b W : Nat} {l : List Nat} (hab : adj g a b = true) (way : WayB (delE g a b) a W (2 ^ b) l) (hh : l.head? = some b) : Ear1 g (l.reverse ++ [a]) := by
  obtain ⟨ha, hbn⟩ := hg.adj_lt hab
  have hne : a ≠ b := by rintro rfl; rw [hg.irr] at hab; cases hab
  have hgd := hg.delE hab
  have hch := way.ch
  have hlast := way.last
  have hnod := way.nodup
  have hlt := way.lt
  rw [delE_len] at hlt
  -- the way's list, read forward
  obtain ⟨p, hp⟩ : ∃ p, l.reverse = p := ⟨_, rfl⟩
  have hl : l = p.reverse := by rw [← hp, List.reverse_reverse]
  subst hl
  rw [List.reverse_reverse] at hch ⊢
  rw [List.getLast?_reverse] at hlast
  rw [List.head?_reverse] at hh
  rw [nodup_rev] at hnod
  have hlt' : ∀ x ∈ p, x < g.length := fun x hx => hlt x (List.mem_reverse.2 hx)
  cases p with
  | nil => simp at hlast
  | cons a' p =>
    simp only [List.head?_cons, Option.some.injEq] at hlast
    subst hlast
    cases p with
    | nil =>
      simp at hh
      exact absurd hh hne
    | cons c p =>
      cases p with
      | nil =>
        simp at hh
        subst hh
        have := hch.1
        rw [adj_delE ha hbn hne] at this
        simp at this
      | cons d p =>
        refine ⟨by simp, ?_, ?_, ?_, ?_⟩
        · rw [List.getLast?_concat]; rfl
        · rw [List.dropLast_concat]; exact hnod
        · have hac := hch.1
          have hsub : ∀ x y, adj (delE g a' b) x y = true → adj g x y = true := fun x y h => by
            rw [adj_delE ha hbn hne, Bool.and_eq_true] at h; exact h.1
          have hac' := hsub _ _ hac
          obtain ⟨_, hcn⟩ := hg.adj_lt hac'
          have hnac : a' ≠ c := by rintro rfl; rw [hg.irr] at hac'; cases hac'
          refine ⟨hac', ?_⟩
          rw [List.nodup_cons] at hnod
          obtain ⟨q, z, hq⟩ := snoc_of (m := d :: p) (by simp)
          have hz : z = b := by
            rw [List.getLast?_cons_cons, List.getLast?_cons_cons, hq, List.getLast?_concat] at hh
            exact Option.some.inj hh
          have hm2 : (c :: d :: p) ++ [a'] = c :: ((d :: p) ++ [a']) := rfl
          have hna : a' ∉ c :: d :: p := hnod.1
          have hcb : c ≠ b := by
            rintro rfl
            have := (List.nodup_cons.1 hnod.2).1
            rw [hq, hz] at this
            simp at this
          show Tra (delE g a' c) ((c :: d :: p) ++ [a'])
          refine tr_of _ (hg.delE hac') (ch_of _ fun i hi => ?_) ?_
          · simp only [List.length_append, List.length_cons, List.length_nil] at hi
            rw [adj_delE ha hcn hnac, Bool.and_eq_true]
            by_cases hi2 : i + 1 < (c :: d :: p).length
            · rw [nb_app (by omega), nb_app hi2]
              have h1 := ch_get _ hch (i + 1) (by simp at hi2 ⊢; omega)
              have h2 : ∀ j, nb (a' :: c :: d :: p) (j + 1) = nb (c :: d :: p) j := fun _ => rfl
              rw [h2, h2] at h1
              refine ⟨hsub _ _ h1, ?_⟩
              have m1 := nb_mem (m := c :: d :: p) (i := i) (by omega)
              have m2 := nb_mem (m := c :: d :: p) (i := i + 1) hi2
              rw [Bool.not_eq_true', Bool.or_eq_false_iff, decide_eq_false_iff_not, decide_eq_false_iff_not]
              exact ⟨fun h => hna (h.1 ▸ m1), fun h => hna (h.2 ▸ m2)⟩
            · have hi3 : i + 1 = (c :: d :: p).length := by simp at hi2 ⊢; omega
              rw [hi3, nb_snoc, nb_app (by omega)]
              have hzi : nb (c :: d :: p) i = b := by
                have : c :: d :: p = (c :: q) ++ [z] := by rw [hq]; rfl
                rw [this] at hi3 ⊢
                rw [show i = (c :: q).length by simp at hi3 ⊢; omega, nb_snoc, hz]
              rw [hzi]
              have := hg.sym a' b
              rw [hab] at this
              refine ⟨this.symm, ?_⟩
              rw [Bool.not_eq_true', Bool.or_eq_false_iff, decide_eq_false_iff_not, decide_eq_false_iff_not]
              exact ⟨fun h => hne h.1.symm, fun h => hcb h.1.symm⟩
          · rw [List.nodup_append]
            refine ⟨hnod.2, by simp, fun x hx y hy => ?_⟩
            rw [List.mem_singleton] at hy
            rintro rfl
            rw [hy] at hx
            exact hna hx
        · intro x hx
          rw [List.mem_append, List.mem_singleton] at hx
          rcases hx with hx | rfl
          · exact hlt' x hx
          · exact ha

end Go.AM

end

section

/- Ears in a heap; one more ear is found and added. -/
namespace Go.AM
open Go.Proofs
variable {R : Type}
attribute [local simp] nx_eq nx_new nx_set blk_new blk_set asI_int asK_int asB_bool asP_ptr al_eq bx_eq len_slice onE_exit onE_ret onR_ret Value.cells cell_new cell_set rd_new rd_set off eq lt le ifB gv out ext20 ext21
theorem app102 : okApp Tryd.prog 102 3 1 = true := by kernel_rfl

theorem bls102 (z : Int) (h : H) : buildSlice Tryd.prog 102 1 [(0, .int .i64 z)] h = some (.slice (some ⟨h.nx, 0, none⟩) 1 1, h.new (.row [iv z] 3 true)) := by kernel_rfl

/-- Slices that hold ears. -/
def ES (h : H) (bth : Nat) (vs : List Value) (es : List (List Nat)) : Prop := vs.length = es.length ∧ ∀ (i : Nat) (x : Value) (m : List Nat), vs[i]? = some x → es[i]? = some m → SlR h 3 1 x (cellsN m) ∧ blkOf x ≠ some bth

theorem ES.keep {h h' : H} {bth : Nat} {vs : List Value} {es : List (List Nat)} (a : ES h bth vs es) (hn : h.nx ≤ h'.nx) (hb : ∀ b cs o, b < h.nx → b ≠ bth → h.blk b = some (.row cs 3 o) → h'.blk b = h.blk b) : ES h' bth vs es :=
  ⟨a.1, fun i x m hx hm => by
    obtain ⟨a1, a2⟩ := a.2 i x m hx hm
    refine ⟨a1.keepB hn fun b hbb => ?_, a2⟩
    obtain ⟨h1, cs, o, h2⟩ := a1.blkR hbb
    exact hb b cs o h1 (fun e => a2 (by rw [← e]; exact hbb)) h2⟩

theorem ES.snoc {h : H} {bth : Nat} {vs : List Value} {es : List (List Nat)} (a : ES h bth vs es) {x : Value} {m : List Nat} (hx : SlR h 3 1 x (cellsN m)) (hx2 : blkOf x ≠ some bth) : ES h bth (vs ++ [x]) (es ++ [m]) := by
  refine ⟨by simp [a.1], fun i y k hy hk => ?_⟩
  have h1 := a.1
  by_cases hi : i < vs.length
  · rw [List.getElem?_append_left hi] at hy
    rw [List.getElem?_append_left (by omega)] at hk
    exact a.2 i y k hy hk
  · have hi2 := (List.getElem?_eq_some_iff.1 hy).1
    simp at hi2
    have : i = vs.length := by omega
    subst this
    simp at hy
    rw [h1] at hk
    simp at hk
    subst hy hk
    exact ⟨hx, hx2⟩

structure EJ (n : Nat) (h : H) (bth blf bou : Nat) (es : List (List Nat)) (left : List Nat) (there : Nat) (g : H) : Prop where
  he : HE n left there bth blf g
  out : ∃ ov vs, g.blk bou = some (.row [ov] 56 true) ∧ AqR h.nx g 102 1 ov (cellsV vs) ∧ AllSl vs ∧ ES g bth vs es
  ext : Ext h g
  b1 : h.nx ≤ bth
  b2 : h.nx ≤ blf
  b3 : h.nx ≤ bou
  b4 : bou < g.nx

section
variable {n bth blf bou there : Nat} {h g g' : H} {es : List (List Nat)} {left : List Nat}
theorem EJ.grow (a : EJ n h bth blf bou es left there g) (x : Ext g g') : EJ n h bth blf bou es left there g' := by
  obtain ⟨ov, vs, o1, o2, o3, o4⟩ := a.out
  refine ⟨a.he.keep x.nx (x.blk _ a.he.l1) (x.blk _ a.he.l2) (fun b _ _ hb _ _ => x.blk b hb), ⟨ov, vs, (x.blk _ a.b4).trans o1, o2.ext x, o3, o4.keep x.nx fun b _ _ hb _ _ => x.blk b hb⟩, a.ext.trans x, a.b1, a.b2, a.b3, Nat.lt_of_lt_of_le a.b4 x.nx⟩

theorem EJ.add (a : EJ n h bth blf bou es left there g) {m : List Nat} {p} {q r : Nat} (hm : ∀ x ∈ m, x < n) (hne : ∀ i, i + 1 < m.length → nb m i ≠ nb m (i + 1)) (hml : m.length ≤ 100) (h0 : SlR g 3 1 (.slice p q r) (cellsN m)) (h0b : blkOf (.slice p q r) ≠ some bth) (hes : es.length ≤ 1000) :
    ∃ g', rn 86 #[.slice p q r, pt bth 0, pt blf 0, pt bou 0] g = some (undef, g') ∧ EJ n h bth blf bou (es ++ [m]) (delP left m) (there ||| setOf m) g' := by
  obtain ⟨ov, vs, o1, o2, o3, o4⟩ := a.out
  obtain ⟨g', ov', e86, he, w1, w2, n1, k1⟩ := s86 hm hne hml h0 h0b a.he o1 a.b4 o2 a.ext.nx (by have := o4.1; omega)
  rw [fold_ear] at he
  have hb1 := a.b1
  have hb2 := a.b2
  have hb3 := a.b3
  obtain ⟨lv, l1, _⟩ := a.he.lf
  have hk : ∀ b cs o, b < g.nx → b ≠ bth → g.blk b = some (.row cs 3 o) → g'.blk b = g.blk b := fun b cs o hb hbt hr => by
    refine k1 b hb hbt ?_ ?_ ?_
    · rintro rfl; rw [l1] at hr; exact absurd (row_ty hr) (by decide)
    · rintro rfl; rw [o1] at hr; exact absurd (row_ty hr) (by decide)
    · intro e
      have := (o2.blkOf e).2.2
      rw [hr] at this; exact absurd (row_ty this) (by decide)
  refine ⟨g', e86, he, ⟨ov', vs ++ [.slice p q r], w1, w2, ?_, (o4.keep n1 hk).snoc (h0.keepB n1 fun b hb => ?_) h0b⟩, ⟨by have := a.ext.nx; omega, fun b hb => ?_⟩, hb1, hb2, hb3, by have := a.b4; omega⟩
  · intro x hx
    rw [List.mem_append, List.mem_singleton] at hx
    rcases hx with hx | rfl
    · exact o3 x hx
    · exact ⟨_, _, _, rfl⟩
  · obtain ⟨z1, cs, o, z2⟩ := h0.blkR hb
    exact hk b cs o z1 (fun e => h0b (by rw [← e]; exact hb)) z2
  · have := a.ext.nx
    rw [k1 b (by omega) (by omega) (by omega) (by omega) (fun e => by have := (o2.blkOf e).1; omega)]
    exact a.ext.blk b hb

end
theorem tra_ne {g : List Nat} (hg : GrN g) {m : List Nat} (h : Tra g m) : ∀ i, i + 1 < m.length → nb m i ≠ nb m (i + 1) := fun i hi e => by
  have := ch_get m (h.ch m hg) i hi
  rw [e, hg.irr] at this; cases this

set_option maxHeartbeats 1000000 in
theorem s42_l2 {G : List Nat} {tv v21 : Value} {h h3 h5 h7 g : H} {es : List (List Nat)} {left : List Nat} {there k : Nat} {ws0 : List Value} (hG : GrN G) (hbi : Bi G (allN G)) (hs : SlR h 3 1 tv (cellsN G)) (hEL : EL G es left there) (hes : es.length ≤ 1000) (hne : edgesP left ≠ [])
    (hJ : EJ G.length h h5.nx h3.nx h7.nx es left there g) (h21 : SlR g 3 1 v21 (cellsN (elts there))) (hk : 20 ≤ k) (hws : ws0 = [iv 0]) :
    ∃ w g', lpGo (f42_l2 rn k tv h3 h5 h7 v21 ((elts there).length : Int)) k ws0 g = some (.exit 2, w, g') ∧ ∃ m, Ear2 G.length left there m ∧ EJ G.length h h5.nx h3.nx h7.nx (es ++ [m]) (delP left m) (there ||| setOf m) g' := by
  subst hws
  have hlen := hG.len
  have hpow := hG.pow
  have hI := hEL.inv hG
  have ht1024 := Nat.lt_of_lt_of_le hI.tn hpow
  have hell : (elts there).length ≤ 10 := by unfold elts; exact Nat.le_trans (List.length_filter_le ..) (by simp)
  have hleft := hI.len
  obtain ⟨lv, l1, l2, l3⟩ := hJ.he.lf
  have hth := hJ.he.th
  have hsg := hs.ext hJ.ext
  obtain ⟨e, ws', g', hlp, rfl, m, hm1, hm2⟩ := lp_range (F := f42_l2 rn k tv h3 h5 h7 v21 ((elts there).length : Int)) (k := k) (n := (elts there).length)
    (fun i ws g' => g' = g ∧ ws = [iv i] ∧ ∀ j, j < i → nb left (nb (elts there) j) = 0)
    (fun e ws g' => e = .exit 2 ∧ ∃ m, Ear2 G.length left there m ∧ EJ G.length h h5.nx h3.nx h7.nx (es ++ [m]) (delP left m) (there ||| setOf m) g')
    (by
      rintro i ws g' hi ⟨rfl, rfl, hz⟩
      obtain ⟨u, hud⟩ : ∃ u, nb (elts there) i = u := ⟨_, rfl⟩
      have hum : u ∈ elts there := hud ▸ nb_mem hi
      have hut := (mem_elts ht1024).1 hum
      have hun := bit_lt hI.tn hut
      have hadd : add .i64 (i : Int) 1 = ((i + 1 : Nat) : Int) := by rw [add64 (by omega) (by omega)]; omega
      have e1 : ∀ (K : Value → Option (Ex × List Value × H)), (six v21 (i : Int) 1 fun b o => ld Tryd.prog g' 3 b o K) = K (iv (u : Nat)) := fun K => by
        simp only [d3]; rw [getN h21 hi, hud]
      have e2 : ∀ (K : Value → Option (Ex × List Value × H)), (six lv (u : Int) 1 fun b o => ld Tryd.prog g' 3 b o K) = K (iv (nb left u : Nat)) := fun K => by
        simp only [d3]; rw [getN l2 (by omega)]
      have hx1024 := Nat.lt_of_lt_of_le (hI.gr.nb_lt u) hI.gr.pow
      have start : ∀ r, (ifB (AM.eq (nb left u : Int) 0) (AM.out .normal [iv ((i + 1 : Nat) : Int)] g') (
          calls rn g' 89 [(.int .u64 (wr .u64 (nb left u : Nat)))] fun v27 h22 =>
          asI .i64 v27 fun n13 =>
          ld Tryd.prog h22 3 (nx h5) 0 fun v28 =>
          asI .i64 v28 fun n14 =>
          nn (u : Int) (
            calls rn h22 65 [tv] fun v29 h23 =>
            asI .i64 v29 fun n15 =>
            ck (freq (nx h5) (nx h22) (same h23 h22)) (
              ld Tryd.prog h23 3 (nx h5) 0 fun v30 =>
              asI .i64 v30 fun n16 =>
              ck (freq (nx h5) (nx h22) (same h23 h22)) (
                calls rn h23 88 [tv, (.int .i64 n13), (.int .i64 (AM.andNot .i64 n14 (AM.shl .i64 1 (u : Int)))), (.int .i64 (AM.andNot .i64 n15 n16))] fun v31 h24 =>
                bls Tryd.prog h24 102 1 [(0, (.int .i64 (u : Int)))] fun v32 h25 =>
                ck (freq (nx h5) (nx h24) (same h25 h24)) (
                  ck (freq (nx h5) (nx h24) (same h25 h24)) (
                    app Tryd.prog h25 102 22 v32 v31 fun v33 h26 =>
                    calls rn h26 86 [v33, (pt (nx h5) 0), (pt (nx h3) 0), (pt (nx h7) 0)] fun _ h27 =>
                    AM.out (.exit 2) [iv i] h27))))))) = r → f42_l2 rn k tv h3 h5 h7 v21 ((elts there).length : Int) [iv i] g' = r := by
        intro r hr
        unfold f42_l2
        rw [show AM.gv [iv i] 0 = iv i from rfl, asI_int, lt_t (by omega), ifB_true, asK_int, e1, asI_int]
        simp only [d78, nx_eq, cell_of l1]
        rw [show ([lv] : List Value)[0]? = some lv from rfl]
        simp only [Option.bind_some]
        rw [e2, asI_int, asI_int, hadd, e2, asI_int]
        exact hr
      by_cases hz0 : nb left u = 0
      · refine ⟨.normal, [iv ((i + 1 : Nat) : Int)], g', start _ ?_, .inl ⟨rfl, rfl, rfl, fun j hj => ?_⟩⟩
        · rw [hz0]; rfl
        · by_cases hji : j = i
          · rw [hji, hud]; exact hz0
          · exact hz j (by omega)
      · have hpos := Nat.pos_of_ne_zero hz0
        have hwb := low_bit hpos hx1024
        obtain ⟨w, hwd⟩ : ∃ w, low (nb left u) = w := ⟨_, rfl⟩
        rw [hwd] at hwb
        have huw : adj left u w = true := hwb
        have hwn := (hG.adj_lt (hI.sub _ _ huw)).2
        have e89 := s89 hpos hx1024 g'
        rw [hwd] at e89
        have hsh : AM.andNot .i64 (there : Int) (AM.shl .i64 1 (u : Int)) = ((without there (2 ^ u) : Nat) : Int) := by
          have h2u : (2 : Nat) ^ u < 1024 := Nat.pow_lt_pow_right (n := 10) (by omega) (by omega)
          rw [shl1_nat (by omega), andNot_nat (by omega) (by omega)]
        have hal := Nat.lt_of_lt_of_le (allN_lt G) hpow
        have han : AM.andNot .i64 (allN G : Int) (there : Int) = ((without (allN G) there : Nat) : Int) := andNot_nat (by omega) (by omega)
        obtain ⟨v31, g2, e88, x88', hor⟩ := s88 (to := without there (2 ^ u)) (thr := without (allN G) there) hG.toGrB hsg hwn (without_le _ _ hI.tn) (without_le _ _ (allN_lt G))
        have hto : ∀ i, (without there (2 ^ u)).testBit i = true ↔ there.testBit i = true ∧ i ≠ u := fun i => bit_del
        have hWb : ∀ i, (without (allN G) there ||| without there (2 ^ u)).testBit i = true ↔ i < G.length ∧ i ≠ u := fun i => by
          rw [Nat.testBit_or, Bool.or_eq_true, testBit_without, Bool.and_eq_true, Bool.not_eq_true', bit_del, allN_bit, decide_eq_true_iff]
          constructor
          · rintro (⟨h1, h2⟩ | ⟨h1, h2⟩)
            · exact ⟨h1, fun e => by rw [e, hut] at h2; cases h2⟩
            · exact ⟨bit_lt hI.tn h1, h2⟩
          · rintro ⟨h1, h2⟩
            cases hb : there.testBit i with
            | false => exact .inl ⟨h1, rfl⟩
            | true => exact .inr ⟨rfl, h2⟩
        rcases hor with ⟨l, x, way, hhd, hx, a31⟩ | ⟨_, hno⟩
        · have ear := hI.ear hG hut huw hto (fun i hi => ((hWb i).1 hi).2) way hhd hx
          obtain ⟨g3, hg3⟩ : ∃ g3, g3 = g2.new (.row [iv u] 3 true) := ⟨_, rfl⟩
          have x3 : Exw g2 g3 := by rw [hg3]; exact Exw.new _ _
          have n3 : g3.nx = g2.nx + 1 := by rw [hg3]; rfl
          have n2 := x88'.nx
          have hl1 := hJ.he.l1
          have hl2 := hJ.he.l2
          have hl4 := hJ.b4
          have hlit : AqR g2.nx g3 3 1 (.slice (some ⟨g2.nx, 0, none⟩) 1 1) (cellsN [u]) := by
            rw [hg3]
            exact AqR.lit (l := [[iv (u : Int)]]) (Nat.le_refl _) rfl (by simp) (by simp)
          have hll := nodes_le ear.nodup ear.lt
          rw [List.length_cons, List.length_reverse] at hll
          obtain ⟨v33, g4, ea, a4, n4, k4, _⟩ := hlit.app (y := v31) (ys := cellsN l.reverse) (P := Tryd.prog) (t := 102) (t' := 22) app102 app22 (a31.slR.ext x3.toExt) (cellsN_scal _) (by simp; omega) (by omega)
          have hcat : cellsN [u] ++ cellsN l.reverse = cellsN (u :: l.reverse) := rfl
          rw [hcat] at a4
          have x4 : Ext g' g4 := ⟨by omega, fun b hb => by
            rw [k4 b (by omega) (fun e => by cases e; omega), x3.blk b (by omega)]
            exact x88'.blk b hb⟩
          have hJ4 := hJ.grow x4
          obtain ⟨p, q, r, rfl⟩ := a4.isSl
          obtain ⟨g5, e86, hJ5⟩ := hJ4.add (m := u :: l.reverse) ear.lt (tra_ne hI.gr ear.tr) (by simp; omega) a4.slR (fun e => by have := (a4.blkOf e).1; omega) hes
          refine ⟨.exit 2, [iv i], g5, start _ ?_, .inr ⟨by simp, rfl, _, ear, hJ5⟩⟩
          rw [show AM.eq (nb left u : Int) 0 = false by simp [AM.eq]; omega, ifB_false, wr64u hx1024, calls_eq (xs := [.int .u64 (nb left u : Nat)]) e89, asI_int]
          simp only [d3, nx_eq, cell_of hth]
          rw [show ([iv (there : Int)] : List Value)[0]? = some (iv there) from rfl]
          simp only [Option.bind_some]
          rw [asI_int, nn_ge (show (0 : Int) ≤ (u : Int) by omega), calls_eq (xs := [tv]) (s65 hG.toGrB hsg), asI_int]
          simp only [freq, same_self, decide_eq_true hl1, Bool.and_self, ck_true, cell_of hth]
          rw [show ([iv (there : Int)] : List Value)[0]? = some (iv there) from rfl]
          simp only [Option.bind_some, asI_int]
          rw [hsh, han, calls_eq (xs := [tv, iv w, iv ((without there (2 ^ u) : Nat) : Int), iv ((without (allN G) there : Nat) : Int)]) e88, bls_some (bls102 (u : Int) g2), ← hg3,
            show same g3 g2 = true by simp [same, x3.wr], decide_eq_true (show h5.nx < g2.nx by omega), Bool.and_self, ck_true, ck_true, ea, calls_eq (xs := [.slice p q r, pt h5.nx 0, pt h3.nx 0, pt h7.nx 0]) e86]
          rfl
        · obtain ⟨x, hx, hr⟩ := hI.way hG hbi hut huw hto (fun i h1 h2 => (hWb i).2 ⟨h1, h2⟩)
          exact absurd hr (hno x hx))
    (by
      rintro ws g' ⟨_, _, hz⟩
      obtain ⟨u, hu, hnz⟩ := hI.more hG hbi hne
      obtain ⟨j, hj, rfl⟩ := mem_nb ((mem_elts ht1024).2 hu)
      exact absurd (hz j hj) hnz)
    (ws := [iv 0]) (h := g) (by omega) ⟨rfl, rfl, fun j hj => by omega⟩
  exact ⟨ws', g', hlp, m, hm1, hm2⟩

end Go.AM

end

section

/- Ears: the program's search, whole. -/
namespace Go.AM
open Go.Proofs
variable {R : Type}
attribute [local simp] nx_eq nx_new nx_set blk_new blk_set asI_int asK_int asB_bool asP_ptr al_eq bx_eq len_slice onE_exit onE_ret onR_ret Value.cells cell_new cell_set rd_new rd_set off eq lt le ifB gv out ext20 ext21
theorem pop_le10 (x : Nat) : pop x ≤ 10 := by unfold pop; exact Nat.le_trans List.countP_le_length (by simp)

theorem dsum_le : ∀ g : List Nat, dsum g ≤ 10 * g.length
  | [] => by simp [dsum]
  | x :: g => by
    have := dsum_le g
    have h2 := pop_le10 x
    unfold dsum at this ⊢
    rw [List.map_cons, List.sum_cons, List.length_cons]
    omega

set_option maxHeartbeats 1000000 in
theorem s42_l1 {G : List Nat} {tv : Value} {h h3 h5 h7 g : H} {es : List (List Nat)} {left : List Nat} {there : Nat} (hG : GrN G) (hbi : Bi G (allN G)) (hs : SlR h 3 1 tv (cellsN G)) (hEL : EL G es left there)
    (hJ : EJ G.length h h5.nx h3.nx h7.nx es left there g) :
    ∃ w g', lpGo (f42_l1 rn 600 tv h3 h5 h7) 600 [] g = some (.exit 0, w, g') ∧ ∃ es' left', EL G es' left' (allN G) ∧ edgesP left' = [] ∧ EJ G.length h h5.nx h3.nx h7.nx es' left' (allN G) g' := by
  have hlen := hG.len
  have hpow := hG.pow
  have hdG := dsum_le G
  obtain ⟨e, w, g', hlp, rfl, es', left', q⟩ := lpGo_inv (F := f42_l1 rn 600 tv h3 h5 h7)
    (fun d _ g => ∃ es left there, d = dsum left ∧ EL G es left there ∧ EJ G.length h h5.nx h3.nx h7.nx es left there g)
    (fun e _ g' => e = .exit 0 ∧ ∃ es' left', EL G es' left' (allN G) ∧ edgesP left' = [] ∧ EJ G.length h h5.nx h3.nx h7.nx es' left' (allN G) g')
    (by
      rintro d ws g ⟨es, left, there, rfl, hEL, hJ⟩
      have hI := hEL.inv hG
      have ht1024 := Nat.lt_of_lt_of_le hI.tn hpow
      have hsum := hI.sum
      obtain ⟨lv, l1, l2, l3⟩ := hJ.he.lf
      obtain ⟨v19, g1, e77, x1, a19⟩ := s77 hI.gr.toGrB l2
      have hJ1 := hJ.grow x1.toExt
      have hn19 : ∀ {T : Type} (K : Int → Option T), len v19 K = K ((edgesP left).length : Int) := fun K => by rw [a19.slR.len]; simp
      have hth1 := hJ1.he.th
      by_cases hne : edgesP left = []
      · obtain ⟨hta, _⟩ := hI.done hG hbi hne
        subst hta
        refine ⟨.exit 0, [], g1, ?_, .inr ⟨by simp, rfl, es, left, hEL, hne, hJ1⟩⟩
        unfold f42_l1
        simp only [d78, nx_eq, cell_of l1]
        rw [show ([lv] : List Value)[0]? = some lv from rfl]
        simp only [Option.bind_some]
        rw [calls_eq (xs := [lv]) e77, hn19, hne]
        rfl
      · have hpos : 0 < (edgesP left).length := List.length_pos_iff.2 hne
        obtain ⟨v21, g2, e76, x2, a21⟩ := s76A ht1024 g1
        have hJ2 := hJ1.grow x2.toExt
        have hn21 : ∀ {T : Type} (K : Int → Option T), len v21 K = K ((elts there).length : Int) := fun K => by rw [a21.slR.len]; simp
        obtain ⟨w, g3, e3, m, ear, hJ3⟩ := s42_l2 (k := 600) (ws0 := [iv 0]) hG hbi hs hEL (by omega) hne hJ2 a21.slR (by omega) rfl
        have hel : 2 ≤ m.length := ear.len
        have hdd := dsum_delP m hI.gr ear.tr (by rintro rfl; simp at hel)
        refine ⟨.normal, [], g3, ?_, .inl ⟨rfl, dsum (delP left m), by omega, es ++ [m], _, _, rfl, .next hEL ear, hJ3⟩⟩
        unfold f42_l1
        simp only [d78, nx_eq, cell_of l1]
        rw [show ([lv] : List Value)[0]? = some lv from rfl]
        simp only [Option.bind_some]
        rw [calls_eq (xs := [lv]) e77, hn19, lt_t (by omega), ifB_true]
        simp only [d3, cell_of hth1]
        rw [show ([iv (there : Int)] : List Value)[0]? = some (iv there) from rfl]
        simp only [Option.bind_some]
        rw [asI_int, calls_eq (xs := [iv there]) e76, hn21]
        refine (lp_eq e3).trans ?_
        rw [onE_exit, if_pos rfl]
        rfl)
    (dsum left) 600 (by
      have := hEL.inv hG
      have := this.sum
      have := (hEL.inv hG).two
      omega) (ws := []) (h := g) ⟨es, left, there, rfl, hEL, hJ⟩
  exact ⟨w, g', hlp, es', left', q⟩

theorem s42_bad {v : Value} {l : List Int} {h : H} (hval : validG l = false) (hs : SlR h 3 1 v (cellsI l)) : rn 42 #[v] h = some (.tuple #[.slice none 0 0, iv 2], h) := by
  have c63 := fun (K : Value → H → Option (Value × H)) => calls_eq (K := K) (xs := [v]) (s63 hs)
  rw [hval] at c63
  refine y42 (k := 0) ?_
  unfold f42
  rw [c63]
  rfl

theorem s42_single {v : Value} {g : List Nat} {h : H} (hg : GrN g) (hval : validG (g.map Int.ofNat) = true) (hs : SlR h 3 1 v (cellsN g)) (hd : doubleP g = false) : rn 42 #[v] h = some (.tuple #[.slice none 0 0, iv 5], h) := by
  have c63 := fun (K : Value → H → Option (Value × H)) => calls_eq (K := K) (xs := [v]) (s63 (l := g.map Int.ofNat) (h := h) (by rw [cellsN_eq]; exact hs))
  rw [if_pos hval] at c63
  refine y42 (k := 0) ?_
  unfold f42
  rw [c63, ext20, ext21, asB_bool, show (!true) = false from rfl, ifB_false, calls_eq (xs := [v]) (s81 hg hs), asB_bool, hd]
  rfl

set_option maxHeartbeats 2000000 in
theorem s42 {v : Value} {G : List Nat} {h : H} (hG : GrN G) (hval : validG (G.map Int.ofNat) = true) (hs : SlR h 3 1 v (cellsN G)) (hd : doubleP G = true) :
    ∃ v' h' vs es left, rn 42 #[v] h = some (.tuple #[v', iv 0], h') ∧ Exw h h' ∧ EL G es left (allN G) ∧ edgesP left = [] ∧ SlR h' 102 1 v' (cellsV vs) ∧ AllSl vs ∧ vs.length = es.length ∧
      ∀ (i : Nat) (x : Value) (m : List Nat), vs[i]? = some x → es[i]? = some m → SlR h' 3 1 x (cellsN m) := by
  have hlen := hG.len
  have hpow := hG.pow
  have hbi := double_bi hG hd
  have h3le : 3 ≤ G.length := by
    unfold doubleP at hd
    simp only [Bool.and_eq_true, decide_eq_true_eq] at hd
    exact hd.1.1
  have hG0 : G ≠ [] := by rintro rfl; simp at h3le
  have c63 := fun (K : Value → H → Option (Value × H)) => calls_eq (K := K) (xs := [v]) (s63 (l := G.map Int.ofNat) (h := h) (by rw [cellsN_eq]; exact hs))
  rw [if_pos hval] at c63
  have c81 := fun (K : Value → H → Option (Value × H)) => calls_eq (K := K) (xs := [v]) (s81 hG hs)
  rw [hd] at c81
  refine s85 hG.toGrB hG0 hs fun v5 h3 bb e85 x3 hbb hia => ?_
  obtain ⟨c5, hv5, _⟩ := hia.val
  have hbl := hia.lt
  obtain ⟨h4, hh4⟩ : ∃ h4, h4 = h3.new (.row [.slice none 0 0] 78 true) := ⟨_, rfl⟩
  obtain ⟨h5, hh5⟩ : ∃ h5, h5 = h4.set h3.nx (.row [v5] 78 true) := ⟨_, rfl⟩
  obtain ⟨h6, hh6⟩ : ∃ h6, h6 = h5.new (.row [iv 0] 3 true) := ⟨_, rfl⟩
  obtain ⟨h7, hh7⟩ : ∃ h7, h7 = h6.set h5.nx (.row [iv 0] 3 true) := ⟨_, rfl⟩
  obtain ⟨h8, hh8⟩ : ∃ h8, h8 = h7.new (.row [.slice none 0 0] 56 true) := ⟨_, rfl⟩
  have n4 : h4.nx = h3.nx + 1 := by rw [hh4]; rfl
  have n5 : h5.nx = h3.nx + 1 := by rw [hh5, nx_set, n4]
  have n6 : h6.nx = h3.nx + 2 := by rw [hh6, nx_new, n5]
  have n7 : h7.nx = h3.nx + 2 := by rw [hh7, nx_set, n6]
  have n8 : h8.nx = h3.nx + 3 := by rw [hh8, nx_new, n7]
  have n3 := x3.nx
  have x5 : Ext h3 h5 := by rw [hh5, hh4]; exact ((Ext.refl h3).new' _).set (Nat.le_refl _) _
  have x7 : Ext h5 h7 := by rw [hh7, hh6]; exact ((Ext.refl h5).new' _).set (Nat.le_refl _) _
  have x8 : Ext h7 h8 := by rw [hh8]; exact Ext.new _ _
  have w4 : ∀ (K : H → Option (Value × H)), (wrc 1 h4 h3.nx 0 v5).bind K = K h5 := fun K => by
    rw [hh5, hh4, hv5]; unfold wrc; rw [blk_new_self]; rfl
  have w6 : ∀ (K : H → Option (Value × H)), (wrc 1 h6 h5.nx 0 (.int .i64 0)).bind K = K h7 := fun K => by
    rw [hh7, hh6]; unfold wrc; rw [blk_new_self]; rfl
  have b3 : h5.blk h3.nx = some (.row [v5] 78 true) := by rw [hh5]; exact blk_set_self _ _ _
  have b5 : h7.blk h5.nx = some (.row [iv 0] 3 true) := by rw [hh7]; exact blk_set_self _ _ _
  have b7 : h8.blk h7.nx = some (.row [.slice none 0 0] 56 true) := by rw [hh8]; exact blk_new_self _ _
  have xh8 : Ext h3 h8 := x5.trans (x7.trans x8)
  have hbv : ∀ b, blkOf v5 = some b → b = bb := fun b hb => by rw [hv5] at hb; cases hb; rfl
  have hJ8 : EJ G.length h h5.nx h3.nx h7.nx [] G 0 h8 := by
    refine ⟨⟨(x8.blk _ (by omega)).trans b5, ⟨v5, ((x7.trans x8).blk _ (by omega)).trans b3, hia.slN.ext xh8, fun e => by have := hbv _ e; omega⟩, hG.toGrB, rfl, Nat.two_pow_pos _, by omega, by omega⟩,
      ⟨.slice none 0 0, [], b7, .nil, (fun x hx => by cases hx), ⟨rfl, fun i x m hx => by simp at hx⟩⟩, x3.toExt.trans xh8, by omega, by omega, by omega, by omega⟩
  obtain ⟨v6, h9, e77, x9, a6⟩ := s77 hG.toGrB (hs.ext (x3.toExt.trans xh8))
  -- the first edge
  obtain ⟨q, E, hE⟩ : ∃ q E, edgesP G = q :: E := by
    cases hq : edgesP G with
    | nil =>
      exfalso
      have hc := hbi.conn (Nat.lt_of_lt_of_le (allN_lt G) hpow) 0 1 (bit_all (by omega)) (bit_all (by omega))
      obtain ⟨u, hu, _⟩ := hc.next (by omega)
      have := (dsum_zero hG).2 hq
      have := dsum_delE hG hu
      omega
    | cons q E => exact ⟨q, E, rfl⟩
  obtain ⟨a, b⟩ := q
  obtain ⟨hab, hbn, hadj⟩ := mem_edges.1 (show (a, b) ∈ edgesP G by rw [hE]; exact List.mem_cons_self)
  simp only at hab hbn hadj
  obtain ⟨h11, hh11⟩ : ∃ h11, h11 = (h9.new (.row [.int .i64 0, .int .i64 0] 32 true)).set h9.nx (.row [iv a, iv b] 32 true) := ⟨_, rfl⟩
  have b11 : h11.blk h9.nx = some (.row [iv a, iv b] 32 true) := by rw [hh11]; exact blk_set_self _ _ _
  have n11 : h11.nx = h9.nx + 1 := by rw [hh11]; rfl
  have x11 : Ext h9 h11 := by rw [hh11]; exact ((Ext.refl h9).new' _).set (Nat.le_refl _) _
  have xh11 : Ext h h11 := (x3.toExt.trans xh8).trans (x9.toExt.trans x11)
  obtain ⟨v9, h12, e87, x12, bb2, hbb2, hia2⟩ := s87 (a := a) (b := b) hG.toGrB (by omega) hbn (by omega) (hs.ext xh11)
  have xh12 : Ext h h12 := xh11.trans x12.toExt
  have b12 : h12.blk h9.nx = some (.row [iv a, iv b] 32 true) := (x12.blk _ (by omega)).trans b11
  have hgd := hG.delE hadj
  have hdl : (delE G a b).length = G.length := delE_len G a b
  have h2b : 2 ^ b < 2 ^ G.length := Nat.pow_lt_pow_right (by omega) hbn
  have hallE : allN (delE G a b) = allN G := allN_delE G a b
  obtain ⟨v13, h14, e88, x14, hor⟩ := s88 (a := a) (to := 2 ^ b) (thr := allN G) hgd.toGrB hia2.slN (by omega) (by rw [hdl]; exact h2b) (by rw [hdl]; exact allN_lt G)
  have hmono : ∀ i, (allN G).testBit i = true → (allN G ||| 2 ^ b).testBit i = true := fun i hi => by rw [Nat.testBit_or, hi]; rfl
  rcases hor with ⟨l, x, way, hhd, hx, a13⟩ | ⟨_, hno⟩
  · have hxb : x = b := by rw [Nat.testBit_two_pow, decide_eq_true_iff] at hx; exact hx.symm
    subst hxb
    have ear := first_ear hG hadj way hhd
    obtain ⟨h15, hh15⟩ : ∃ h15, h15 = h14.new (.row [iv a] 3 true) := ⟨_, rfl⟩
    have x15 : Exw h14 h15 := by rw [hh15]; exact Exw.new _ _
    have n15 : h15.nx = h14.nx + 1 := by rw [hh15]; rfl
    have n12 := x12.nx
    have n14 := x14.nx
    have n9 := x9.nx
    have hlit : AqR h14.nx h15 3 1 (.slice (some ⟨h14.nx, 0, none⟩) 1 1) (cellsN [a]) := by
      rw [hh15]
      exact AqR.lit (l := [[iv (a : Int)]]) (Nat.le_refl _) rfl (by simp) (by simp)
    have hll := nodes_le way.nodup way.lt
    obtain ⟨v16, h16, ea, a16, n16, k16, _⟩ := (a13.ext x15.toExt).app (y := .slice (some ⟨h14.nx, 0, none⟩) 1 1) (ys := cellsN [a]) (P := Tryd.prog) (t := 102) (t' := 102) app102 app102 hlit.slR (cellsN_scal _) (by simp; omega) (by omega)
    have hcat : cellsN l.reverse ++ cellsN [a] = cellsN (l.reverse ++ [a]) := by simp
    rw [hcat] at a16
    have x16 : Ext h8 h16 := ⟨by omega, fun y hy => by
      rw [k16 y (by omega) (fun e => by have := (a13.blkOf e).1; omega), x15.blk y (by omega), x14.blk y (by omega), x12.blk y (by omega), x11.blk y (by omega)]
      exact x9.blk y hy⟩
    have hJ16 := hJ8.grow x16
    obtain ⟨p, qq, r, rfl⟩ := a16.isSl
    obtain ⟨h17, e86, hJ17⟩ := hJ16.add (m := l.reverse ++ [a]) ear.lt (tra_ne hG ear.tr) (by simp; omega) a16.slR (fun e => by have := (a16.blkOf e).1; omega) (by simp)
    rw [List.nil_append, Nat.zero_or] at hJ17
    obtain ⟨w, h29, el1, es, left, hEL, hle, hJ29⟩ := s42_l1 (h3 := h3) (h5 := h5) (h7 := h7) hG hbi hs (.first ear) hJ17
    obtain ⟨ov, vs, o1, o2, o3, o4⟩ := hJ29.out
    have e1 : ∀ (K : Value → Option (Value × H)), (six v6 0 2 fun b o => ld Tryd.prog h9 32 b o K) = K (.agg #[iv a, iv x]) := fun K =>
      a6.slR.ldA ag32 sz32 (by omega) (x := [iv a, iv x]) (by simp [hE]) K
    have w10 : ∀ (K : H → Option (Value × H)), (wrc 2 (h9.new (.row [.int .i64 0, .int .i64 0] 32 true)) h9.nx 0 (.agg #[iv a, iv x])).bind K = K h11 := fun K => by
      rw [hh11]; unfold wrc; rw [blk_new_self]; rfl
    have hsame1 : same h12 h11 = true := by simp [same, x12.wr]
    have hsame2 : same h14 h12 = true := by simp [same, x14.wr]
    have hsame3 : same h15 h14 = true := by simp [same, x15.wr]
    have b14 : h14.blk h9.nx = some (.row [iv a, iv x] 32 true) := (x14.blk _ (by omega)).trans b12
    have hshl : AM.shl .i64 1 (x : Int) = ((2 ^ x : Nat) : Int) := shl1_nat (by omega)
    have f1 : freq h9.nx h11.nx (same h12 h11) = true := by simp [freq, hsame1]; omega
    have f2 : freq h9.nx h12.nx (same h12 h12) = true := by simp [freq, same_self]; omega
    have f3 : freq h9.nx h12.nx (same h14 h12) = true := by simp [freq, hsame2]; omega
    have f4 : freq h9.nx h14.nx (same h15 h14) = true := by simp [freq, hsame3]; omega
    have e42 : f42 rn 600 v h = some (.tuple #[ov, iv 0], h29) := by
      unfold f42
      rw [c63, ext20, ext21, asB_bool, show (!true) = false from rfl, ifB_false, c81, asB_bool, show (!true) = false from rfl, ifB_false, calls_eq (xs := [v]) e85, al_eq, ← hh4, w78, nx_eq, w4, al_eq, ← hh6, w3, nx_eq, w6, al_eq, ← hh8, calls_eq (xs := [v]) e77, e1, al_eq, w32, nx_eq, w10]
      simp only [aix_in (show (0 : Int) ≤ 0 by omega) (show (0 : Int) < ((2 : Nat) : Int) by omega), aix_in (show (0 : Int) ≤ 1 by omega) (show (1 : Int) < ((2 : Nat) : Int) by omega), d32, d3, at_, show h11.rd h9.nx 0 2 = some [iv (a : Int), iv (x : Int)] from rd_all b11 rfl, Option.bind_some]
      rw [show (Value.agg [iv (a : Int), iv (x : Int)].toArray) = .agg #[iv a, iv x] from rfl, calls_eq (xs := [v, .agg #[iv a, iv x]]) e87]
      simp only [cell_of b12, cell_of b14]
      rw [show ([iv (a : Int), iv (x : Int)] : List Value)[0 + (0 : Int).toNat * 1]? = some (iv a) from rfl, show ([iv (a : Int), iv (x : Int)] : List Value)[0 + (1 : Int).toNat * 1]? = some (iv x) from rfl]
      simp only [nx_eq, Option.bind_some, asI_int, f1, ck_true]
      rw [nn_ge (show (0 : Int) ≤ (x : Int) by omega), calls_eq (xs := [v]) (s65 hG.toGrB (hs.ext xh12)), asI_int]
      simp only [nx_eq, f2, ck_true]
      rw [hshl, calls_eq (xs := [v9, iv a, iv ((2 ^ x : Nat) : Int), iv (allN G : Nat)]) e88]
      simp only [cell_of b14]
      rw [show ([iv (a : Int), iv (x : Int)] : List Value)[0 + (0 : Int).toNat * 1]? = some (iv a) from rfl]
      simp only [nx_eq, Option.bind_some, asI_int, f1, f2, f3, ck_true]
      rw [bls_some (bls102 (a : Int) h14), ← hh15]
      simp only [nx_eq, f4, ck_true]
      rw [ea, calls_eq (xs := [.slice p qq r, pt h5.nx 0, pt h3.nx 0, pt h7.nx 0]) e86]
      rw [lp_eq el1]
      rw [onE_exit, if_pos rfl]
      simp only [d56, nx_eq, cell_of o1]
      rfl
    obtain ⟨h30, e30, m30, w30⟩ := x42 e42 o2.slR.notR2
    exact ⟨ov, h30, vs, es, left, e30, w30 hJ29.ext, hEL, hle, o2.slR.ext m30.ext, o3, o4.1, fun i y m hy hm => (o4.2 i y m hy hm).1.ext m30.ext⟩
  · have hw := first_way hG hbi h3le hadj
    exact absurd (hw.mono hmono) (hno b (by rw [Nat.testBit_two_pow, decide_eq_true rfl]))

end Go.AM

end

section

/- Ears, plainly: what a check of ears says, and that ears leave no cut node. -/
namespace Go.AM
open Go.Proofs
/-! ### How many edges -/
theorem edges_nd (g : List Nat) : (edgesP g).Nodup := by
  have key : ∀ (l : List Nat) (i : Nat) (s : List (Nat × Nat)), s.Nodup → l.Nodup → (∀ e ∈ s, e.1 ∉ l) → (foldI (fun _ a acc => edgeRow g a acc) l i s).Nodup := by
    intro l
    induction l with
    | nil => intro i s h _ _; exact h
    | cons a l ih =>
      intro i s hs hl hd
      rw [List.nodup_cons] at hl
      simp only [foldI]
      refine ih _ _ ?_ hl.2 ?_
      · rw [edgeRow_eq, List.nodup_append]
        refine ⟨hs, ?_, ?_⟩
        · refine List.Pairwise.map _ (fun x y hxy h => hxy ?_) ((List.nodup_range (n := g.length - 1 - a)).filter _)
          simp only [Prod.mk.injEq, true_and] at h
          omega
        · rintro e he e' he' rfl
          obtain ⟨j, _, rfl⟩ := List.mem_map.1 he'
          exact hd _ he List.mem_cons_self
      · intro e he hel
        rw [edgeRow_eq, List.mem_append, List.mem_map] at he
        rcases he with he | ⟨j, _, rfl⟩
        · exact hd e he (List.mem_cons_of_mem _ hel)
        · exact hl.1 hel
  exact key _ _ _ List.nodup_nil List.nodup_range (by simp)

theorem perm_len {α : Type} {a b : List α} (ha : a.Nodup) (hb : b.Nodup) (h : ∀ x, x ∈ a ↔ x ∈ b) : a.length = b.length :=
  ((List.perm_ext_iff_of_nodup ha hb).2 h).length_eq

/-! ### One more node at the end -/
theorem delP_snoc : ∀ (m : List Nat) (g : List Nat) (a b : Nat), delP g (m ++ [a, b]) = delE (delP g (m ++ [a])) a b
  | [], _, _, _ => rfl
  | [_], _, _, _ => rfl
  | x :: y :: m, g, a, b => delP_snoc (y :: m) (delE g x y) a b

theorem tra_snoc : ∀ (m : List Nat) (g : List Nat) (a b : Nat), Tra g (m ++ [a, b]) ↔ Tra g (m ++ [a]) ∧ adj (delP g (m ++ [a])) a b = true
  | [], _, _, _ => ⟨fun h => ⟨trivial, h.1⟩, fun h => ⟨h.2, trivial⟩⟩
  | [x], _, _, _ => ⟨fun h => ⟨⟨h.1, trivial⟩, h.2.1⟩, fun h => ⟨h.1.1, h.2, trivial⟩⟩
  | x :: y :: m, g, a, b => by
    have := tra_snoc (y :: m) (delE g x y) a b
    exact ⟨fun h => ⟨⟨h.1, (this.1 h.2).1⟩, (this.1 h.2).2⟩, fun h => ⟨h.1.1, this.2 ⟨h.1.2, h.2⟩⟩⟩

/-! ### An ear that may be the first -/
structure EarK (k n : Nat) (left : List Nat) (there : Nat) (m : List Nat) : Prop where
  len : 2 ≤ m.length
  first : k = 0 → 4 ≤ m.length ∧ nb m 0 = nb m (m.length - 1)
  lt : ∀ x ∈ m, x < n
  tr : Tra left m
  fresh : ∀ i, i < m.length → (0 < k ∨ i + 1 < m.length) → nb m i ∉ m.take i
  bits : 0 < k → ∀ i, i < m.length → (there.testBit (nb m i) = true ↔ i = 0 ∨ i + 1 = m.length)

theorem nodup_fresh {m : List Nat} : m.Nodup ↔ ∀ i, i < m.length → nb m i ∉ m.take i := by
  constructor
  · intro h i hi hm
    obtain ⟨j, hj, he⟩ := mem_nb hm
    rw [List.length_take] at hj
    have h1 : nb (m.take i) j = nb m j := by
      unfold nb; rw [List.getD_eq_getElem?_getD, List.getD_eq_getElem?_getD, List.getElem?_take_of_lt (by omega)]
    rw [h1] at he
    unfold nb at he
    rw [List.getD_eq_getElem?_getD, List.getD_eq_getElem?_getD, List.getElem?_eq_getElem hi, List.getElem?_eq_getElem (show j < m.length by omega)] at he
    have := (List.getElem_inj h).1 he
    omega
  · intro h
    rw [List.nodup_iff_pairwise_ne, List.pairwise_iff_getElem]
    intro j i hj hi hji he
    refine h i hi ?_
    have : nb m i = m[i] := by unfold nb; rw [List.getD_eq_getElem?_getD, List.getElem?_eq_getElem hi]; rfl
    rw [this, ← he, List.mem_iff_getElem]
    exact ⟨j, by rw [List.length_take]; omega, by rw [List.getElem_take]⟩

theorem earK_one {g m : List Nat} {there : Nat} : EarK 0 g.length g there m ↔ Ear1 g m := by
  constructor
  · intro e
    obtain ⟨h4, hh⟩ := e.first rfl
    have hne : m ≠ [] := by rintro rfl; simp at h4
    refine ⟨h4, ?_, ?_, e.tr, e.lt⟩
    · unfold nb at hh
      rw [List.getD_eq_getElem?_getD, List.getD_eq_getElem?_getD, List.getElem?_eq_getElem (show 0 < m.length by omega), List.getElem?_eq_getElem (show m.length - 1 < m.length by omega)] at hh
      rw [List.head?_eq_getElem?, List.getLast?_eq_getElem?, List.getElem?_eq_getElem (show 0 < m.length by omega), List.getElem?_eq_getElem (show m.length - 1 < m.length by omega)]
      exact congrArg some hh
    · rw [nodup_fresh]
      intro i hi
      rw [List.length_dropLast] at hi
      have h1 := e.fresh i (by omega) (.inr (by omega))
      have h2 : nb m.dropLast i = nb m i := by
        unfold nb; rw [List.getD_eq_getElem?_getD, List.getD_eq_getElem?_getD, List.getElem?_dropLast, if_pos (by omega)]
      rw [h2, List.dropLast_eq_take, List.take_take, Nat.min_eq_left (by omega)]
      exact h1
  · intro e
    have h4 := e.len
    have hh := e.ends
    refine ⟨by omega, fun _ => ⟨h4, ?_⟩, e.lt, e.tr, ?_, fun h => absurd h (by omega)⟩
    · rw [List.head?_eq_getElem?, List.getLast?_eq_getElem?] at hh
      unfold nb
      rw [List.getD_eq_getElem?_getD, List.getD_eq_getElem?_getD, hh]
    · intro i hi hor
      have h1 := nodup_fresh.1 e.nodup i (by rw [List.length_dropLast]; omega)
      have h2 : nb m.dropLast i = nb m i := by
        unfold nb; rw [List.getD_eq_getElem?_getD, List.getD_eq_getElem?_getD, List.getElem?_dropLast, if_pos (by omega)]
      rw [h2, List.dropLast_eq_take, List.take_take, Nat.min_eq_left (by omega)] at h1
      exact h1

theorem earK_two {k n there : Nat} {left m : List Nat} (hk : 0 < k) : EarK k n left there m ↔ Ear2 n left there m := by
  constructor
  · intro e
    exact ⟨e.len, nodup_fresh.2 fun i hi => e.fresh i hi (.inl hk), e.tr, e.bits hk, e.lt⟩
  · intro e
    exact ⟨e.len, fun h => absurd h (by omega), e.lt, e.tr, fun i hi _ => nodup_fresh.1 e.nodup i hi, fun _ => e.bits⟩

/-! ### The check of a list -/
/-- What a check has: nothing yet, or ears. -/
def ELk (g : List Nat) (es : List (List Nat)) (left : List Nat) (there : Nat) : Prop := (es = [] ∧ left = g ∧ there = 0) ∨ EL g es left there

theorem ELk.add {g : List Nat} {es : List (List Nat)} {left : List Nat} {there : Nat} {m : List Nat} (h : ELk g es left there) (e : EarK es.length g.length left there m) : ELk g (es ++ [m]) (delP left m) (there ||| setOf m) := by
  rcases h with ⟨rfl, rfl, rfl⟩ | h
  · rw [Nat.zero_or, List.nil_append]
    exact .inr (.first (earK_one.1 e))
  · have : 0 < es.length := by
      cases h with
      | first => simp
      | next => simp
    exact .inr (.next h ((earK_two this).1 e))

theorem EL.pos {g : List Nat} {es : List (List Nat)} {left : List Nat} {there : Nat} (h : EL g es left there) : 0 < es.length := by
  cases h with
  | first => simp
  | next => simp

/-- A list of ears takes a graph together. -/
def EarsOk (g : List Nat) (LL : List (List Int)) : Prop := ∃ es left, LL = es.map (fun m => m.map Int.ofNat) ∧ EL g es left (allN g) ∧ edgesP left = []

theorem EL.split {g : List Nat} {es : List (List Nat)} {left : List Nat} {there : Nat} (h : EL g es left there) : ∀ (i : Nat) (m : List Nat), es[i]? = some m → ∃ left' there', ELk g (es.take i) left' there' ∧ EarK i g.length left' there' m := by
  induction h with
  | @first m e =>
    intro i x hx
    have hi := (List.getElem?_eq_some_iff.1 hx).1
    simp at hi
    subst hi
    simp at hx
    subst hx
    exact ⟨g, 0, .inl ⟨rfl, rfl, rfl⟩, earK_one.2 e⟩
  | @next es left there m h e ih =>
    intro i x hx
    have hi := (List.getElem?_eq_some_iff.1 hx).1
    by_cases hlt : i < es.length
    · rw [List.getElem?_append_left hlt] at hx
      obtain ⟨l', t', h1, h2⟩ := ih i x hx
      refine ⟨l', t', ?_, h2⟩
      rw [List.take_append_of_le_length (by omega)]
      exact h1
    · simp at hi
      have : i = es.length := by omega
      subst this
      simp at hx
      subst hx
      refine ⟨left, there, ?_, (earK_two h.pos).2 e⟩
      rw [List.take_append_of_le_length (by omega), List.take_of_length_le (by omega)]
      exact .inr h

theorem ELk.fun_ {g : List Nat} {es : List (List Nat)} {l1 l2 : List Nat} {t1 t2 : Nat} (h1 : ELk g es l1 t1) (h2 : ELk g es l2 t2) : l1 = l2 ∧ t1 = t2 := by
  have key : ∀ {es : List (List Nat)} {l1 : List Nat} {t1 : Nat}, EL g es l1 t1 → ∀ {l2 : List Nat} {t2 : Nat}, EL g es l2 t2 → l1 = l2 ∧ t1 = t2 := by
    intro es l1 t1 h
    induction h with
    | @first m e =>
      intro l2 t2 h2
      generalize hes : [m] = es at h2
      cases h2 with
      | first e' => cases hes; exact ⟨rfl, rfl⟩
      | next h' e' =>
        have h3 := h'.pos
        have h5 := congrArg List.length hes
        rw [List.length_append, List.length_singleton, List.length_singleton] at h5
        omega
    | @next es left there m h e ih =>
      intro l2 t2 h2
      generalize hes : es ++ [m] = es' at h2
      cases h2 with
      | first e' =>
        have h3 := h.pos
        have h5 := congrArg List.length hes
        rw [List.length_append, List.length_singleton, List.length_singleton] at h5
        omega
      | next h' e' =>
        obtain ⟨h3, h4⟩ := List.append_inj' hes rfl
        cases h3; cases h4
        obtain ⟨rfl, rfl⟩ := ih h'
        exact ⟨rfl, rfl⟩
  rcases h1 with ⟨rfl, rfl, rfl⟩ | h1
  · rcases h2 with ⟨_, rfl, rfl⟩ | h2
    · exact ⟨rfl, rfl⟩
    · exact absurd h2.pos (by simp)
  · rcases h2 with ⟨rfl, _, _⟩ | h2
    · exact absurd h1.pos (by simp)
    · exact key h1 h2

theorem EL.ear_len {g : List Nat} {es : List (List Nat)} {left : List Nat} {there : Nat} (h : EL g es left there) : ∀ m ∈ es, m.length ≤ g.length + 1 := by
  intro m hm
  obtain ⟨i, hi, rfl⟩ := List.mem_iff_getElem.1 hm
  obtain ⟨l', t', hk0, e⟩ := h.split i _ (List.getElem?_eq_getElem hi)
  by_cases hk : 0 < i
  · have e2 := (earK_two hk).1 e
    have := nodes_le e2.nodup e2.lt
    omega
  · have : i = 0 := by omega
    subst this
    have hlg : l' = g := by
      rcases hk0 with ⟨_, h1, _⟩ | h1
      · exact h1
      · exact absurd h1.pos (by simp)
    rw [hlg] at e
    have e1 := earK_one.1 e
    have := nodes_le e1.nodup (fun x hx => e1.lt x (List.dropLast_subset _ hx))
    rw [List.length_dropLast] at this
    omega

theorem EL.three {g : List Nat} (hg : GrN g) {es : List (List Nat)} {left : List Nat} {there : Nat} (h : EL g es left there) : 3 ≤ pop there := by
  have hlen := hg.len
  induction h with
  | @first m e =>
    obtain ⟨a, p, rfl, hn, hp⟩ := e.snoc
    have hset : setOf (a :: (p ++ [a])) = setOf (a :: p) := Nat.eq_of_testBit_eq fun i => by
      rw [Bool.eq_iff_iff, setOf_bit, setOf_bit]
      simp only [List.mem_cons, List.mem_append, List.not_mem_nil, or_false]
      exact ⟨fun h => h.elim .inl fun h => h.elim .inr .inl, fun h => h.elim .inl fun h => .inr (.inl h)⟩
    rw [hset, pop_setOf hn fun x hx => Nat.lt_of_lt_of_le (e.lt x (by rw [← List.cons_append]; exact List.mem_append_left _ hx)) hlen, List.length_cons]
    omega
  | @next es left there m h e ih =>
    exact Nat.le_trans ih (pop_le_of fun j hj => by rw [Nat.testBit_or, hj]; rfl)

theorem EarsOk.small {g : List Nat} (hg : GrN g) {LL : List (List Int)} (h : EarsOk g LL) : LL.length ≤ 48 ∧ ∀ x ∈ LL, x.length ≤ 11 := by
  have hlen := hg.len
  obtain ⟨es, left, rfl, h1, h2⟩ := h
  have hs := (h1.inv hg).sum
  have h3 := h1.three hg
  have hd := dsum_le g
  refine ⟨by rw [List.length_map]; omega, fun x hx => ?_⟩
  obtain ⟨m, hm, rfl⟩ := List.mem_map.1 hx
  have := h1.ear_len m hm
  rw [List.length_map]
  omega

/-- A cut list says the same. -/
theorem EarsOk.cut {g : List Nat} (hg : GrN g) {LL : List (List Int)} : EarsOk g ((LL.take 50).map fun m => m.take 16) ↔ EarsOk g LL := by
  have hid : ∀ (L : List (List Int)), (∀ x ∈ L, x.length ≤ 16) → (L.map fun m => m.take 16) = L := by
    intro L
    induction L with
    | nil => intro _; rfl
    | cons x L ih =>
      intro h
      rw [List.map_cons, ih fun y hy => h y (List.mem_cons_of_mem _ hy), List.take_of_length_le (h x List.mem_cons_self)]
  constructor
  · intro h
    obtain ⟨h1, h2⟩ := h.small hg
    rw [List.length_map, List.length_take] at h1
    have h3 : LL.take 50 = LL := List.take_of_length_le (by omega)
    rw [h3] at h h2
    rw [hid] at h
    · exact h
    · intro x hx
      have := h2 _ (List.mem_map.2 ⟨x, hx, rfl⟩)
      rw [List.length_take] at this
      omega
  · intro h
    obtain ⟨h1, h2⟩ := h.small hg
    rw [List.take_of_length_le (by omega), hid _ fun x hx => by have := h2 x hx; omega]
    exact h

/-! ### No cut node -/
end Go.AM

end

section

/- The document's check of ears: edges that are used. -/
namespace Go.AM
open Go.Proofs
variable {R : Type}
attribute [local simp] nx_eq nx_new nx_set blk_new blk_set asI_int asK_int asB_bool asP_ptr al_eq bx_eq len_slice onE_exit onE_ret onR_ret Value.cells cell_new cell_set rd_new rd_set off eq lt le ifB gv out ext20 ext21
/-! ### Plain -/
theorem ch_snoc {g : List Nat} : ∀ (m : List Nat) (a b : Nat), Ch g (m ++ [a, b]) ↔ Ch g (m ++ [a]) ∧ adj g a b = true
  | [], _, _ => ⟨fun h => ⟨trivial, h.1⟩, fun h => ⟨h.2, trivial⟩⟩
  | [x], _, _ => ⟨fun h => ⟨⟨h.1, trivial⟩, h.2.1⟩, fun h => ⟨h.1.1, h.2, trivial⟩⟩
  | x :: y :: m, a, b => by
    have := ch_snoc (g := g) (y :: m) a b
    exact ⟨fun h => ⟨⟨h.1, (this.1 h.2).1⟩, (this.1 h.2).2⟩, fun h => ⟨h.1.1, this.2 ⟨h.1.2, h.2⟩⟩⟩

theorem tra_pre : ∀ (p q : List Nat) (g : List Nat), Tra g (p ++ q) → Tra g p
  | [], _, _, _ => trivial
  | [_], _, _, _ => trivial
  | a :: b :: p, q, g, h => ⟨h.1, tra_pre (b :: p) q (delE g a b) h.2⟩

theorem take_two {m : List Nat} {i : Nat} (h : i + 1 < m.length) : m.take (i + 2) = m.take i ++ [nb m i, nb m (i + 1)] ∧ m.take (i + 1) = m.take i ++ [nb m i] := by
  have h1 : m[i]? = some (nb m i) := by unfold nb; rw [List.getD_eq_getElem?_getD, List.getElem?_eq_getElem (show i < m.length by omega)]; rfl
  have h2 : m[i + 1]? = some (nb m (i + 1)) := by unfold nb; rw [List.getD_eq_getElem?_getD, List.getElem?_eq_getElem h]; rfl
  have e1 : m.take (i + 1) = m.take i ++ [nb m i] := by rw [List.take_add_one, h1]; rfl
  refine ⟨?_, e1⟩
  rw [show i + 2 = (i + 1) + 1 from rfl, List.take_add_one, h2, e1, List.append_assoc]; rfl

/-- The edges that ears have used. -/
structure UR (g left : List Nat) (used : List (Nat × Nat)) : Prop where
  nodup : used.Nodup
  mem : ∀ e, e ∈ used ↔ e ∈ edgesP g ∧ e ∉ edgesP left

section
variable {g left : List Nat} {used : List (Nat × Nat)}
theorem edges_sub (hll : left.length = g.length) (hsub : ∀ x y, adj left x y = true → adj g x y = true) {e : Nat × Nat} (h : e ∈ edgesP left) : e ∈ edgesP g := by
  obtain ⟨h1, h2, h3⟩ := mem_edges.1 h
  exact mem_edges.2 ⟨h1, by omega, hsub _ _ h3⟩

theorem UR.count (h : UR g left used) (hll : left.length = g.length) (hsub : ∀ x y, adj left x y = true → adj g x y = true) : used.length + (edgesP left).length = (edgesP g).length := by
  rw [← List.length_append]
  refine perm_len ?_ (edges_nd g) fun e => ?_
  · rw [List.nodup_append]
    refine ⟨h.nodup, edges_nd left, ?_⟩
    rintro a ha b hb rfl
    exact ((h.mem a).1 ha).2 hb
  · rw [List.mem_append]
    constructor
    · rintro (h1 | h1)
      · exact ((h.mem e).1 h1).1
      · exact edges_sub hll hsub h1
    · intro h1
      by_cases h2 : e ∈ edgesP left
      · exact .inr h2
      · exact .inl ((h.mem e).2 ⟨h1, h2⟩)

theorem edge_of (hg : GrN g) {a b : Nat} : (min a b, max a b) ∈ edgesP g ↔ adj g a b = true := by
  rw [mem_edges]
  dsimp only
  rcases Nat.lt_trichotomy a b with h | h | h
  · rw [Nat.min_eq_left (by omega), Nat.max_eq_right (by omega)]
    exact ⟨fun h => h.2.2, fun h1 => ⟨h, (hg.adj_lt h1).2, h1⟩⟩
  · subst h
    rw [Nat.min_self, Nat.max_self, hg.irr]
    simp
  · rw [Nat.min_eq_right (by omega), Nat.max_eq_left (by omega), hg.sym b a]
    exact ⟨fun h => h.2.2, fun h1 => ⟨h, (hg.adj_lt h1).1, h1⟩⟩

theorem UR.has (h : UR g left used) (hg : GrN g) (hgl : GrN left) {a b : Nat} (hab : adj g a b = true) : (min a b, max a b) ∈ used ↔ adj left a b = false := by
  rw [h.mem, edge_of hg, edge_of hgl, Bool.not_eq_true]
  exact ⟨fun h => h.2, fun h => ⟨hab, h⟩⟩

theorem UR.add (h : UR g left used) (hg : GrN g) (hgl : GrN left) (hll : left.length = g.length) (hsub : ∀ x y, adj left x y = true → adj g x y = true) {a b : Nat} (hab : adj left a b = true) : UR g (delE left a b) (used ++ [(min a b, max a b)]) := by
  have hgd := hgl.delE hab
  obtain ⟨ha, hb⟩ := hgl.adj_lt hab
  have hne : a ≠ b := by rintro rfl; rw [hgl.irr] at hab; cases hab
  constructor
  · rw [List.nodup_append]
    refine ⟨h.nodup, by simp, ?_⟩
    rintro x hx y hy rfl
    rw [List.mem_singleton] at hy
    rw [hy] at hx
    have := (h.has hg hgl (hsub _ _ hab)).1 hx
    rw [hab] at this; cases this
  · intro e
    rw [List.mem_append, List.mem_singleton, h.mem]
    have hdel : e ∈ edgesP (delE left a b) ↔ e ∈ edgesP left ∧ e ≠ (min a b, max a b) := by
      rw [mem_edges, mem_edges, delE_len, adj_delE ha hb hne, Bool.and_eq_true, Bool.not_eq_true', Bool.or_eq_false_iff, decide_eq_false_iff_not, decide_eq_false_iff_not]
      constructor
      · rintro ⟨h1, h2, h3, h4, h5⟩
        refine ⟨⟨h1, h2, h3⟩, ?_⟩
        rintro rfl
        rcases Nat.lt_or_ge a b with h | h
        · exact h4 ⟨Nat.min_eq_left (by omega), Nat.max_eq_right (by omega)⟩
        · exact h5 ⟨Nat.min_eq_right (by omega), Nat.max_eq_left (by omega)⟩
      · rintro ⟨⟨h1, h2, h3⟩, h4⟩
        refine ⟨h1, h2, h3, fun h => h4 ?_, fun h => h4 ?_⟩
        · exact Prod.ext (by simp only; omega) (by simp only; omega)
        · exact Prod.ext (by simp only; omega) (by simp only; omega)
    rw [hdel]
    have hin : (min a b, max a b) ∈ edgesP left := (edge_of hgl).2 hab
    constructor
    · rintro (⟨h1, h2⟩ | rfl)
      · exact ⟨h1, fun h => h2 h.1⟩
      · exact ⟨edges_sub hll hsub hin, fun h => h.2 rfl⟩
    · rintro ⟨h1, h2⟩
      by_cases he : e = (min a b, max a b)
      · exact .inr he
      · exact .inl ⟨h1, fun h => h2 ⟨h, he⟩⟩

end
/-! ### The walk -/
theorem SlR.atN {h : H} {v : Value} {m : List Nat} (hs : SlR h 3 1 v (cellsN m)) {i : Nat} (hi : i < m.length) : ∃ b o, b < h.nx ∧ (∀ h', Ext h h' → h'.cell b o = some (iv (nb m i : Nat))) ∧ ∀ {R : Type} (K : Nat → Nat → Option R), AM.six v (i : Int) 1 K = K b o := by
  have hx : (cellsN m)[((i : Nat) : Int).toNat]? = some [iv (nb m i : Nat)] := by
    rw [Int.toNat_natCast, List.getElem?_map]; unfold nb; rw [List.getD_eq_getElem?_getD, List.getElem?_eq_getElem hi]; rfl
  obtain ⟨b, o, cs, own, h1, h2, h3, h4, h5, h6⟩ := hs.six (by omega) hx
  refine ⟨b, o, h1, fun h' x => ?_, h6⟩
  have := cell_of ((x.blk b h1).trans h2) (o := o)
  rw [this, show cs[o]? = cs[o + 0]? from rfl, h5 0 (by omega)]; rfl

set_option maxHeartbeats 1000000 in
theorem s56_l4 {K : Nat} {ws3 : List Value} {h5 h7 : H} {used : List (Nat × Nat)} {a b : Nat} {w : Value} (hu : SlR h7 32 2 (AM.gv ws3 1) (cellsP used)) (hb : h7.blk h5.nx = some (.row [iv a, iv b] 32 true)) (hb' : h5.nx < h7.nx) (hK : used.length < K) :
    ((a, b) ∉ used ∧ ∃ w' h', lpGo (f56_l4 rn K ws3 h5 used.length) K [w, iv 0] h7 = some (.exit 6, [w, w'], h') ∧ Ext h7 h') ∨
    ((a, b) ∈ used ∧ ∃ w' h', lpGo (f56_l4 rn K ws3 h5 used.length) K [w, iv 0] h7 = some (.ret, [.bool false, w'], h') ∧ Ext h7 h') := by
  have hlt := hu.lt62
  rw [List.length_map] at hlt
  obtain ⟨e, ws', h', hl, xg, hor⟩ := lp_range (F := f56_l4 rn K ws3 h5 used.length) (k := K) (n := used.length)
    (fun i ws g => ws = [w, iv i] ∧ Ext h7 g ∧ ∀ j x, j < i → used[j]? = some x → x ≠ (a, b))
    (fun e ws g => Ext h7 g ∧ ((e = .exit 6 ∧ (a, b) ∉ used ∧ ∃ w', ws = [w, w']) ∨ (e = .ret ∧ (a, b) ∈ used ∧ ∃ w', ws = [.bool false, w'])))
    (by
      rintro i ws g hi ⟨rfl, xg, hno⟩
      have hx := List.getElem?_eq_getElem hi
      generalize hxd : used[i] = x at hx
      obtain ⟨x1, x2⟩ := x
      have hadd : add .i64 (i : Int) 1 = ((i + 1 : Nat) : Int) := by rw [add64 (by omega) (by omega)]; omega
      obtain ⟨g2, hg2⟩ : ∃ g2, g2 = (g.new (.row [.int .i64 0, .int .i64 0] 32 true)).set g.nx (.row [iv x1, iv x2] 32 true) := ⟨_, rfl⟩
      have hb2 : g2.blk g.nx = some (.row [iv x1, iv x2] 32 true) := by rw [hg2]; exact blk_set_self _ _ _
      have xg2 : Ext g g2 := by rw [hg2]; exact ((Ext.refl g).new' _).set (Nat.le_refl _) _
      have hbe : g2.blk h5.nx = some (.row [iv a, iv b] 32 true) := ((xg.trans xg2).blk _ hb').trans hb
      have w2 : ∀ (Q : H → Option (Ex × List Value × H)), (wrc 2 (g.new (.row [.int .i64 0, .int .i64 0] 32 true)) g.nx 0 (.agg #[iv x1, iv x2])).bind Q = Q g2 := fun Q => by
        rw [hg2]; unfold wrc; rw [blk_new_self]; rfl
      have e1 : ∀ (Q : Value → Option (Ex × List Value × H)), (six (AM.gv ws3 1) (i : Int) 2 fun b o => ld Tryd.prog g 32 b o Q) = Q (.agg #[iv x1, iv x2]) := fun Q =>
        (hu.ext xg).ldA ag32 sz32 (by omega) (x := [iv x1, iv x2]) (by rw [Int.toNat_natCast, List.getElem?_map, hx]; rfl) Q
      have start : f56_l4 rn K ws3 h5 used.length [w, iv i] g = ifB ((x1 : Int) == (a : Int) && (x2 : Int) == (b : Int)) (some (.ret, [.bool false, iv i], g2)) (some (.normal, [w, iv ((i + 1 : Nat) : Int)], g2)) := by
        unfold f56_l4
        rw [show AM.gv [w, iv i] 1 = iv i from rfl, show AM.gv [w, iv i] 0 = w from rfl, asI_int, lt_t (by omega), ifB_true, asK_int, e1, al_eq, w32, nx_eq, w2]
        simp only [d32, show g2.rd g.nx 0 2 = some [iv (x1 : Int), iv (x2 : Int)] from rd_all hb2 rfl, nx_eq, show g2.rd h5.nx 0 2 = some [iv (a : Int), iv (b : Int)] from rd_all hbe rfl, Option.bind_some]
        rw [show (Value.agg [iv (x1 : Int), iv (x2 : Int)].toArray) = .agg #[iv x1, iv x2] from rfl, show (Value.agg [iv (a : Int), iv (b : Int)].toArray) = .agg #[iv a, iv b] from rfl, keqv32, asI_int, hadd]
        rfl
      by_cases hxe : (x1, x2) = (a, b)
      · cases hxe
        refine ⟨.ret, _, g2, by rw [start]; simp; rfl, .inr ⟨by simp, xg.trans xg2, .inr ⟨rfl, List.mem_of_getElem? hx, _, rfl⟩⟩⟩
      · have hfalse : ((x1 : Int) == (a : Int) && (x2 : Int) == (b : Int)) = false := by
          rw [Bool.eq_false_iff]
          intro hh
          rw [Bool.and_eq_true, beq_iff_eq, beq_iff_eq] at hh
          exact hxe (Prod.ext (by simp only; omega) (by simp only; omega))
        refine ⟨.normal, _, g2, by rw [start, hfalse, ifB_false], .inl ⟨rfl, rfl, xg.trans xg2, fun j y hj hy => ?_⟩⟩
        by_cases hji : j = i
        · subst hji
          rw [hx] at hy
          cases hy
          exact hxe
        · exact hno j y (by omega) hy)
    (by
      rintro ws g ⟨rfl, xg, hno⟩
      refine ⟨.exit 6, [w, iv used.length], g, by simp [f56_l4], by simp, xg, .inl ⟨rfl, fun hm => ?_, _, rfl⟩⟩
      obtain ⟨j, hj, he⟩ := List.mem_iff_getElem.1 hm
      exact hno j _ hj (List.getElem?_eq_getElem hj) he)
    (ws := [w, iv 0]) (h := h7) hK ⟨rfl, .refl _, fun j x hj => by omega⟩
  rcases hor with ⟨rfl, h1, w', rfl⟩ | ⟨rfl, h1, w', rfl⟩
  · exact .inl ⟨h1, w', h', hl, xg⟩
  · exact .inr ⟨h1, w', h', hl, xg⟩

theorem imin_nat {a b : Nat} : imin (a : Int) (b : Int) = ((min a b : Nat) : Int) := by unfold imin; split <;> omega

theorem imax_nat {a b : Nat} : imax (a : Int) (b : Int) = ((max a b : Nat) : Int) := by unfold imax; split <;> omega

set_option maxHeartbeats 2000000 in
theorem s56_l3 {K : Nat} {v2 w uv : Value} {m left G : List Nat} {h0 h : H} {used : List (Nat × Nat)} (hG : GrN G) (hgl : GrN left) (hll : left.length = G.length) (hsub : ∀ x y, adj left x y = true → adj G x y = true) (hm2 : 2 ≤ m.length) (hml : m.length < 4611686018427387904) (hch : Ch G m)
    (hs : SlR h0 3 1 v2 (cellsN m)) (xh : Ext h0 h) (hu : AqR h0.nx h 32 2 uv (cellsP used)) (hU : UR G left used) (hK : 200 ≤ K) (hmK : m.length < K) :
    (Tra left m ∧ ∃ uv' used' z h', lpGo (f56_l3 rn K v2 m.length) K [w, uv, iv 1] h = some (.exit 4, [w, uv', z], h') ∧ Ext h0 h' ∧ AqR h0.nx h' 32 2 uv' (cellsP used') ∧ UR G (delP left m) used') ∨
    (¬ Tra left m ∧ ∃ ws' h', lpGo (f56_l3 rn K v2 m.length) K [w, uv, iv 1] h = some (.ret, .bool false :: ws', h') ∧ Ext h0 h') := by
  obtain ⟨e, ws', h', hl, xg, hor⟩ := lp_range (F := f56_l3 rn K v2 m.length) (k := K) (n := m.length - 1)
    (fun i ws g => ∃ uv' used', ws = [w, uv', iv ((i + 1 : Nat) : Int)] ∧ Ext h0 g ∧ AqR h0.nx g 32 2 uv' (cellsP used') ∧ Tra left (m.take (i + 1)) ∧ UR G (delP left (m.take (i + 1))) used')
    (fun e ws g => Ext h0 g ∧ ((e = .exit 4 ∧ Tra left m ∧ ∃ uv' used' z, ws = [w, uv', z] ∧ AqR h0.nx g 32 2 uv' (cellsP used') ∧ UR G (delP left m) used') ∨ (e = .ret ∧ ¬ Tra left m ∧ ∃ ws', ws = .bool false :: ws')))
    (by
      rintro i ws g hi ⟨uv', used', rfl, xg, ha, ht, hUi⟩
      have him : i + 1 < m.length := by omega
      obtain ⟨t2, t1⟩ := take_two him
      obtain ⟨x, hx⟩ : ∃ x, nb m i = x := ⟨_, rfl⟩
      obtain ⟨y, hy⟩ : ∃ y, nb m (i + 1) = y := ⟨_, rfl⟩
      have hxy : adj G x y = true := by rw [← hx, ← hy]; exact ch_get m hch i him
      rw [hx] at t1 t2
      rw [hy] at t2
      have hgi : GrN (delP left (m.take (i + 1))) := hgl.delP _ ht
      have hli : (delP left (m.take (i + 1))).length = G.length := (delP_len _ _).trans hll
      have hsi : ∀ a b, adj (delP left (m.take (i + 1))) a b = true → adj G a b = true := fun a b h => hsub a b ((adj_delP _ hgl ht a b).1 h).1
      have hcnt := hUi.count hli hsi
      have hel := edges_len G hG.toGrB
      have hsubi : AM.sub .i64 ((i + 1 : Nat) : Int) 1 = (i : Int) := by rw [sub64 (by omega) (by omega)]; omega
      have hadd : add .i64 ((i + 1 : Nat) : Int) 1 = ((i + 1 + 1 : Nat) : Int) := by rw [add64 (by omega) (by omega)]; omega
      obtain ⟨b1, o1, hb1, hc1, hs1⟩ := hs.atN (i := i) (by omega)
      obtain ⟨b2, o2, hb2, hc2, hs2⟩ := hs.atN (i := i + 1) him
      have d1 := hc1 g xg
      have d2 := hc2 g xg
      rw [hx] at d1
      rw [hy] at d2
      have hn0 := xg.nx
      obtain ⟨g2, hg2⟩ : ∃ g2, g2 = (g.new (.row [.int .i64 0, .int .i64 0] 32 true)).set g.nx (.row [iv ((min x y : Nat) : Int), iv ((max x y : Nat) : Int)] 32 true) := ⟨_, rfl⟩
      have hbk2 : g2.blk g.nx = some (.row [iv ((min x y : Nat) : Int), iv ((max x y : Nat) : Int)] 32 true) := by rw [hg2]; exact blk_set_self _ _ _
      have n2 : g2.nx = g.nx + 1 := by rw [hg2]; rfl
      have xg2 : Ext g g2 := by rw [hg2]; exact ((Ext.refl g).new' _).set (Nat.le_refl _) _
      have hfr : ∀ b, b < h0.nx → freq b g.nx (same (g.new (.row [.int .i64 0, .int .i64 0] 32 true)) g) = true := fun b hb => by
        have : same (g.new (.row [.int .i64 0, .int .i64 0] 32 true)) g = true := by simp [same, (Exw.new g _).wr]
        unfold freq
        rw [this, decide_eq_true (by omega)]; rfl
      have w2 : ∀ (Q : H → Option (Ex × List Value × H)), (wrc 2 (g.new (.row [.int .i64 0, .int .i64 0] 32 true)) g.nx 0 (.agg #[iv ((min x y : Nat) : Int), iv ((max x y : Nat) : Int)])).bind Q = Q g2 := fun Q => by
        rw [hg2]; unfold wrc; rw [blk_new_self]; rfl
      have hnu : ∀ {T : Type} (Q : Int → Option T), len uv' Q = Q (used'.length : Int) := fun Q => by rw [ha.slR.len]; simp
      have start : ∀ r, (lp K (f56_l4 rn K [w, uv', iv ((i + 1 : Nat) : Int)] g used'.length) [w, (.int .i64 0)] g2 fun e1 ws5 h11 =>
            onE e1 6 (
              ld Tryd.prog h11 32 g.nx 0 fun v18 =>
              bls Tryd.prog h11 24 1 [(0, v18)] fun v19 h12 =>
              app Tryd.prog h12 24 24 uv' v19 fun v20 h13 =>
              AM.out .normal [AM.gv ws5 0, v20, (.int .i64 ((i + 1 + 1 : Nat) : Int))] h13) (
              onR e1 (
                AM.out .ret [AM.gv ws5 0, uv', iv ((i + 1 : Nat) : Int)] h11))) = r → f56_l3 rn K v2 m.length [w, uv', iv ((i + 1 : Nat) : Int)] g = r := by
        intro r hr
        unfold f56_l3
        rw [show AM.gv [w, uv', iv ((i + 1 : Nat) : Int)] 2 = iv ((i + 1 : Nat) : Int) from rfl, show AM.gv [w, uv', iv ((i + 1 : Nat) : Int)] 1 = uv' from rfl, show AM.gv [w, uv', iv ((i + 1 : Nat) : Int)] 0 = w from rfl, asI_int, lt_t (by omega), ifB_true, asI_int, hsubi, hs1]
        simp only [d3, d1, Option.bind_some]
        rw [asI_int, asK_int, hs2]
        simp only [d2, Option.bind_some]
        rw [asI_int, asI_int, hsubi, hs1]
        simp only [d1, Option.bind_some]
        rw [asI_int, asK_int, hs2]
        simp only [d2, Option.bind_some]
        rw [asI_int, imin_nat, imax_nat, kbld32, al_eq, nx_eq, hfr b2 hb2, ck_true, hfr b1 hb1, ck_true, ck_true, ck_true, w32, w2, hnu]
        simp only [asI_int, hadd]
        exact hr
      have hl4 := s56_l4 (K := K) (ws3 := [w, uv', iv ((i + 1 : Nat) : Int)]) (h5 := g) (h7 := g2) (used := used') (a := min x y) (b := max x y) (w := w) (ha.slR.ext xg2) hbk2 (by omega) (by omega)
      have hiff := hUi.has hG hgi hxy
      rcases hl4 with ⟨hnot, w', g3, e3, x3⟩ | ⟨hin, w', g3, e3, x3⟩
      · have hadj : adj (delP left (m.take (i + 1))) x y = true := by
          cases hc : adj (delP left (m.take (i + 1))) x y with
          | true => rfl
          | false => exact absurd (hiff.2 hc) hnot
        have hb3 : g3.blk g.nx = some (.row [iv ((min x y : Nat) : Int), iv ((max x y : Nat) : Int)] 32 true) := (x3.blk _ (by omega)).trans hbk2
        have xall := xg.trans (xg2.trans x3)
        obtain ⟨sv', h2, e2, a2, nn2, k2, b3, hb3', hb3''⟩ := (ha.ext (xg2.trans x3)).push app24 app24 (bls24 ((min x y : Nat) : Int) ((max x y : Nat) : Int)) rfl rfl (by rw [List.length_map]; omega) xall.nx
        refine ⟨.normal, [w, sv', iv ((i + 1 + 1 : Nat) : Int)], h2, start _ ?_, .inl ⟨rfl, sv', used' ++ [(min x y, max x y)], rfl, ⟨by have := xall.nx; omega, fun b hb => ?_⟩, ?_, ?_, ?_⟩⟩
        · refine (lp_eq e3).trans ?_
          rw [onE_exit, if_pos rfl]
          simp only [d32, show g3.rd g.nx 0 2 = some [iv ((min x y : Nat) : Int), iv ((max x y : Nat) : Int)] from rd_all hb3 rfl, Option.bind_some]
          rw [show (Value.agg [iv ((min x y : Nat) : Int), iv ((max x y : Nat) : Int)].toArray) = .agg #[iv ((min x y : Nat) : Int), iv ((max x y : Nat) : Int)] from rfl, e2]
          rfl
        · rw [k2 b (by have := xall.nx; omega) (fun e => by have := (ha.blkOf e).1; omega)]
          exact xall.blk b hb
        · have : cellsP (used' ++ [(min x y, max x y)]) = cellsP used' ++ [[iv ((min x y : Nat) : Int), iv ((max x y : Nat) : Int)]] := by simp
          rw [this]; exact a2
        · rw [show i + 1 + 1 = i + 2 from rfl, t2, tra_snoc, ← t1]
          exact ⟨ht, hadj⟩
        · rw [show i + 1 + 1 = i + 2 from rfl, t2, delP_snoc, ← t1]
          exact hUi.add hG hgi hli hsi hadj
      · have hadj := hiff.1 hin
        refine ⟨.ret, [.bool false, uv', iv ((i + 1 : Nat) : Int)], g3, start _ ?_, .inr ⟨by simp, xg.trans (xg2.trans x3), .inr ⟨rfl, fun hT => ?_, _, rfl⟩⟩⟩
        · refine (lp_eq e3).trans ?_
          rw [onE_ret, onR_ret]
          rfl
        · have h1 := tra_pre (m.take (i + 2)) (m.drop (i + 2)) left (by rw [List.take_append_drop]; exact hT)
          rw [t2, tra_snoc, ← t1, hadj] at h1
          cases h1.2)
    (by
      rintro ws g ⟨uv', used', rfl, xg, ha, ht, hUi⟩
      rw [show m.length - 1 + 1 = m.length by omega] at *
      rw [List.take_length] at ht hUi
      refine ⟨.exit 4, [w, uv', iv (m.length : Nat)], g, ?_, by simp, xg, .inl ⟨rfl, ht, uv', used', _, rfl, ha, hUi⟩⟩
      unfold f56_l3
      rw [show AM.gv [w, uv', iv (m.length : Nat)] 2 = iv (m.length : Nat) from rfl, asI_int, show AM.lt (m.length : Int) (m.length : Int) = false by simp [AM.lt], ifB_false]
      rfl)
    (ws := [w, uv, iv 1]) (h := h) (by omega) ⟨uv, used, rfl, xh, hu, by
      cases m with
      | nil => simp at hm2
      | cons x m => exact trivial, by
      cases m with
      | nil => simp at hm2
      | cons x m => exact hU⟩
  rcases hor with ⟨rfl, h1, uv', used', z, rfl, h2, h3⟩ | ⟨rfl, h1, ws', rfl⟩
  · exact .inl ⟨h1, uv', used', z, h', hl, xg, h2, h3⟩
  · exact .inr ⟨h1, ws', h', hl, xg⟩

end Go.AM

end

section

/- The document's check of ears: whole. -/
namespace Go.AM
open Go.Proofs
variable {R : Type}
attribute [local simp] nx_eq nx_new nx_set blk_new blk_set asI_int asK_int asB_bool asP_ptr al_eq bx_eq len_slice onE_exit onE_ret onR_ret Value.cells cell_new cell_set rd_new rd_set off eq lt le ifB gv out ext20 ext21
/-! ### Plain -/
def FrOk (i met : Nat) (p : List Nat) : Prop := ∀ j, j < p.length → (j = 0 ∧ 0 < i → met.testBit (nb p j) = true) ∧ (¬ (j = 0 ∧ 0 < i) → met.testBit (nb p j) = false ∧ nb p j ∉ p.take j)

theorem nb_dropLast {m : List Nat} {j : Nat} (h : j + 1 < m.length) : nb m.dropLast j = nb m j := by
  unfold nb; rw [List.getD_eq_getElem?_getD, List.getD_eq_getElem?_getD, List.getElem?_dropLast, if_pos (by omega)]

theorem take_dropLast {m : List Nat} {j : Nat} (h : j + 1 ≤ m.length) : m.dropLast.take j = m.take j := by
  rw [List.dropLast_eq_take, List.take_take, Nat.min_eq_left (by omega)]

theorem mem_take_nb {m : List Nat} {k x : Nat} (h : x ∈ m.take k) : ∃ t, t < k ∧ t < m.length ∧ nb m t = x := by
  obtain ⟨t, ht, rfl⟩ := mem_nb h
  rw [List.length_take] at ht
  refine ⟨t, by omega, by omega, ?_⟩
  unfold nb; rw [List.getD_eq_getElem?_getD, List.getD_eq_getElem?_getD, List.getElem?_take_of_lt (by omega)]

theorem nb_mem_take {m : List Nat} {k t : Nat} (h1 : t < k) (h2 : t < m.length) : nb m t ∈ m.take k := by
  have : nb (m.take k) t = nb m t := by unfold nb; rw [List.getD_eq_getElem?_getD, List.getD_eq_getElem?_getD, List.getElem?_take_of_lt h1]
  rw [← this]; exact nb_mem (by rw [List.length_take]; omega)

theorem earK_iff {i n met : Nat} {left m : List Nat} (hi : i = 0 → met = 0) (hl : 2 ≤ m.length) (hlt : ∀ x ∈ m, x < n) :
    EarK i n left met m ↔ (i = 0 → 4 ≤ m.length ∧ nb m 0 = nb m (m.length - 1)) ∧ FrOk i met m.dropLast ∧ (0 < i → met.testBit (nb m (m.length - 1)) = true ∧ nb m (m.length - 1) ≠ nb m 0) ∧ Tra left m := by
  constructor
  · intro e
    refine ⟨e.first, ?_, ?_, e.tr⟩
    · intro j hj
      rw [List.length_dropLast] at hj
      rw [nb_dropLast (by omega), take_dropLast (by omega)]
      refine ⟨fun h => (e.bits h.2 j (by omega)).2 (.inl h.1), fun h => ⟨?_, e.fresh j (by omega) (.inr (by omega))⟩⟩
      by_cases h0 : 0 < i
      · refine Bool.eq_false_iff.2 fun hb => ?_
        rcases (e.bits h0 j (by omega)).1 hb with h1 | h1
        · exact h ⟨h1, h0⟩
        · omega
      · rw [hi (by omega)]; simp
    · intro h0
      refine ⟨(e.bits h0 (m.length - 1) (by omega)).2 (.inr (by omega)), fun he => ?_⟩
      refine e.fresh (m.length - 1) (by omega) (.inl h0) ?_
      rw [he]
      exact nb_mem_take (by omega) (by omega)
  · rintro ⟨h1, h2, h3, h4⟩
    have hf : ∀ j, j + 1 < m.length → (j = 0 ∧ 0 < i → met.testBit (nb m j) = true) ∧ (¬ (j = 0 ∧ 0 < i) → met.testBit (nb m j) = false ∧ nb m j ∉ m.take j) := fun j hj => by
      have := h2 j (by rw [List.length_dropLast]; omega)
      rw [nb_dropLast hj, take_dropLast (by omega)] at this
      exact this
    refine ⟨hl, h1, hlt, h4, ?_, ?_⟩
    · intro j hj hor
      by_cases hj1 : j + 1 < m.length
      · by_cases h0 : j = 0 ∧ 0 < i
        · rw [h0.1]; simp
        · exact ((hf j hj1).2 h0).2
      · have hj2 : j = m.length - 1 := by omega
        have h0 : 0 < i := by omega
        obtain ⟨b1, b2⟩ := h3 h0
        intro hm
        obtain ⟨t, ht1, ht2, ht3⟩ := mem_take_nb hm
        rw [hj2] at ht3
        by_cases htz : t = 0
        · rw [htz] at ht3; exact b2 ht3.symm
        · have := ((hf t (by omega)).2 fun h => htz h.1).1
          rw [ht3, b1] at this; cases this
    · intro h0 j hj
      constructor
      · intro hb
        by_cases hj1 : j + 1 < m.length
        · by_cases hz : j = 0
          · exact .inl hz
          · have := ((hf j hj1).2 fun h => hz h.1).1
            rw [hb] at this; cases this
        · exact .inr (by omega)
      · rintro (rfl | hj2)
        · exact (hf 0 (by omega)).1 ⟨rfl, h0⟩
        · rw [show j = m.length - 1 by omega]; exact (h3 h0).1

theorem met_dropLast {i met : Nat} {m : List Nat} (hl : 2 ≤ m.length) (h1 : i = 0 → nb m 0 = nb m (m.length - 1)) (h2 : 0 < i → met.testBit (nb m (m.length - 1)) = true) : met ||| setOf m.dropLast = met ||| setOf m := by
  obtain ⟨p, z, rfl⟩ := snoc_of (m := m) (by rintro rfl; simp at hl)
  rw [List.dropLast_concat]
  simp only [List.length_append, List.length_singleton, Nat.add_sub_cancel] at h1 h2 hl
  rw [nb_snoc] at h1 h2
  refine Nat.eq_of_testBit_eq fun b => ?_
  rw [Bool.eq_iff_iff, Nat.testBit_or, Nat.testBit_or, Bool.or_eq_true, Bool.or_eq_true, setOf_bit, setOf_bit, List.mem_append, List.mem_singleton]
  constructor
  · rintro (h | h)
    · exact .inl h
    · exact .inr (.inl h)
  · rintro (h | h | h)
    · exact .inl h
    · exact .inr h
    · by_cases h0 : i = 0
      · right
        rw [h, ← h1 h0, nb_app (by omega)]
        exact nb_mem (by omega)
      · left; rw [h]; exact h2 (by omega)

theorem setOf_snoc (q : List Nat) (x : Nat) : setOf (q ++ [x]) = setOf q ||| 2 ^ x := Nat.eq_of_testBit_eq fun i => by
  rw [Bool.eq_iff_iff, Nat.testBit_or, Bool.or_eq_true, setOf_bit, setOf_bit, List.mem_append, List.mem_singleton, Nat.testBit_two_pow, decide_eq_true_iff]
  exact ⟨fun h => h.elim .inl fun e => .inr e.symm, fun h => h.elim .inl fun e => .inr e.symm⟩

theorem map_inj {a b : List Nat} (h : a.map Int.ofNat = b.map Int.ofNat) : a = b := by
  have := congrArg (List.map Int.toNat) h
  rw [List.map_map, List.map_map] at this
  have e : (Int.toNat ∘ Int.ofNat) = id := rfl
  rw [e, List.map_id, List.map_id] at this
  exact this

theorem map2_inj {a b : List (List Nat)} (h : a.map (fun m => m.map Int.ofNat) = b.map (fun m => m.map Int.ofNat)) : a = b := by
  induction a generalizing b with
  | nil =>
    cases b with
    | nil => rfl
    | cons => simp at h
  | cons x a ih =>
    cases b with
    | nil => simp at h
    | cons y b =>
      rw [List.map_cons, List.map_cons, List.cons.injEq] at h
      rw [map_inj h.1, ih h.2]

section
variable {G : List Nat} {es : List (List Nat)} {left : List Nat} {met : Nat}
structure ElB (G : List Nat) (es : List (List Nat)) (left : List Nat) (met : Nat) : Prop where
  gr : GrN left
  len : left.length = G.length
  sub : ∀ x y, adj left x y = true → adj G x y = true
  tn : met < 2 ^ G.length
  zero : es.length = 0 → met = 0

theorem ELk.base (hG : GrN G) (h : ELk G es left met) : ElB G es left met := by
  rcases h with ⟨rfl, rfl, rfl⟩ | h
  · exact ⟨hG, rfl, fun _ _ h => h, Nat.two_pow_pos _, fun _ => rfl⟩
  · have i := h.inv hG
    exact ⟨i.gr, i.len, i.sub, i.tn, fun h0 => absurd h.pos (by omega)⟩

theorem not_ok {LL : List (List Int)} {i : Nat} {x : List Int} (hk : ELk G es left met) (ht : LL.take i = es.map fun m => m.map Int.ofNat) (hx : LL[i]? = some x) (hno : ∀ m : List Nat, x = m.map Int.ofNat → ¬ EarK i G.length left met m) : ¬ EarsOk G LL := by
  rintro ⟨es', left', rfl, hEL, _⟩
  rw [List.getElem?_map] at hx
  obtain ⟨m, hm, rfl⟩ := Option.map_eq_some_iff.1 hx
  obtain ⟨l', t', h1, h2⟩ := hEL.split i m hm
  rw [← List.map_take] at ht
  rw [map2_inj ht] at h1
  obtain ⟨rfl, rfl⟩ := h1.fun_ hk
  exact hno m rfl h2

end
/-! ### The walk -/
/-- A list walks along edges. -/
def StepsOk (g : List Nat) (l : List Int) : Prop := ∃ m : List Nat, l = m.map Int.ofNat ∧ (∀ x ∈ m, x < g.length) ∧ Ch g m

theorem s99 {v0 v1 : Value} {g : List Nat} {l : List Int} {h : H} (hg : GrN g) (hs : SlR h 3 1 v0 (cellsN g)) (hs1 : SlR h 3 1 v1 (cellsI l)) : ∃ q, rn 99 #[v0, v1] h = some (.bool q, h) ∧ (q = true ↔ StepsOk g l) := by
  have hlen := hg.len
  have hl62 := hs1.lt62
  rw [List.length_map] at hl62
  have hn1 : ∀ {T : Type} (K : Int → Option T), len v1 K = K (l.length : Int) := fun K => by rw [hs1.len]; simp
  have hn : ∀ {T : Type} (K : Int → Option T), len v0 K = K (g.length : Int) := fun K => by rw [hs.len]; simp
  obtain ⟨e, ws', h', hl, rfl, hor⟩ := lp_range (F := f99_l1 rn (l.length + 1) v0 v1 l.length) (k := l.length + 1) (n := l.length)
    (fun i ws g' => g' = h ∧ ws = [.bool false, iv i] ∧ StepsOk g (l.take i))
    (fun e ws g' => g' = h ∧ ((e = .exit 0 ∧ StepsOk g l) ∨ (e = .ret ∧ ¬ StepsOk g l ∧ AM.gv ws 0 = .bool false)))
    (by
      rintro i ws g' hi ⟨rfl, rfl, m', hm', hlt', hch'⟩
      have hx := List.getElem?_eq_getElem hi
      generalize hxd : l[i] = x at hx
      have hadd : add .i64 (i : Int) 1 = ((i + 1 : Nat) : Int) := by rw [add64 (by omega) (by omega)]; omega
      have hml : m'.length = i := by
        have := congrArg List.length hm'
        rw [List.length_take, List.length_map] at this
        omega
      have bad : ∀ m : List Nat, l = m.map Int.ofNat → ∃ a : Nat, m[i]? = some a ∧ x = a := fun m hm => by
        rw [hm, List.getElem?_map] at hx
        obtain ⟨a, ha, rfl⟩ := Option.map_eq_some_iff.1 hx
        exact ⟨a, ha, rfl⟩
      by_cases h0 : x < 0
      · refine ⟨.ret, [.bool false, iv i], g', ?_, .inr ⟨by simp, rfl, .inr ⟨rfl, ?_, rfl⟩⟩⟩
        · unfold f99_l1
          rw [show AM.gv [.bool false, iv i] 1 = iv i from rfl, asI_int, lt_t (by omega), ifB_true, asK_int, getI hs1 hx, asI_int, lt_t (by omega), ifB_true]
          rfl
        · rintro ⟨m, hm, _, _⟩
          obtain ⟨a, _, rfl⟩ := bad m hm
          omega
      · obtain ⟨a, rfl⟩ : ∃ a : Nat, x = a := ⟨x.toNat, by omega⟩
        by_cases han : a < g.length
        · have hta : l.take (i + 1) = (m' ++ [a]).map Int.ofNat := by rw [List.take_add_one, hx, hm', List.map_append]; rfl
          have hlta : ∀ y ∈ m' ++ [a], y < g.length := fun y hy => by
            rw [List.mem_append, List.mem_singleton] at hy
            rcases hy with hy | rfl
            · exact hlt' y hy
            · exact han
          have pre : ∀ r, (ifB (AM.lt 0 (i : Int)) (
              six v1 (AM.sub .i64 (i : Int) 1) 1 fun b2 b3 =>
              ld Tryd.prog g' 3 b2 b3 fun v3 =>
              asI .i64 v3 fun n7 =>
              six v0 n7 1 fun b4 b5 =>
              ld Tryd.prog g' 3 b4 b5 fun v4 =>
              asI .i64 v4 fun n8 =>
              nn (a : Int) (
                ifB (AM.eq (AM.and .i64 (shr .i64 n8 (a : Int)) 1) 0) (
                  AM.out .ret [(.bool false), iv i] g') (
                  AM.out .normal [.bool false, iv ((i + 1 : Nat) : Int)] g'))) (
              AM.out .normal [.bool false, iv ((i + 1 : Nat) : Int)] g')) = r → f99_l1 rn (l.length + 1) v0 v1 l.length [.bool false, iv i] g' = r := by
            intro r hr
            unfold f99_l1
            rw [show AM.gv [.bool false, iv i] 1 = iv i from rfl, show AM.gv [.bool false, iv i] 0 = .bool false from rfl, asI_int, lt_t (by omega), ifB_true, asK_int, getI hs1 hx, asI_int, show AM.lt (a : Int) 0 = false from decide_eq_false (by omega), ifB_false, hn, show AM.le (g.length : Int) (a : Int) = false by simp [AM.le]; omega, ifB_false, asI_int, asI_int]
            simp only [asI_int, hadd]
            exact hr
          by_cases hi0 : i = 0
          · subst hi0
            refine ⟨.normal, _, g', pre _ rfl, .inl ⟨rfl, rfl, rfl, m' ++ [a], hta, hlta, ?_⟩⟩
            have : m' = [] := List.length_eq_zero_iff.1 hml
            rw [this]; exact trivial
          · obtain ⟨q, p, rfl⟩ := snoc_of (m := m') (by rintro rfl; simp at hml; omega)
            rw [List.length_append, List.length_singleton] at hml
            have hp : l[i - 1]? = some (p : Int) := by
              have h1 : (l.take i)[i - 1]? = some (p : Int) := by
                rw [hm', List.getElem?_map, show i - 1 = q.length by omega, List.getElem?_append_right (Nat.le_refl _), Nat.sub_self]; rfl
              rw [List.getElem?_take_of_lt (by omega)] at h1
              exact h1
            have hpn : p < g.length := hlt' p (by simp)
            have hsub : AM.sub .i64 (i : Int) 1 = ((i - 1 : Nat) : Int) := by rw [sub64 (by omega) (by omega)]; omega
            have hcode : f99_l1 rn (l.length + 1) v0 v1 l.length [.bool false, iv i] g' = ifB (!adj g p a) (AM.out .ret [(.bool false), iv i] g') (AM.out .normal [.bool false, iv ((i + 1 : Nat) : Int)] g') := pre _ (by
              rw [lt_t (by omega), ifB_true, hsub, getI hs1 hp, asI_int]
              simp only [d3]
              rw [getN hs hpn, asI_int, nn_ge (show (0 : Int) ≤ (a : Int) by omega)]
              congr 1
              rw [adj_bit hg.toGrB (by omega)]
              cases adj g p a <;> rfl)
            cases hpa : adj g p a with
            | true =>
              refine ⟨.normal, _, g', by rw [hcode, hpa]; rfl, .inl ⟨rfl, rfl, rfl, q ++ [p] ++ [a], hta, hlta, ?_⟩⟩
              rw [List.append_assoc]
              exact (ch_snoc q p a).2 ⟨hch', hpa⟩
            | false =>
              refine ⟨.ret, [.bool false, iv i], g', by rw [hcode, hpa]; rfl, .inr ⟨by simp, rfl, .inr ⟨rfl, ?_, rfl⟩⟩⟩
              rintro ⟨m, hm, _, hc⟩
              have h1 : m.length = l.length := by rw [hm, List.length_map]
              have h2 := ch_get m hc (i - 1) (by omega)
              have e1 : nb m (i - 1) = p := by
                rw [hm, List.getElem?_map] at hp
                obtain ⟨b, hb, he⟩ := Option.map_eq_some_iff.1 hp
                unfold nb
                rw [List.getD_eq_getElem?_getD, hb]
                exact Int.ofNat.inj he
              have e2 : nb m (i - 1 + 1) = a := by
                obtain ⟨b, hb, he⟩ := bad m hm
                rw [show i - 1 + 1 = i by omega]
                unfold nb
                rw [List.getD_eq_getElem?_getD, hb]
                exact (Int.ofNat.inj he).symm
              rw [e1, e2, hpa] at h2
              cases h2
        · refine ⟨.ret, [.bool false, iv i], g', ?_, .inr ⟨by simp, rfl, .inr ⟨rfl, ?_, rfl⟩⟩⟩
          · unfold f99_l1
            rw [show AM.gv [.bool false, iv i] 1 = iv i from rfl, asI_int, lt_t (by omega), ifB_true, asK_int, getI hs1 hx, asI_int, show AM.lt (a : Int) 0 = false from decide_eq_false (by omega), ifB_false, hn, le_t (by omega), ifB_true]
            rfl
          · rintro ⟨m, hm, hlt, _⟩
            obtain ⟨b, hb, he⟩ := bad m hm
            have := hlt b (List.mem_of_getElem? hb)
            have := Int.ofNat.inj he
            omega)
    (by
      rintro ws g' ⟨rfl, rfl, hk⟩
      rw [List.take_length] at hk
      exact ⟨.exit 0, [.bool false, iv l.length], g', by simp [f99_l1], by simp, rfl, .inl ⟨rfl, hk⟩⟩)
    (ws := [.bool false, iv 0]) (h := h) (by omega) ⟨rfl, rfl, [], rfl, by simp, trivial⟩
  rcases hor with ⟨rfl, hk⟩ | ⟨rfl, hk, hw⟩
  · refine ⟨true, p99 (k := l.length + 1) (h1 := h') ?_ rfl (.refl _), by simp [hk]⟩
    unfold f99
    rw [hn1]
    refine (lp_eq hl).trans ?_
    rfl
  · refine ⟨false, p99 (k := l.length + 1) (h1 := h') ?_ rfl (.refl _), by simp [hk]⟩
    unfold f99
    rw [hn1]
    refine (lp_eq hl).trans ?_
    rw [onE_ret, onR_ret, hw]

theorem s56_l2 {K i met : Nat} {ws0 : List Value} {v6 w : Value} {p : List Nat} {h : H} (hp : ∀ x ∈ p, x < 10) (hmet : met < 1024) (hi : i < 4611686018427387904) (h1 : AM.gv ws0 1 = iv met) (h3 : AM.gv ws0 3 = iv i) (hs : SlR h 3 1 v6 (cellsN p)) (hK : p.length < K) :
    (FrOk i met p ∧ ∃ z, lpGo (f56_l2 rn K ws0 v6 p.length) K [w, iv 0, iv 0] h = some (.exit 2, [w, iv (setOf p : Nat), z], h)) ∨ (¬ FrOk i met p ∧ ∃ ws', lpGo (f56_l2 rn K ws0 v6 p.length) K [w, iv 0, iv 0] h = some (.ret, .bool false :: ws', h)) := by
  have hl62 := hs.lt62
  rw [List.length_map] at hl62
  obtain ⟨e, ws', h', hl, rfl, hor⟩ := lp_range (F := f56_l2 rn K ws0 v6 p.length) (k := K) (n := p.length)
    (fun j ws g' => g' = h ∧ ws = [w, iv (setOf (p.take j) : Nat), iv j] ∧ ∀ t, t < j → (t = 0 ∧ 0 < i → met.testBit (nb p t) = true) ∧ (¬ (t = 0 ∧ 0 < i) → met.testBit (nb p t) = false ∧ nb p t ∉ p.take t))
    (fun e ws g' => g' = h ∧ ((e = .exit 2 ∧ FrOk i met p ∧ ∃ z, ws = [w, iv (setOf p : Nat), z]) ∨ (e = .ret ∧ ¬ FrOk i met p ∧ ∃ ws', ws = .bool false :: ws')))
    (by
      rintro j ws g' hj ⟨rfl, rfl, hok⟩
      obtain ⟨x, hx⟩ : ∃ x, nb p j = x := ⟨_, rfl⟩
      have hxm : x ∈ p := hx ▸ nb_mem hj
      have hx10 := hp x hxm
      have hgx : p[j]? = some x := by rw [← hx]; unfold nb; rw [List.getD_eq_getElem?_getD, List.getElem?_eq_getElem hj]; rfl
      obtain ⟨f, hf⟩ : ∃ f, setOf (p.take j) = f := ⟨_, rfl⟩
      have hflt : f < 1024 := by rw [← hf]; exact setOf_lt (n := 10) fun y hy => hp y (List.mem_of_mem_take hy)
      have hfx : f.testBit x = true ↔ x ∈ p.take j := by rw [← hf]; exact setOf_bit
      have hadd : add .i64 (j : Int) 1 = ((j + 1 : Nat) : Int) := by rw [add64 (by omega) (by omega)]; omega
      have hor' : AM.or .i64 (f : Int) (AM.shl .i64 1 (x : Int)) = ((f ||| 2 ^ x : Nat) : Int) := or_calc2 (n := 10) (by omega) hflt hx10
      have hnext : setOf (p.take (j + 1)) = f ||| 2 ^ x := by rw [List.take_add_one, hgx, ← hf]; exact setOf_snoc _ _
      have e1 : ∀ (Q : Value → Option (Ex × List Value × H)), (six v6 (j : Int) 1 fun b o => ld Tryd.prog g' 3 b o Q) = Q (iv (x : Nat)) := fun Q => by
        simp only [d3]; rw [getN hs hj, hx]
      have hmb : AM.and .i64 (shr .i64 (met : Int) (x : Int)) 1 = if met.testBit x then 1 else 0 := bit_nat (by omega) (by omega)
      have hob : AM.and .i64 (shr .i64 (AM.or .i64 (met : Int) (f : Int)) (x : Int)) 1 = if (met ||| f).testBit x then 1 else 0 := by
        rw [or_nat (by omega) (by omega)]
        have : met ||| f < 1024 := Nat.or_lt_two_pow (n := 10) hmet hflt
        exact bit_nat (by omega) (by omega)
      have hnn : (0 : Int) ≤ (x : Int) := by omega
      -- what is asked at this place
      have good : ((j = 0 ∧ 0 < i → met.testBit (nb p j) = true) ∧ (¬ (j = 0 ∧ 0 < i) → met.testBit (nb p j) = false ∧ nb p j ∉ p.take j)) →
          ∃ e ws' h'', f56_l2 rn K ws0 v6 p.length [w, iv (setOf (p.take j) : Nat), iv j] g' = some (e, ws', h'') ∧ (e = .normal ∧ h'' = g' ∧ ws' = [w, iv (setOf (p.take (j + 1)) : Nat), iv ((j + 1 : Nat) : Int)]) := by
        rintro ⟨g1, g2⟩
        rw [hx] at g1 g2
        rw [hf, hnext]
        refine ⟨_, _, _, ?_, rfl, rfl, rfl⟩
        unfold f56_l2
        simp only [show AM.gv [w, iv (f : Nat), iv j] 0 = w from rfl, show AM.gv [w, iv (f : Nat), iv j] 1 = iv (f : Nat) from rfl, show AM.gv [w, iv (f : Nat), iv j] 2 = iv j from rfl, h1, h3, asI_int, asK_int, lt_t (show (j : Int) < (p.length : Int) by omega), ifB_true, e1, nn_ge hnn, hmb, hob, hor', hadd]
        by_cases hj0 : j = 0
        · by_cases hi0 : 0 < i
          · rw [g1 ⟨hj0, hi0⟩, hj0, show AM.lt (0 : Int) (i : Int) = true from lt_t (by omega)]
            simp
          · obtain ⟨g3, g4⟩ := g2 fun h => hi0 h.2
            have : (met ||| f).testBit x = false := by
              rw [Nat.testBit_or, g3, Bool.false_or]
              exact Bool.eq_false_iff.2 fun h => g4 (hfx.1 h)
            rw [this, hj0, show AM.lt (0 : Int) (i : Int) = false by simp [AM.lt]; omega]
            simp
        · obtain ⟨g3, g4⟩ := g2 fun h => hj0 h.1
          have : (met ||| f).testBit x = false := by
            rw [Nat.testBit_or, g3, Bool.false_or]
            exact Bool.eq_false_iff.2 fun h => g4 (hfx.1 h)
          rw [this, show AM.eq (j : Int) 0 = false by simp [AM.eq]; omega]
          simp
      have bad : ¬ ((j = 0 ∧ 0 < i → met.testBit (nb p j) = true) ∧ (¬ (j = 0 ∧ 0 < i) → met.testBit (nb p j) = false ∧ nb p j ∉ p.take j)) →
          ∃ ws', f56_l2 rn K ws0 v6 p.length [w, iv (setOf (p.take j) : Nat), iv j] g' = some (.ret, .bool false :: ws', g') := by
        intro hbad
        rw [hx] at hbad
        rw [hf]
        refine ⟨[iv (f : Nat), iv j], ?_⟩
        unfold f56_l2
        simp only [show AM.gv [w, iv (f : Nat), iv j] 0 = w from rfl, show AM.gv [w, iv (f : Nat), iv j] 1 = iv (f : Nat) from rfl, show AM.gv [w, iv (f : Nat), iv j] 2 = iv j from rfl, h1, h3, asI_int, asK_int, lt_t (show (j : Int) < (p.length : Int) by omega), ifB_true, e1, nn_ge hnn, hmb, hob, hor', hadd]
        by_cases hc : j = 0 ∧ 0 < i
        · obtain ⟨hj0, hi0⟩ := hc
          have : met.testBit x = false := Bool.eq_false_iff.2 fun h => hbad ⟨fun _ => h, fun h2 => absurd ⟨hj0, hi0⟩ h2⟩
          rw [this, hj0, show AM.lt (0 : Int) (i : Int) = true from lt_t (by omega)]
          simp
        · have : (met ||| f).testBit x = true := by
            rw [Nat.testBit_or, Bool.or_eq_true]
            refine Classical.byContradiction fun hh => hbad ⟨fun h => absurd h hc, fun _ => ⟨Bool.eq_false_iff.2 fun h => hh (.inl h), fun h => hh (.inr (hfx.2 h))⟩⟩
          by_cases hj0 : j = 0
          · have hi0 : ¬ 0 < i := fun h => hc ⟨hj0, h⟩
            rw [this, hj0, show AM.lt (0 : Int) (i : Int) = false by simp [AM.lt]; omega]
            simp
          · rw [this, show AM.eq (j : Int) 0 = false by simp [AM.eq]; omega]
            simp
      by_cases hc : (j = 0 ∧ 0 < i → met.testBit (nb p j) = true) ∧ (¬ (j = 0 ∧ 0 < i) → met.testBit (nb p j) = false ∧ nb p j ∉ p.take j)
      · obtain ⟨e, ws', h'', k1, rfl, rfl, rfl⟩ := good hc
        refine ⟨.normal, _, _, k1, .inl ⟨rfl, rfl, rfl, fun t ht => ?_⟩⟩
        by_cases htj : t = j
        · rw [htj]; exact hc
        · exact hok t (by omega)
      · obtain ⟨ws', k1⟩ := bad hc
        exact ⟨.ret, _, _, k1, .inr ⟨by simp, rfl, .inr ⟨rfl, fun hF => hc (hF j hj), _, rfl⟩⟩⟩)
    (by
      rintro ws g' ⟨rfl, rfl, hok⟩
      rw [List.take_length] at *
      refine ⟨.exit 2, [w, iv (setOf p : Nat), iv p.length], g', ?_, by simp, rfl, .inl ⟨rfl, fun t ht => hok t ht, _, rfl⟩⟩
      unfold f56_l2
      rw [show AM.gv [w, iv (setOf p : Nat), iv p.length] 2 = iv p.length from rfl, asI_int, show AM.lt (p.length : Int) (p.length : Int) = false by simp [AM.lt], ifB_false]
      rfl)
    (ws := [w, iv 0, iv 0]) (h := h) hK ⟨rfl, rfl, fun t ht => by omega⟩
  rcases hor with ⟨rfl, hk, z, rfl⟩ | ⟨rfl, hk, ws', rfl⟩
  · exact .inl ⟨hk, z, hl⟩
  · exact .inr ⟨hk, ws', hl⟩

end Go.AM

end
