/- The staged forms of functions 3, 17, 21, 22, and what calls of these answer. -/
import Derived.Test.YtakhklelgcfgjaaDoorSx
namespace Go.AM
open Go.Proofs

noncomputable def f3 (rec : Rec) (_k : Nat) (v0 : Value) (h0 : H) : Option (Value × H) :=
  calls rec h0 18 [v0] fun v1 h1 =>
  calls rec h1 17 [v1] fun v2 h2 =>
  ext v2 0 fun v3 =>
  ext v2 1 fun v4 =>
  asI .i64 v4 fun n0 =>
  calls rec h2 19 [v0] fun v5 h3 =>
  asB v5 fun q0 =>
  ifB (not q0) (
    len v3 fun n1 =>
    ifB (eq n1 0) (
      ifB (eq n0 2) (
        calls rec h3 20 [] fun v6 h4 =>
        asB v6 fun q1 =>
        some ((.bool q1), h4)) (
        some ((.bool false), h3))) (
      some ((.bool false), h3))) (
    calls rec h3 22 [v0] fun v7 h5 =>
    calls rec h5 21 [v3, v7] fun v8 h6 =>
    asB v8 fun q2 =>
    ifB q2 (
      ifB (eq n0 0) (
        calls rec h6 20 [] fun v9 h7 =>
        asB v9 fun q3 =>
        some ((.bool q3), h7)) (
        some ((.bool false), h6))) (
      some ((.bool false), h6)))

theorem e3 (rec : Rec) (k : Nat) (v0 : Value) (h : H) : bodyT Tryd.prog E0 SC (XC Tryd.prog rec k) 3 (Value × H) [.opq v0] h (fun v h => some (v, h)) = f3 rec k v0 h := by kernel_rfl
theorem t3 {k : Nat} {v0 : Value} {h h1 : H} {v : Value} (hh : f3 rn k v0 h = some (v, h1)) : rn 3 #[v0] h = some (v, trunc Tryd.prog h h1 v) :=
  run_of_bodyT (args := [.opq v0]) rfl ((e3 _ _ _ _).trans hh)
theorem p3 {k : Nat} {v0 : Value} {h h1 : H} {v : Value} (hh : f3 rn k v0 h = some (v, h1)) (hp : plainO v = true) (x : Ext h h1) : rn 3 #[v0] h = some (v, h) := by rw [t3 hh, trunc_pure hp x]
theorem x3 {k : Nat} {v0 : Value} {h h1 : H} {v : Value} (hh : f3 rn k v0 h = some (v, h1)) (hp : plainO v = false) : ∃ h2, rn 3 #[v0] h = some (v, h2) ∧ Sm h1 h2 ∧ (Ext h h1 → Exw h h2) := trunc_cell hp (t3 hh)
theorem y3 {k : Nat} {v0 : Value} {h : H} {v : Value} (hh : f3 rn k v0 h = some (v, h)) : rn 3 #[v0] h = some (v, h) := by rw [t3 hh, trunc_self]

noncomputable def f17_l2 (rec : Rec) (_k : Nat) (v2 : Value) (ws0 : List Value) (ws1 : List Value) (h3 : H) : Option (Ex × List Value × H) :=
  len v2 fun n3 =>
  asI .i64 (gv ws1 1) fun n4 =>
  ifB (lt n4 n3) (
    calls rec h3 65 [v2] fun v4 h4 =>
    asI .i64 v4 fun n5 =>
    calls rec h4 64 [v2, (.int .i64 n5)] fun v5 h5 =>
    asB v5 fun q1 =>
    ifB q1 (
      calls rec h5 65 [v2] fun v6 h6 =>
      asI .i64 v6 fun n6 =>
      asK (gv ws0 1) fun n7 =>
      nn n7 (
        asK (gv ws1 1) fun n8 =>
        nn n8 (
          calls rec h6 64 [v2, (.int .i64 (andNot .i64 (andNot .i64 n6 (shl .i64 1 n7)) (shl .i64 1 n8)))] fun v7 h7 =>
          asB v7 fun q2 =>
          ifB (not q2) (
            bld Tryd.prog 32 [(0, gv ws0 1), (1, gv ws1 1)] fun v8 =>
            bls Tryd.prog h7 24 1 [(0, v8)] fun v9 h8 =>
            app Tryd.prog h8 24 24 (gv ws1 0) v9 fun v10 h9 =>
            asI .i64 (gv ws1 1) fun n9 =>
            out .normal [v10, (.int .i64 (add .i64 n9 1))] h9) (
            asI .i64 (gv ws1 1) fun n10 =>
            out .normal [gv ws1 0, (.int .i64 (add .i64 n10 1))] h7)))) (
      asI .i64 (gv ws1 1) fun n11 =>
      out .normal [gv ws1 0, (.int .i64 (add .i64 n11 1))] h5)) (
    out (.exit 2) [gv ws1 0, gv ws1 1] h3)

noncomputable def f17_l1 (rec : Rec) (k : Nat) (v2 : Value) (n0 : Int) (ws0 : List Value) (h2 : H) : Option (Ex × List Value × H) :=
  asI .i64 (gv ws0 1) fun n1 =>
  ifB (lt n1 n0) (
    asI .i64 (gv ws0 1) fun n2 =>
    lp k (f17_l2 rec k v2 ws0) [gv ws0 0, (.int .i64 (add .i64 n2 1))] h2 fun e0 ws2 h10 =>
    onE e0 2 (
      asI .i64 (gv ws0 1) fun n12 =>
      out .normal [gv ws2 0, (.int .i64 (add .i64 n12 1))] h10) (
      none)) (
    out (.exit 0) [gv ws0 0, gv ws0 1] h2)

noncomputable def f17 (rec : Rec) (k : Nat) (v0 : Value) (h0 : H) : Option (Value × H) :=
  calls rec h0 63 [v0] fun v1 h1 =>
  ext v1 0 fun v2 =>
  ext v1 1 fun v3 =>
  asB v3 fun q0 =>
  ifB (not q0) (
    some ((.tuple #[(.slice none 0 0), (.int .i64 2)]), h1)) (
    len v2 fun n0 =>
    lp k (f17_l1 rec k v2 n0) [(.slice none 0 0), (.int .i64 0)] h1 fun e1 ws3 h11 =>
    onE e1 0 (
      some ((.tuple #[gv ws3 0, (.int .i64 0)]), h11)) (
      none))

theorem e17 (rec : Rec) (k : Nat) (v0 : Value) (h : H) : bodyT Tryd.prog E0 SC (XC Tryd.prog rec k) 17 (Value × H) [.opq v0] h (fun v h => some (v, h)) = f17 rec k v0 h := by kernel_rfl
theorem t17 {k : Nat} {v0 : Value} {h h1 : H} {v : Value} (hh : f17 rn k v0 h = some (v, h1)) : rn 17 #[v0] h = some (v, trunc Tryd.prog h h1 v) :=
  run_of_bodyT (args := [.opq v0]) rfl ((e17 _ _ _ _).trans hh)
theorem p17 {k : Nat} {v0 : Value} {h h1 : H} {v : Value} (hh : f17 rn k v0 h = some (v, h1)) (hp : plainO v = true) (x : Ext h h1) : rn 17 #[v0] h = some (v, h) := by rw [t17 hh, trunc_pure hp x]
theorem x17 {k : Nat} {v0 : Value} {h h1 : H} {v : Value} (hh : f17 rn k v0 h = some (v, h1)) (hp : plainO v = false) : ∃ h2, rn 17 #[v0] h = some (v, h2) ∧ Sm h1 h2 ∧ (Ext h h1 → Exw h h2) := trunc_cell hp (t17 hh)
theorem y17 {k : Nat} {v0 : Value} {h : H} {v : Value} (hh : f17 rn k v0 h = some (v, h)) : rn 17 #[v0] h = some (v, h) := by rw [t17 hh, trunc_self]

noncomputable def f21_l1 (_rec : Rec) (_k : Nat) (v0 : Value) (v1 : Value) (n2 : Int) (ws0 : List Value) (h1 : H) : Option (Ex × List Value × H) :=
  asI .i64 (gv ws0 1) fun n3 =>
  ifB (lt n3 n2) (
    asK (gv ws0 1) fun n4 =>
    six v0 n4 2 fun b0 b1 =>
    ld Tryd.prog h1 32 b0 b1 fun v2 =>
    asK (gv ws0 1) fun n5 =>
    six v1 n5 2 fun b2 b3 =>
    ld Tryd.prog h1 32 b2 b3 fun v3 =>
    eqv Tryd.prog 32 v2 v3 fun q0 =>
    ifB (not q0) (
      out .ret [(.bool false), gv ws0 1] h1) (
      asI .i64 (gv ws0 1) fun n6 =>
      out .normal [gv ws0 0, (.int .i64 (add .i64 n6 1))] h1)) (
    out (.exit 0) [gv ws0 0, gv ws0 1] h1)

noncomputable def f21 (rec : Rec) (k : Nat) (v0 : Value) (v1 : Value) (h0 : H) : Option (Value × H) :=
  len v0 fun n0 =>
  len v1 fun n1 =>
  ifB (not (eq n0 n1)) (
    some ((.bool false), h0)) (
    len v0 fun n2 =>
    lp k (f21_l1 rec k v0 v1 n2) [(.bool false), (.int .i64 0)] h0 fun e0 ws1 h2 =>
    onE e0 0 (
      some ((.bool true), h2)) (
      onR e0 (
        some (gv ws1 0, h2))))

theorem e21 (rec : Rec) (k : Nat) (v0 : Value) (v1 : Value) (h : H) : bodyT Tryd.prog E0 SC (XC Tryd.prog rec k) 21 (Value × H) [.opq v0, .opq v1] h (fun v h => some (v, h)) = f21 rec k v0 v1 h := by kernel_rfl
theorem t21 {k : Nat} {v0 : Value} {v1 : Value} {h h1 : H} {v : Value} (hh : f21 rn k v0 v1 h = some (v, h1)) : rn 21 #[v0, v1] h = some (v, trunc Tryd.prog h h1 v) :=
  run_of_bodyT (args := [.opq v0, .opq v1]) rfl ((e21 _ _ _ _ _).trans hh)
theorem p21 {k : Nat} {v0 : Value} {v1 : Value} {h h1 : H} {v : Value} (hh : f21 rn k v0 v1 h = some (v, h1)) (hp : plainO v = true) (x : Ext h h1) : rn 21 #[v0, v1] h = some (v, h) := by rw [t21 hh, trunc_pure hp x]
theorem x21 {k : Nat} {v0 : Value} {v1 : Value} {h h1 : H} {v : Value} (hh : f21 rn k v0 v1 h = some (v, h1)) (hp : plainO v = false) : ∃ h2, rn 21 #[v0, v1] h = some (v, h2) ∧ Sm h1 h2 ∧ (Ext h h1 → Exw h h2) := trunc_cell hp (t21 hh)
theorem y21 {k : Nat} {v0 : Value} {v1 : Value} {h : H} {v : Value} (hh : f21 rn k v0 v1 h = some (v, h)) : rn 21 #[v0, v1] h = some (v, h) := by rw [t21 hh, trunc_self]

noncomputable def f22_l2 (rec : Rec) (_k : Nat) (v0 : Value) (ws0 : List Value) (ws1 : List Value) (h4 : H) : Option (Ex × List Value × H) :=
  len v0 fun n4 =>
  asI .i64 (gv ws1 1) fun n5 =>
  ifB (lt n5 n4) (
    calls rec h4 68 [v0] fun v3 h5 =>
    asI .i64 v3 fun n6 =>
    asK (gv ws0 1) fun n7 =>
    nn n7 (
      asK (gv ws1 1) fun n8 =>
      nn n8 (
        ifB (not (eq (andNot .i64 (andNot .i64 n6 (shl .i64 1 n7)) (shl .i64 1 n8)) 0)) (
          calls rec h5 67 [v0, (.int .i64 (andNot .i64 (andNot .i64 n6 (shl .i64 1 n7)) (shl .i64 1 n8)))] fun v4 h6 =>
          asB v4 fun q1 =>
          ifB (not q1) (
            bld Tryd.prog 32 [(0, gv ws0 1), (1, gv ws1 1)] fun v5 =>
            bls Tryd.prog h6 24 1 [(0, v5)] fun v6 h7 =>
            app Tryd.prog h7 24 24 (gv ws1 0) v6 fun v7 h8 =>
            asI .i64 (gv ws1 1) fun n9 =>
            out .normal [v7, (.int .i64 (add .i64 n9 1))] h8) (
            asI .i64 (gv ws1 1) fun n10 =>
            out .normal [gv ws1 0, (.int .i64 (add .i64 n10 1))] h6)) (
          asI .i64 (gv ws1 1) fun n11 =>
          out .normal [gv ws1 0, (.int .i64 (add .i64 n11 1))] h5)))) (
    out (.exit 2) [gv ws1 0, gv ws1 1] h4)

noncomputable def f22_l1 (rec : Rec) (k : Nat) (v0 : Value) (n1 : Int) (ws0 : List Value) (h3 : H) : Option (Ex × List Value × H) :=
  asI .i64 (gv ws0 1) fun n2 =>
  ifB (lt n2 n1) (
    asI .i64 (gv ws0 1) fun n3 =>
    lp k (f22_l2 rec k v0 ws0) [gv ws0 0, (.int .i64 (add .i64 n3 1))] h3 fun e0 ws2 h9 =>
    onE e0 2 (
      asI .i64 (gv ws0 1) fun n12 =>
      out .normal [gv ws2 0, (.int .i64 (add .i64 n12 1))] h9) (
      none)) (
    out (.exit 0) [gv ws0 0, gv ws0 1] h3)

noncomputable def f22 (rec : Rec) (k : Nat) (v0 : Value) (h0 : H) : Option (Value × H) :=
  calls rec h0 68 [v0] fun v1 h1 =>
  asI .i64 v1 fun n0 =>
  calls rec h1 67 [v0, (.int .i64 n0)] fun v2 h2 =>
  asB v2 fun q0 =>
  ifB (not q0) (
    some ((.slice none 0 0), h2)) (
    len v0 fun n1 =>
    lp k (f22_l1 rec k v0 n1) [(.slice none 0 0), (.int .i64 0)] h2 fun e1 ws3 h10 =>
    onE e1 0 (
      some (gv ws3 0, h10)) (
      none))

theorem e22 (rec : Rec) (k : Nat) (v0 : Value) (h : H) : bodyT Tryd.prog E0 SC (XC Tryd.prog rec k) 22 (Value × H) [.opq v0] h (fun v h => some (v, h)) = f22 rec k v0 h := by kernel_rfl
theorem t22 {k : Nat} {v0 : Value} {h h1 : H} {v : Value} (hh : f22 rn k v0 h = some (v, h1)) : rn 22 #[v0] h = some (v, trunc Tryd.prog h h1 v) :=
  run_of_bodyT (args := [.opq v0]) rfl ((e22 _ _ _ _).trans hh)
theorem p22 {k : Nat} {v0 : Value} {h h1 : H} {v : Value} (hh : f22 rn k v0 h = some (v, h1)) (hp : plainO v = true) (x : Ext h h1) : rn 22 #[v0] h = some (v, h) := by rw [t22 hh, trunc_pure hp x]
theorem x22 {k : Nat} {v0 : Value} {h h1 : H} {v : Value} (hh : f22 rn k v0 h = some (v, h1)) (hp : plainO v = false) : ∃ h2, rn 22 #[v0] h = some (v, h2) ∧ Sm h1 h2 ∧ (Ext h h1 → Exw h h2) := trunc_cell hp (t22 hh)
theorem y22 {k : Nat} {v0 : Value} {h : H} {v : Value} (hh : f22 rn k v0 h = some (v, h)) : rn 22 #[v0] h = some (v, h) := by rw [t22 hh, trunc_self]

end Go.AM
